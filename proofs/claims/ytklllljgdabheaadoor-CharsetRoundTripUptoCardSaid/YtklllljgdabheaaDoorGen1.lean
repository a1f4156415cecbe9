/- The program's functions, as they compute. Printed by wip/gen. -/
import Derived.Test.YtklllljgdabheaaDoorGen0
namespace Go.Proofs.YtklllljgdabheaaDoorSim
open Go Go.Proofs
open Go.Proofs.Tryd (prog)
set_option linter.unusedVariables false
set_option linter.unusedSimpArgs false
set_option maxRecDepth 100000

variable {pcN : Nat → PC prog} {pc : PC prog} {lN : Nat → LP} {lp : LP}

-- law1_CharsetDecodeMatchesSpec, part 122
abbrev law1_CharsetDecodeMatchesSpec_C1_D := (((List Int) × (Unit × Unit)) × ((Int × (Int × Unit)) × Unit))
abbrev law1_CharsetDecodeMatchesSpec_C1_X := ((Bool × Unit) × ((Int × (Int × Unit)) × Unit))
noncomputable def law1_CharsetDecodeMatchesSpec_C1 (pc : PC prog) (lp : LP) (d : law1_CharsetDecodeMatchesSpec_C1_D) : Option law1_CharsetDecodeMatchesSpec_C1_X :=
  bnd (bnd (ref1_At_c pc 1 (-1)) fun (x6 : (Int × (Int × Unit))) =>
  some (x6.1, (x6.2.1, ()))) fun (x7 : (Int × (Int × Unit))) =>
  ifd (((d.2.1.1 == x7.1) && ((d.2.1.2.1 == x7.2.1) && true)) = true) (
    ifd (((d.2.1.1 == x7.1) && ((d.2.1.2.1 == x7.2.1) && true)) = true) (
      some (((d.1.1 == ([] : List Int)), ()), ((d.2.1.1, d.2.1.2.1, ()), ()))) (
      some ((false, ()), ((d.2.1.1, d.2.1.2.1, ()), ())))) (
    ifd (((d.2.1.1 == x7.1) && ((d.2.1.2.1 == x7.2.1) && true)) = true) (
      none) (
      some ((false, ()), ((d.2.1.1, d.2.1.2.1, ()), ()))))
theorem law1_CharsetDecodeMatchesSpec_C1_a (E : AppE prog pcN pc lN lp) {d : law1_CharsetDecodeMatchesSpec_C1_D} : Approx (fun N => law1_CharsetDecodeMatchesSpec_C1 (pcN N) (lN N) d) (law1_CharsetDecodeMatchesSpec_C1 pc lp d) := by
  delta law1_CharsetDecodeMatchesSpec_C1
  exact (Approx.bnd (Approx.bnd (ref1_At_ca E) fun x6 => (Approx.const _)) fun x7 => (Approx.ifd (Approx.ifd (Approx.const _) (Approx.const _)) (Approx.ifd Approx.none (Approx.const _))))

-- law1_CharsetDecodeMatchesSpec, part 250
abbrev law1_CharsetDecodeMatchesSpec_C2_D := (((List Int) × (Unit × Unit)) × ((Int × (Int × Unit)) × Unit))
abbrev law1_CharsetDecodeMatchesSpec_C2_X := ((Bool × Unit) × ((Int × (Int × Unit)) × Unit))
noncomputable def law1_CharsetDecodeMatchesSpec_C2 (pc : PC prog) (lp : LP) (d : law1_CharsetDecodeMatchesSpec_C2_D) : Option law1_CharsetDecodeMatchesSpec_C2_X :=
  bnd (bnd (ref1_At_c pc 18 (-2)) fun (x13 : (Int × (Int × Unit))) =>
  some (x13.1, (x13.2.1, ()))) fun (x14 : (Int × (Int × Unit))) =>
  ifd (((d.2.1.1 == x14.1) && ((d.2.1.2.1 == x14.2.1) && true)) = true) (
    ifd (((d.2.1.1 == x14.1) && ((d.2.1.2.1 == x14.2.1) && true)) = true) (
      some (((d.1.1 == ([] : List Int)), ()), ((d.2.1.1, d.2.1.2.1, ()), ()))) (
      some ((false, ()), ((d.2.1.1, d.2.1.2.1, ()), ())))) (
    ifd (((d.2.1.1 == x14.1) && ((d.2.1.2.1 == x14.2.1) && true)) = true) (
      none) (
      some ((false, ()), ((d.2.1.1, d.2.1.2.1, ()), ()))))
theorem law1_CharsetDecodeMatchesSpec_C2_a (E : AppE prog pcN pc lN lp) {d : law1_CharsetDecodeMatchesSpec_C2_D} : Approx (fun N => law1_CharsetDecodeMatchesSpec_C2 (pcN N) (lN N) d) (law1_CharsetDecodeMatchesSpec_C2 pc lp d) := by
  delta law1_CharsetDecodeMatchesSpec_C2
  exact (Approx.bnd (Approx.bnd (ref1_At_ca E) fun x13 => (Approx.const _)) fun x14 => (Approx.ifd (Approx.ifd (Approx.const _) (Approx.const _)) (Approx.ifd Approx.none (Approx.const _))))

noncomputable def law1_CharsetDecodeMatchesSpec_B (pc : PC prog) (lp : LP) (a0 : List Int) (a1 : List Int) : Option Bool :=
  bnd (bnd (law1_charsetExample_c pc ) fun (x0 : Bool) =>
  some x0) fun (x1 : Bool) =>
  ifd ((!x1) = true) (
    some false) (
    bnd (bnd (charset_Decode_c pc a0 a1) fun (x2 : ((List Int) × ((Int × (Int × Unit)) × Unit))) =>
    some (x2.1, ((x2.2.1.1, (x2.2.1.2.1, ())), ()))) fun (x3 : ((List Int) × ((Int × (Int × Unit)) × Unit))) =>
    ifd ((decide ((((List.length a1) : Nat) : Int) > 12000)) = true) (
      bnd (law1_CharsetDecodeMatchesSpec_C1 pc lp ((x3.1, (), ()), ((x3.2.1.1, x3.2.1.2.1, ()), ()))) (fun (y8 : ((Bool × Unit) × ((Int × (Int × Unit)) × Unit))) =>
      some y8.1.1)) (
      bnd (bnd (ref1_SetOf_c pc a0) fun (x9 : Int) =>
      some x9) fun (x10 : Int) =>
      ifd ((decide (x10 < 0)) = true) (
        bnd (law1_CharsetDecodeMatchesSpec_C2 pc lp ((x3.1, (), ()), ((x3.2.1.1, x3.2.1.2.1, ()), ()))) (fun (y15 : ((Bool × Unit) × ((Int × (Int × Unit)) × Unit))) =>
        some y15.1.1)) (
        ifd ((x3.2.1.1 == 0) = true) (
          bnd (bnd (ref1_SetOf_c pc a0) fun (x16 : Int) =>
          some x16) fun (x17 : Int) =>
          bnd (bnd (ref1_Decoded_c pc x17 a1) fun (x18 : (List Int)) =>
          some x18) fun (x19 : (List Int)) =>
          ifd ((x3.2.1.1 == 0) = true) (
            some (x3.1 == x19)) (
            some false)) (
          ifd ((x3.2.1.1 == 0) = true) (
            none) (
            some false)))))
theorem law1_CharsetDecodeMatchesSpec_eq (a0 : List Int) (a1 : List Int) (pc : PC prog) (lp : LP) : got law1_CharsetDecodeMatchesSpec_t (pcall prog (runO prog cfg (hand prog cfg lp pc 6 tbl 5) pc 6) 3 [(.c (.str a0)), (.c (.slice .ro (.int .u8) a1))]) = law1_CharsetDecodeMatchesSpec_B pc lp a0 a1 := by kernel_rfl
theorem law1_CharsetDecodeMatchesSpec_ap (E : AppE prog pcN pc lN lp) (a0 : List Int) (a1 : List Int) : Approx (fun N => law1_CharsetDecodeMatchesSpec_B (pcN N) (lN N) a0 a1) (law1_CharsetDecodeMatchesSpec_B pc lp a0 a1) := by
  delta law1_CharsetDecodeMatchesSpec_B
  exact (Approx.bnd (Approx.bnd (law1_charsetExample_ca E) fun x0 => (Approx.const _)) fun x1 => (Approx.ifd (Approx.const _) (Approx.bnd (Approx.bnd (charset_Decode_ca E) fun x2 => (Approx.const _)) fun x3 => (Approx.ifd (Approx.bnd (law1_CharsetDecodeMatchesSpec_C1_a E) (fun y8 => (Approx.const _))) (Approx.bnd (Approx.bnd (ref1_SetOf_ca E) fun x9 => (Approx.const _)) fun x10 => (Approx.ifd (Approx.bnd (law1_CharsetDecodeMatchesSpec_C2_a E) (fun y15 => (Approx.const _))) (Approx.ifd (Approx.bnd (Approx.bnd (ref1_SetOf_ca E) fun x16 => (Approx.const _)) fun x17 => (Approx.bnd (Approx.bnd (ref1_Decoded_ca E) fun x18 => (Approx.const _)) fun x19 => (Approx.ifd (Approx.const _) (Approx.const _)))) (Approx.ifd Approx.none (Approx.const _)))))))))
theorem law1_CharsetDecodeMatchesSpec_of {a0 : List Int} {a1 : List Int} {y : Bool} (h : law1_CharsetDecodeMatchesSpec_B (pcL prog cfg) lpL a0 a1 = some y) : law1_CharsetDecodeMatchesSpec_c (pcL prog cfg) a0 a1 = some y := fn_of rfl (law1_CharsetDecodeMatchesSpec_eq a0 a1) (law1_CharsetDecodeMatchesSpec_ap (appN prog cfg) a0 a1) h

-- law1_CharsetEncodeMatchesSpec, part 122
abbrev law1_CharsetEncodeMatchesSpec_C1_D := (((List Int) × (Unit × Unit)) × ((Int × (Int × Unit)) × Unit))
abbrev law1_CharsetEncodeMatchesSpec_C1_X := ((Bool × Unit) × ((Int × (Int × Unit)) × Unit))
noncomputable def law1_CharsetEncodeMatchesSpec_C1 (pc : PC prog) (lp : LP) (d : law1_CharsetEncodeMatchesSpec_C1_D) : Option law1_CharsetEncodeMatchesSpec_C1_X :=
  bnd (bnd (ref1_At_c pc 1 (-1)) fun (x6 : (Int × (Int × Unit))) =>
  some (x6.1, (x6.2.1, ()))) fun (x7 : (Int × (Int × Unit))) =>
  ifd (((d.2.1.1 == x7.1) && ((d.2.1.2.1 == x7.2.1) && true)) = true) (
    ifd (((d.2.1.1 == x7.1) && ((d.2.1.2.1 == x7.2.1) && true)) = true) (
      some ((((((List.length d.1.1) : Nat) : Int) == 0), ()), ((d.2.1.1, d.2.1.2.1, ()), ()))) (
      some ((false, ()), ((d.2.1.1, d.2.1.2.1, ()), ())))) (
    ifd (((d.2.1.1 == x7.1) && ((d.2.1.2.1 == x7.2.1) && true)) = true) (
      none) (
      some ((false, ()), ((d.2.1.1, d.2.1.2.1, ()), ()))))
theorem law1_CharsetEncodeMatchesSpec_C1_a (E : AppE prog pcN pc lN lp) {d : law1_CharsetEncodeMatchesSpec_C1_D} : Approx (fun N => law1_CharsetEncodeMatchesSpec_C1 (pcN N) (lN N) d) (law1_CharsetEncodeMatchesSpec_C1 pc lp d) := by
  delta law1_CharsetEncodeMatchesSpec_C1
  exact (Approx.bnd (Approx.bnd (ref1_At_ca E) fun x6 => (Approx.const _)) fun x7 => (Approx.ifd (Approx.ifd (Approx.const _) (Approx.const _)) (Approx.ifd Approx.none (Approx.const _))))

-- law1_CharsetEncodeMatchesSpec, part 250
abbrev law1_CharsetEncodeMatchesSpec_C2_D := (((List Int) × (Unit × Unit)) × ((Int × (Int × Unit)) × Unit))
abbrev law1_CharsetEncodeMatchesSpec_C2_X := ((Bool × Unit) × ((Int × (Int × Unit)) × Unit))
noncomputable def law1_CharsetEncodeMatchesSpec_C2 (pc : PC prog) (lp : LP) (d : law1_CharsetEncodeMatchesSpec_C2_D) : Option law1_CharsetEncodeMatchesSpec_C2_X :=
  bnd (bnd (ref1_At_c pc 18 (-2)) fun (x13 : (Int × (Int × Unit))) =>
  some (x13.1, (x13.2.1, ()))) fun (x14 : (Int × (Int × Unit))) =>
  ifd (((d.2.1.1 == x14.1) && ((d.2.1.2.1 == x14.2.1) && true)) = true) (
    ifd (((d.2.1.1 == x14.1) && ((d.2.1.2.1 == x14.2.1) && true)) = true) (
      some ((((((List.length d.1.1) : Nat) : Int) == 0), ()), ((d.2.1.1, d.2.1.2.1, ()), ()))) (
      some ((false, ()), ((d.2.1.1, d.2.1.2.1, ()), ())))) (
    ifd (((d.2.1.1 == x14.1) && ((d.2.1.2.1 == x14.2.1) && true)) = true) (
      none) (
      some ((false, ()), ((d.2.1.1, d.2.1.2.1, ()), ()))))
theorem law1_CharsetEncodeMatchesSpec_C2_a (E : AppE prog pcN pc lN lp) {d : law1_CharsetEncodeMatchesSpec_C2_D} : Approx (fun N => law1_CharsetEncodeMatchesSpec_C2 (pcN N) (lN N) d) (law1_CharsetEncodeMatchesSpec_C2 pc lp d) := by
  delta law1_CharsetEncodeMatchesSpec_C2
  exact (Approx.bnd (Approx.bnd (ref1_At_ca E) fun x13 => (Approx.const _)) fun x14 => (Approx.ifd (Approx.ifd (Approx.const _) (Approx.const _)) (Approx.ifd Approx.none (Approx.const _))))

-- law1_CharsetEncodeMatchesSpec, part 506
abbrev law1_CharsetEncodeMatchesSpec_C3_D := (((List Int) × (Unit × Unit)) × ((Int × (Int × Unit)) × Unit))
abbrev law1_CharsetEncodeMatchesSpec_C3_X := ((Bool × Unit) × ((Int × (Int × Unit)) × Unit))
noncomputable def law1_CharsetEncodeMatchesSpec_C3 (pc : PC prog) (lp : LP) (d : law1_CharsetEncodeMatchesSpec_C3_D) : Option law1_CharsetEncodeMatchesSpec_C3_X :=
  bnd (bnd (ref1_At_c pc 5 (-3)) fun (x20 : (Int × (Int × Unit))) =>
  some (x20.1, (x20.2.1, ()))) fun (x21 : (Int × (Int × Unit))) =>
  ifd (((d.2.1.1 == x21.1) && ((d.2.1.2.1 == x21.2.1) && true)) = true) (
    ifd (((d.2.1.1 == x21.1) && ((d.2.1.2.1 == x21.2.1) && true)) = true) (
      some ((((((List.length d.1.1) : Nat) : Int) == 0), ()), ((d.2.1.1, d.2.1.2.1, ()), ()))) (
      some ((false, ()), ((d.2.1.1, d.2.1.2.1, ()), ())))) (
    ifd (((d.2.1.1 == x21.1) && ((d.2.1.2.1 == x21.2.1) && true)) = true) (
      none) (
      some ((false, ()), ((d.2.1.1, d.2.1.2.1, ()), ()))))
theorem law1_CharsetEncodeMatchesSpec_C3_a (E : AppE prog pcN pc lN lp) {d : law1_CharsetEncodeMatchesSpec_C3_D} : Approx (fun N => law1_CharsetEncodeMatchesSpec_C3 (pcN N) (lN N) d) (law1_CharsetEncodeMatchesSpec_C3 pc lp d) := by
  delta law1_CharsetEncodeMatchesSpec_C3
  exact (Approx.bnd (Approx.bnd (ref1_At_ca E) fun x20 => (Approx.const _)) fun x21 => (Approx.ifd (Approx.ifd (Approx.const _) (Approx.const _)) (Approx.ifd Approx.none (Approx.const _))))

noncomputable def law1_CharsetEncodeMatchesSpec_B (pc : PC prog) (lp : LP) (a0 : List Int) (a1 : List Int) : Option Bool :=
  bnd (bnd (law1_charsetExample_c pc ) fun (x0 : Bool) =>
  some x0) fun (x1 : Bool) =>
  ifd ((!x1) = true) (
    some false) (
    bnd (bnd (charset_Encode_c pc a0 a1) fun (x2 : ((List Int) × ((Int × (Int × Unit)) × Unit))) =>
    some (x2.1, ((x2.2.1.1, (x2.2.1.2.1, ())), ()))) fun (x3 : ((List Int) × ((Int × (Int × Unit)) × Unit))) =>
    ifd ((decide ((((List.length a1) : Nat) : Int) > 12000)) = true) (
      bnd (law1_CharsetEncodeMatchesSpec_C1 pc lp ((x3.1, (), ()), ((x3.2.1.1, x3.2.1.2.1, ()), ()))) (fun (y8 : ((Bool × Unit) × ((Int × (Int × Unit)) × Unit))) =>
      some y8.1.1)) (
      bnd (bnd (ref1_SetOf_c pc a0) fun (x9 : Int) =>
      some x9) fun (x10 : Int) =>
      ifd ((decide (x10 < 0)) = true) (
        bnd (law1_CharsetEncodeMatchesSpec_C2 pc lp ((x3.1, (), ()), ((x3.2.1.1, x3.2.1.2.1, ()), ()))) (fun (y15 : ((Bool × Unit) × ((Int × (Int × Unit)) × Unit))) =>
        some y15.1.1)) (
        bnd (bnd (ref1_Valid_c pc a1) fun (x16 : Bool) =>
        some x16) fun (x17 : Bool) =>
        ifd ((!x17) = true) (
          bnd (law1_CharsetEncodeMatchesSpec_C3 pc lp ((x3.1, (), ()), ((x3.2.1.1, x3.2.1.2.1, ()), ()))) (fun (y22 : ((Bool × Unit) × ((Int × (Int × Unit)) × Unit))) =>
          some y22.1.1)) (
          bnd (bnd (ref1_SetOf_c pc a0) fun (x23 : Int) =>
          some x23) fun (x24 : Int) =>
          bnd (bnd (ref1_Encoded_c pc x24 a1) fun (x25 : ((List Int) × (Int × Unit))) =>
          some (x25.1, (x25.2.1, ()))) fun (x26 : ((List Int) × (Int × Unit))) =>
          ifd ((decide (x26.2.1 ≥ 0)) = true) (
            bnd (bnd (ref1_At_c pc 17 x26.2.1) fun (x27 : (Int × (Int × Unit))) =>
            some (x27.1, (x27.2.1, ()))) fun (x28 : (Int × (Int × Unit))) =>
            ifd (((x3.2.1.1 == x28.1) && ((x3.2.1.2.1 == x28.2.1) && true)) = true) (
              ifd (((x3.2.1.1 == x28.1) && ((x3.2.1.2.1 == x28.2.1) && true)) = true) (
                some ((((List.length x3.1) : Nat) : Int) == 0)) (
                some false)) (
              ifd (((x3.2.1.1 == x28.1) && ((x3.2.1.2.1 == x28.2.1) && true)) = true) (
                none) (
                some false))) (
            ifd ((x3.2.1.1 == 0) = true) (
              bnd (bnd (ref1_Bytes_c pc x3.1 x26.1) fun (x29 : Bool) =>
              some x29) fun (x30 : Bool) =>
              ifd ((x3.2.1.1 == 0) = true) (
                some x30) (
                some false)) (
              ifd ((x3.2.1.1 == 0) = true) (
                none) (
                some false)))))))
theorem law1_CharsetEncodeMatchesSpec_eq (a0 : List Int) (a1 : List Int) (pc : PC prog) (lp : LP) : got law1_CharsetEncodeMatchesSpec_t (pcall prog (runO prog cfg (hand prog cfg lp pc 6 tbl 5) pc 6) 4 [(.c (.str a0)), (.c (.str a1))]) = law1_CharsetEncodeMatchesSpec_B pc lp a0 a1 := by kernel_rfl
theorem law1_CharsetEncodeMatchesSpec_ap (E : AppE prog pcN pc lN lp) (a0 : List Int) (a1 : List Int) : Approx (fun N => law1_CharsetEncodeMatchesSpec_B (pcN N) (lN N) a0 a1) (law1_CharsetEncodeMatchesSpec_B pc lp a0 a1) := by
  delta law1_CharsetEncodeMatchesSpec_B
  exact (Approx.bnd (Approx.bnd (law1_charsetExample_ca E) fun x0 => (Approx.const _)) fun x1 => (Approx.ifd (Approx.const _) (Approx.bnd (Approx.bnd (charset_Encode_ca E) fun x2 => (Approx.const _)) fun x3 => (Approx.ifd (Approx.bnd (law1_CharsetEncodeMatchesSpec_C1_a E) (fun y8 => (Approx.const _))) (Approx.bnd (Approx.bnd (ref1_SetOf_ca E) fun x9 => (Approx.const _)) fun x10 => (Approx.ifd (Approx.bnd (law1_CharsetEncodeMatchesSpec_C2_a E) (fun y15 => (Approx.const _))) (Approx.bnd (Approx.bnd (ref1_Valid_ca E) fun x16 => (Approx.const _)) fun x17 => (Approx.ifd (Approx.bnd (law1_CharsetEncodeMatchesSpec_C3_a E) (fun y22 => (Approx.const _))) (Approx.bnd (Approx.bnd (ref1_SetOf_ca E) fun x23 => (Approx.const _)) fun x24 => (Approx.bnd (Approx.bnd (ref1_Encoded_ca E) fun x25 => (Approx.const _)) fun x26 => (Approx.ifd (Approx.bnd (Approx.bnd (ref1_At_ca E) fun x27 => (Approx.const _)) fun x28 => (Approx.ifd (Approx.ifd (Approx.const _) (Approx.const _)) (Approx.ifd Approx.none (Approx.const _)))) (Approx.ifd (Approx.bnd (Approx.bnd (ref1_Bytes_ca E) fun x29 => (Approx.const _)) fun x30 => (Approx.ifd (Approx.const _) (Approx.const _))) (Approx.ifd Approx.none (Approx.const _))))))))))))))
theorem law1_CharsetEncodeMatchesSpec_of {a0 : List Int} {a1 : List Int} {y : Bool} (h : law1_CharsetEncodeMatchesSpec_B (pcL prog cfg) lpL a0 a1 = some y) : law1_CharsetEncodeMatchesSpec_c (pcL prog cfg) a0 a1 = some y := fn_of rfl (law1_CharsetEncodeMatchesSpec_eq a0 a1) (law1_CharsetEncodeMatchesSpec_ap (appN prog cfg) a0 a1) h

noncomputable def law1_CharsetRoundTrip_B (pc : PC prog) (lp : LP) (a0 : List Int) (a1 : List Int) : Option Bool :=
  bnd (bnd (law1_charsetExample_c pc ) fun (x0 : Bool) =>
  some x0) fun (x1 : Bool) =>
  ifd ((!x1) = true) (
    some false) (
    bnd (bnd (charset_Encode_c pc a0 a1) fun (x2 : ((List Int) × ((Int × (Int × Unit)) × Unit))) =>
    some (x2.1, ((x2.2.1.1, (x2.2.1.2.1, ())), ()))) fun (x3 : ((List Int) × ((Int × (Int × Unit)) × Unit))) =>
    ifd ((x3.2.1.1 != 0) = true) (
      some ((((List.length x3.1) : Nat) : Int) == 0)) (
      ifd ((decide ((((List.length x3.1) : Nat) : Int) > 12000)) = true) (
        some true) (
        bnd (bnd (charset_Decode_c pc a0 x3.1) fun (x4 : ((List Int) × ((Int × (Int × Unit)) × Unit))) =>
        some (x4.1, ((x4.2.1.1, (x4.2.1.2.1, ())), ()))) fun (x5 : ((List Int) × ((Int × (Int × Unit)) × Unit))) =>
        ifd ((x5.2.1.1 == 0) = true) (
          ifd ((x5.2.1.1 == 0) = true) (
            some (x5.1 == a1)) (
            some false)) (
          ifd ((x5.2.1.1 == 0) = true) (
            none) (
            some false)))))
theorem law1_CharsetRoundTrip_eq (a0 : List Int) (a1 : List Int) (pc : PC prog) (lp : LP) : got law1_CharsetRoundTrip_t (pcall prog (runO prog cfg (hand prog cfg lp pc 6 tbl 5) pc 6) 5 [(.c (.str a0)), (.c (.str a1))]) = law1_CharsetRoundTrip_B pc lp a0 a1 := by kernel_rfl
theorem law1_CharsetRoundTrip_ap (E : AppE prog pcN pc lN lp) (a0 : List Int) (a1 : List Int) : Approx (fun N => law1_CharsetRoundTrip_B (pcN N) (lN N) a0 a1) (law1_CharsetRoundTrip_B pc lp a0 a1) := by
  delta law1_CharsetRoundTrip_B
  exact (Approx.bnd (Approx.bnd (law1_charsetExample_ca E) fun x0 => (Approx.const _)) fun x1 => (Approx.ifd (Approx.const _) (Approx.bnd (Approx.bnd (charset_Encode_ca E) fun x2 => (Approx.const _)) fun x3 => (Approx.ifd (Approx.const _) (Approx.ifd (Approx.const _) (Approx.bnd (Approx.bnd (charset_Decode_ca E) fun x4 => (Approx.const _)) fun x5 => (Approx.ifd (Approx.ifd (Approx.const _) (Approx.const _)) (Approx.ifd Approx.none (Approx.const _)))))))))
theorem law1_CharsetRoundTrip_of {a0 : List Int} {a1 : List Int} {y : Bool} (h : law1_CharsetRoundTrip_B (pcL prog cfg) lpL a0 a1 = some y) : law1_CharsetRoundTrip_c (pcL prog cfg) a0 a1 = some y := fn_of rfl (law1_CharsetRoundTrip_eq a0 a1) (law1_CharsetRoundTrip_ap (appN prog cfg) a0 a1) h

-- law1_CharsetBestIsLeast, part 6
abbrev law1_CharsetBestIsLeast_C1_D := (((List Int) × Unit) × Unit)
abbrev law1_CharsetBestIsLeast_C1_X := (((List Int) × (Bool × Unit)) × Unit)
noncomputable def law1_CharsetBestIsLeast_C1 (pc : PC prog) (lp : LP) (d : law1_CharsetBestIsLeast_C1_D) : Option law1_CharsetBestIsLeast_C1_X :=
  bnd (bnd (law1_charsetExample_c pc ) fun (x6 : Bool) =>
  some x6) fun (x7 : Bool) =>
  ifd ((!x7) = true) (
    ifd ((!x7) = true) (
      some ((d.1.1, true, ()), ())) (
      none)) (
    bnd (bnd (charset_Best_c pc d.1.1) fun (x8 : (List Int)) =>
    some x8) fun (x9 : (List Int)) =>
    bnd (bnd (ref1_Best_c pc d.1.1) fun (x10 : (List Int)) =>
    some x10) fun (x11 : (List Int)) =>
    ifd ((!x7) = true) (
      some ((d.1.1, true, ()), ())) (
      some ((d.1.1, (!(x9 == x11)), ()), ())))
theorem law1_CharsetBestIsLeast_C1_a (E : AppE prog pcN pc lN lp) {d : law1_CharsetBestIsLeast_C1_D} : Approx (fun N => law1_CharsetBestIsLeast_C1 (pcN N) (lN N) d) (law1_CharsetBestIsLeast_C1 pc lp d) := by
  delta law1_CharsetBestIsLeast_C1
  exact (Approx.bnd (Approx.bnd (law1_charsetExample_ca E) fun x6 => (Approx.const _)) fun x7 => (Approx.ifd (Approx.ifd (Approx.const _) Approx.none) (Approx.bnd (Approx.bnd (charset_Best_ca E) fun x8 => (Approx.const _)) fun x9 => (Approx.bnd (Approx.bnd (ref1_Best_ca E) fun x10 => (Approx.const _)) fun x11 => (Approx.ifd (Approx.const _) (Approx.const _))))))

-- law1_CharsetBestIsLeast, part 14
abbrev law1_CharsetBestIsLeast_C2_D := (((List Int) × Unit) × Unit)
abbrev law1_CharsetBestIsLeast_C2_X := (((List Int) × (Bool × Unit)) × Unit)
noncomputable def law1_CharsetBestIsLeast_C2 (pc : PC prog) (lp : LP) (d : law1_CharsetBestIsLeast_C2_D) : Option law1_CharsetBestIsLeast_C2_X :=
  ifd ((decide ((((List.length d.1.1) : Nat) : Int) > 12000)) = true) (
    ifd ((decide ((((List.length d.1.1) : Nat) : Int) > 12000)) = true) (
      some ((d.1.1, true, ()), ())) (
      none)) (
    bnd (bnd (ref1_Valid_c pc d.1.1) fun (x15 : Bool) =>
    some x15) fun (x16 : Bool) =>
    ifd ((decide ((((List.length d.1.1) : Nat) : Int) > 12000)) = true) (
      some ((d.1.1, true, ()), ())) (
      some ((d.1.1, (!x16), ()), ())))
theorem law1_CharsetBestIsLeast_C2_a (E : AppE prog pcN pc lN lp) {d : law1_CharsetBestIsLeast_C2_D} : Approx (fun N => law1_CharsetBestIsLeast_C2 (pcN N) (lN N) d) (law1_CharsetBestIsLeast_C2 pc lp d) := by
  delta law1_CharsetBestIsLeast_C2
  exact (Approx.ifd (Approx.ifd (Approx.const _) Approx.none) (Approx.bnd (Approx.bnd (ref1_Valid_ca E) fun x15 => (Approx.const _)) fun x16 => (Approx.ifd (Approx.const _) (Approx.const _))))

-- law1_CharsetBestIsLeast, part 4074
abbrev law1_CharsetBestIsLeast_C3_D := ((Unit × (Unit × Unit)) × ((Int × (Int × Unit)) × ((Int × (Int × Unit)) × ((Int × (Int × Unit)) × Unit))))
abbrev law1_CharsetBestIsLeast_C3_X := ((Bool × Unit) × ((Int × (Int × Unit)) × ((Int × (Int × Unit)) × ((Int × (Int × Unit)) × Unit))))
noncomputable def law1_CharsetBestIsLeast_C3 (pc : PC prog) (lp : LP) (d : law1_CharsetBestIsLeast_C3_D) : Option law1_CharsetBestIsLeast_C3_X :=
  ifd ((d.2.1.1 == 0) = true) (
    ifd ((d.2.1.1 == 0) = true) (
      some (((d.2.2.1.1 == 0), ()), ((d.2.1.1, d.2.1.2.1, ()), (d.2.2.1.1, d.2.2.1.2.1, ()), (d.2.2.2.1.1, d.2.2.2.1.2.1, ()), ()))) (
      some ((false, ()), ((d.2.1.1, d.2.1.2.1, ()), (d.2.2.1.1, d.2.2.1.2.1, ()), (d.2.2.2.1.1, d.2.2.2.1.2.1, ()), ())))) (
    ifd ((d.2.1.1 == 0) = true) (
      none) (
      some ((false, ()), ((d.2.1.1, d.2.1.2.1, ()), (d.2.2.1.1, d.2.2.1.2.1, ()), (d.2.2.2.1.1, d.2.2.2.1.2.1, ()), ()))))
theorem law1_CharsetBestIsLeast_C3_a (E : AppE prog pcN pc lN lp) {d : law1_CharsetBestIsLeast_C3_D} : Approx (fun N => law1_CharsetBestIsLeast_C3 (pcN N) (lN N) d) (law1_CharsetBestIsLeast_C3 pc lp d) := by
  delta law1_CharsetBestIsLeast_C3
  exact (Approx.ifd (Approx.ifd (Approx.const _) (Approx.const _)) (Approx.ifd Approx.none (Approx.const _)))

-- law1_CharsetBestIsLeast, part 16302
abbrev law1_CharsetBestIsLeast_C4_D := ((Unit × (Unit × (Unit × Unit))) × ((Int × (Int × Unit)) × ((Int × (Int × Unit)) × ((Int × (Int × Unit)) × Unit))))
abbrev law1_CharsetBestIsLeast_C4_X := ((Bool × Unit) × ((Int × (Int × Unit)) × ((Int × (Int × Unit)) × ((Int × (Int × Unit)) × Unit))))
noncomputable def law1_CharsetBestIsLeast_C4 (pc : PC prog) (lp : LP) (d : law1_CharsetBestIsLeast_C4_D) : Option law1_CharsetBestIsLeast_C4_X :=
  ifd ((d.2.1.1 == 0) = true) (
    ifd ((d.2.1.1 == 0) = true) (
      ifd ((d.2.2.1.1 != 0) = true) (
        ifd ((d.2.2.1.1 != 0) = true) (
          some (((d.2.2.2.1.1 == 0), ()), ((d.2.1.1, d.2.1.2.1, ()), (d.2.2.1.1, d.2.2.1.2.1, ()), (d.2.2.2.1.1, d.2.2.2.1.2.1, ()), ()))) (
          some ((false, ()), ((d.2.1.1, d.2.1.2.1, ()), (d.2.2.1.1, d.2.2.1.2.1, ()), (d.2.2.2.1.1, d.2.2.2.1.2.1, ()), ())))) (
        ifd ((d.2.2.1.1 != 0) = true) (
          none) (
          some ((false, ()), ((d.2.1.1, d.2.1.2.1, ()), (d.2.2.1.1, d.2.2.1.2.1, ()), (d.2.2.2.1.1, d.2.2.2.1.2.1, ()), ()))))) (
      some ((false, ()), ((d.2.1.1, d.2.1.2.1, ()), (d.2.2.1.1, d.2.2.1.2.1, ()), (d.2.2.2.1.1, d.2.2.2.1.2.1, ()), ())))) (
    ifd ((d.2.1.1 == 0) = true) (
      none) (
      some ((false, ()), ((d.2.1.1, d.2.1.2.1, ()), (d.2.2.1.1, d.2.2.1.2.1, ()), (d.2.2.2.1.1, d.2.2.2.1.2.1, ()), ()))))
theorem law1_CharsetBestIsLeast_C4_a (E : AppE prog pcN pc lN lp) {d : law1_CharsetBestIsLeast_C4_D} : Approx (fun N => law1_CharsetBestIsLeast_C4 (pcN N) (lN N) d) (law1_CharsetBestIsLeast_C4 pc lp d) := by
  delta law1_CharsetBestIsLeast_C4
  exact (Approx.ifd (Approx.ifd (Approx.ifd (Approx.ifd (Approx.const _) (Approx.const _)) (Approx.ifd Approx.none (Approx.const _))) (Approx.const _)) (Approx.ifd Approx.none (Approx.const _)))

noncomputable def law1_CharsetBestIsLeast_B (pc : PC prog) (lp : LP) (a0 : List Int) : Option Bool :=
  bnd (law1_CharsetBestIsLeast_C1 pc lp ((a0, ()), ())) (fun (y12 : (((List Int) × (Bool × Unit)) × Unit)) =>
  ifd (y12.1.2.1 = true) (
    some false) (
    bnd (law1_CharsetBestIsLeast_C2 pc lp ((y12.1.1, ()), ())) (fun (y17 : (((List Int) × (Bool × Unit)) × Unit)) =>
    ifd (y17.1.2.1 = true) (
      some true) (
      bnd (bnd (charset_Best_c pc y17.1.1) fun (x18 : (List Int)) =>
      some x18) fun (x19 : (List Int)) =>
      bnd (bnd (charset_Encode_c pc x19 y17.1.1) fun (x20 : ((List Int) × ((Int × (Int × Unit)) × Unit))) =>
      some (x20.1, ((x20.2.1.1, (x20.2.1.2.1, ())), ()))) fun (x21 : ((List Int) × ((Int × (Int × Unit)) × Unit))) =>
      bnd (bnd (charset_Encode_c pc ([97, 115, 99, 105, 105] : List Int) y17.1.1) fun (x22 : ((List Int) × ((Int × (Int × Unit)) × Unit))) =>
      some (x22.1, ((x22.2.1.1, (x22.2.1.2.1, ())), ()))) fun (x23 : ((List Int) × ((Int × (Int × Unit)) × Unit))) =>
      bnd (bnd (charset_Encode_c pc ([108, 97, 116, 105, 110, 49] : List Int) y17.1.1) fun (x24 : ((List Int) × ((Int × (Int × Unit)) × Unit))) =>
      some (x24.1, ((x24.2.1.1, (x24.2.1.2.1, ())), ()))) fun (x25 : ((List Int) × ((Int × (Int × Unit)) × Unit))) =>
      bnd (bnd (charset_Best_c pc y17.1.1) fun (x26 : (List Int)) =>
      some x26) fun (x27 : (List Int)) =>
      ifd ((x27 == ([97, 115, 99, 105, 105] : List Int)) = true) (
        bnd (law1_CharsetBestIsLeast_C3 pc lp (((), (), ()), ((x21.2.1.1, x21.2.1.2.1, ()), (x23.2.1.1, x23.2.1.2.1, ()), (x25.2.1.1, x25.2.1.2.1, ()), ()))) (fun (y28 : ((Bool × Unit) × ((Int × (Int × Unit)) × ((Int × (Int × Unit)) × ((Int × (Int × Unit)) × Unit))))) =>
        some y28.1.1)) (
        ifd ((x27 == ([108, 97, 116, 105, 110, 49] : List Int)) = true) (
          bnd (law1_CharsetBestIsLeast_C4 pc lp (((), (), (), ()), ((x21.2.1.1, x21.2.1.2.1, ()), (x23.2.1.1, x23.2.1.2.1, ()), (x25.2.1.1, x25.2.1.2.1, ()), ()))) (fun (y29 : ((Bool × Unit) × ((Int × (Int × Unit)) × ((Int × (Int × Unit)) × ((Int × (Int × Unit)) × Unit))))) =>
          some y29.1.1)) (
          ifd ((x21.2.1.1 == 0) = true) (
            ifd ((x21.2.1.1 == 0) = true) (
              ifd ((x23.2.1.1 != 0) = true) (
                ifd ((x23.2.1.1 != 0) = true) (
                  some (x25.2.1.1 != 0)) (
                  some false)) (
                ifd ((x23.2.1.1 != 0) = true) (
                  none) (
                  some false))) (
              some false)) (
            ifd ((x21.2.1.1 == 0) = true) (
              none) (
              some false))))))))
theorem law1_CharsetBestIsLeast_eq (a0 : List Int) (pc : PC prog) (lp : LP) : got law1_CharsetBestIsLeast_t (pcall prog (runO prog cfg (hand prog cfg lp pc 6 tbl 5) pc 6) 6 [(.c (.str a0))]) = law1_CharsetBestIsLeast_B pc lp a0 := by kernel_rfl
theorem law1_CharsetBestIsLeast_ap (E : AppE prog pcN pc lN lp) (a0 : List Int) : Approx (fun N => law1_CharsetBestIsLeast_B (pcN N) (lN N) a0) (law1_CharsetBestIsLeast_B pc lp a0) := by
  delta law1_CharsetBestIsLeast_B
  exact (Approx.bnd (law1_CharsetBestIsLeast_C1_a E) (fun y12 => (Approx.ifd (Approx.const _) (Approx.bnd (law1_CharsetBestIsLeast_C2_a E) (fun y17 => (Approx.ifd (Approx.const _) (Approx.bnd (Approx.bnd (charset_Best_ca E) fun x18 => (Approx.const _)) fun x19 => (Approx.bnd (Approx.bnd (charset_Encode_ca E) fun x20 => (Approx.const _)) fun x21 => (Approx.bnd (Approx.bnd (charset_Encode_ca E) fun x22 => (Approx.const _)) fun x23 => (Approx.bnd (Approx.bnd (charset_Encode_ca E) fun x24 => (Approx.const _)) fun x25 => (Approx.bnd (Approx.bnd (charset_Best_ca E) fun x26 => (Approx.const _)) fun x27 => (Approx.ifd (Approx.bnd (law1_CharsetBestIsLeast_C3_a E) (fun y28 => (Approx.const _))) (Approx.ifd (Approx.bnd (law1_CharsetBestIsLeast_C4_a E) (fun y29 => (Approx.const _))) (Approx.ifd (Approx.ifd (Approx.ifd (Approx.ifd (Approx.const _) (Approx.const _)) (Approx.ifd Approx.none (Approx.const _))) (Approx.const _)) (Approx.ifd Approx.none (Approx.const _))))))))))))))))
theorem law1_CharsetBestIsLeast_of {a0 : List Int} {y : Bool} (h : law1_CharsetBestIsLeast_B (pcL prog cfg) lpL a0 = some y) : law1_CharsetBestIsLeast_c (pcL prog cfg) a0 = some y := fn_of rfl (law1_CharsetBestIsLeast_eq a0) (law1_CharsetBestIsLeast_ap (appN prog cfg) a0) h

-- law1_CharsetDecodesValid, part 30
abbrev law1_CharsetDecodesValid_C1_D := (((List Int) × ((List Int) × ((List Int) × ((List Int) × (Unit × Unit))))) × ((Int × (Int × Unit)) × Unit))
abbrev law1_CharsetDecodesValid_C1_X := (((List Int) × ((List Int) × ((List Int) × ((List Int) × (Bool × Unit))))) × ((Int × (Int × Unit)) × Unit))
noncomputable def law1_CharsetDecodesValid_C1 (pc : PC prog) (lp : LP) (d : law1_CharsetDecodesValid_C1_D) : Option law1_CharsetDecodesValid_C1_X :=
  ifd ((d.2.1.1 != 0) = true) (
    ifd ((d.2.1.1 != 0) = true) (
      some ((d.1.1, d.1.2.1, d.1.2.2.1, d.1.2.2.2.1, true, ()), ((d.2.1.1, d.2.1.2.1, ()), ()))) (
      none)) (
    ifd ((d.2.1.1 != 0) = true) (
      some ((d.1.1, d.1.2.1, d.1.2.2.1, d.1.2.2.2.1, true, ()), ((d.2.1.1, d.2.1.2.1, ()), ()))) (
      some ((d.1.1, d.1.2.1, d.1.2.2.1, d.1.2.2.2.1, (decide ((Go.IntKind.wrap .i64 ((((List.length d.1.2.2.2.1) : Nat) : Int) + (((List.length d.1.2.2.1) : Nat) : Int))) > 12000)), ()), ((d.2.1.1, d.2.1.2.1, ()), ()))))
theorem law1_CharsetDecodesValid_C1_a (E : AppE prog pcN pc lN lp) {d : law1_CharsetDecodesValid_C1_D} : Approx (fun N => law1_CharsetDecodesValid_C1 (pcN N) (lN N) d) (law1_CharsetDecodesValid_C1 pc lp d) := by
  delta law1_CharsetDecodesValid_C1
  exact (Approx.ifd (Approx.ifd (Approx.const _) Approx.none) (Approx.ifd (Approx.const _) (Approx.const _)))

noncomputable def law1_CharsetDecodesValid_B (pc : PC prog) (lp : LP) (a0 : List Int) (a1 : List Int) (a2 : List Int) : Option Bool :=
  bnd (bnd (law1_charsetExample_c pc ) fun (x0 : Bool) =>
  some x0) fun (x1 : Bool) =>
  ifd ((!x1) = true) (
    some false) (
    bnd (bnd (charset_Encode_c pc a0 a1) fun (x2 : ((List Int) × ((Int × (Int × Unit)) × Unit))) =>
    some (x2.1, ((x2.2.1.1, (x2.2.1.2.1, ())), ()))) fun (x3 : ((List Int) × ((Int × (Int × Unit)) × Unit))) =>
    bnd (law1_CharsetDecodesValid_C1 pc lp ((a0, a1, a2, x3.1, (), ()), ((x3.2.1.1, x3.2.1.2.1, ()), ()))) (fun (y4 : (((List Int) × ((List Int) × ((List Int) × ((List Int) × (Bool × Unit))))) × ((Int × (Int × Unit)) × Unit))) =>
    ifd (y4.1.2.2.2.2.1 = true) (
      some true) (
      ifd ((decide ((((List.length ([] : List Int)) + (List.length y4.1.2.2.2.1)) * 1) ≤ 140737488355328)) = true) (
        ifd ((decide ((((List.length (([] : List Int) ++ y4.1.2.2.2.1)) + (List.length y4.1.2.2.1)) * 1) ≤ 140737488355328)) = true) (
          bnd (bnd (charset_Decode_c pc y4.1.1 ((([] : List Int) ++ y4.1.2.2.2.1) ++ y4.1.2.2.1)) fun (x5 : ((List Int) × ((Int × (Int × Unit)) × Unit))) =>
          some (x5.1, ((x5.2.1.1, (x5.2.1.2.1, ())), ()))) fun (x6 : ((List Int) × ((Int × (Int × Unit)) × Unit))) =>
          bnd (bnd (charset_Decode_c pc y4.1.1 y4.1.2.2.1) fun (x7 : ((List Int) × ((Int × (Int × Unit)) × Unit))) =>
          some (x7.1, ((x7.2.1.1, (x7.2.1.2.1, ())), ()))) fun (x8 : ((List Int) × ((Int × (Int × Unit)) × Unit))) =>
          ifd ((x6.2.1.1 == 0) = true) (
            ifd ((x6.2.1.1 == 0) = true) (
              ifd ((x8.2.1.1 == 0) = true) (
                bnd (bnd (ref1_Valid_c pc x6.1) fun (x9 : Bool) =>
                some x9) fun (x10 : Bool) =>
                ifd ((x8.2.1.1 == 0) = true) (
                  ifd (x10 = true) (
                    ifd ((decide (((List.length y4.1.2.1) + (List.length x8.1)) ≤ 9223372036854775807)) = true) (
                      ifd (x10 = true) (
                        some (x6.1 == (y4.1.2.1 ++ x8.1))) (
                        some false)) (
                      none)) (
                    ifd (x10 = true) (
                      none) (
                      some false))) (
                  some false)) (
                ifd ((x8.2.1.1 == 0) = true) (
                  none) (
                  some false))) (
              some false)) (
            ifd ((x6.2.1.1 == 0) = true) (
              none) (
              some false))) (
          none)) (
        none))))
theorem law1_CharsetDecodesValid_eq (a0 : List Int) (a1 : List Int) (a2 : List Int) (pc : PC prog) (lp : LP) : got law1_CharsetDecodesValid_t (pcall prog (runO prog cfg (hand prog cfg lp pc 6 tbl 5) pc 6) 7 [(.c (.str a0)), (.c (.str a1)), (.c (.slice .ro (.int .u8) a2))]) = law1_CharsetDecodesValid_B pc lp a0 a1 a2 := by kernel_rfl
theorem law1_CharsetDecodesValid_ap (E : AppE prog pcN pc lN lp) (a0 : List Int) (a1 : List Int) (a2 : List Int) : Approx (fun N => law1_CharsetDecodesValid_B (pcN N) (lN N) a0 a1 a2) (law1_CharsetDecodesValid_B pc lp a0 a1 a2) := by
  delta law1_CharsetDecodesValid_B
  exact (Approx.bnd (Approx.bnd (law1_charsetExample_ca E) fun x0 => (Approx.const _)) fun x1 => (Approx.ifd (Approx.const _) (Approx.bnd (Approx.bnd (charset_Encode_ca E) fun x2 => (Approx.const _)) fun x3 => (Approx.bnd (law1_CharsetDecodesValid_C1_a E) (fun y4 => (Approx.ifd (Approx.const _) (Approx.ifd (Approx.ifd (Approx.bnd (Approx.bnd (charset_Decode_ca E) fun x5 => (Approx.const _)) fun x6 => (Approx.bnd (Approx.bnd (charset_Decode_ca E) fun x7 => (Approx.const _)) fun x8 => (Approx.ifd (Approx.ifd (Approx.ifd (Approx.bnd (Approx.bnd (ref1_Valid_ca E) fun x9 => (Approx.const _)) fun x10 => (Approx.ifd (Approx.ifd (Approx.ifd (Approx.ifd (Approx.const _) (Approx.const _)) Approx.none) (Approx.ifd Approx.none (Approx.const _))) (Approx.const _))) (Approx.ifd Approx.none (Approx.const _))) (Approx.const _)) (Approx.ifd Approx.none (Approx.const _))))) Approx.none) Approx.none)))))))
theorem law1_CharsetDecodesValid_of {a0 : List Int} {a1 : List Int} {a2 : List Int} {y : Bool} (h : law1_CharsetDecodesValid_B (pcL prog cfg) lpL a0 a1 a2 = some y) : law1_CharsetDecodesValid_c (pcL prog cfg) a0 a1 a2 = some y := fn_of rfl (law1_CharsetDecodesValid_eq a0 a1 a2) (law1_CharsetDecodesValid_ap (appN prog cfg) a0 a1 a2) h

noncomputable def law1_charsetExample_B (pc : PC prog) (lp : LP)  : Option Bool :=
  bnd (bnd (charset_Decode_c pc ([108, 97, 116, 105, 110, 49] : List Int) ([228] : List Int)) fun (x0 : ((List Int) × ((Int × (Int × Unit)) × Unit))) =>
  some (x0.1, ((x0.2.1.1, (x0.2.1.2.1, ())), ()))) fun (x1 : ((List Int) × ((Int × (Int × Unit)) × Unit))) =>
  bnd (bnd (charset_Encode_c pc ([117, 116, 102, 49, 54, 98, 101] : List Int) ([97] : List Int)) fun (x2 : ((List Int) × ((Int × (Int × Unit)) × Unit))) =>
  some (x2.1, ((x2.2.1.1, (x2.2.1.2.1, ())), ()))) fun (x3 : ((List Int) × ((Int × (Int × Unit)) × Unit))) =>
  ifd ((x1.2.1.1 == 0) = true) (
    ifd ((x1.2.1.1 == 0) = true) (
      ifd ((x3.2.1.1 == 0) = true) (
        ifd ((x3.2.1.1 == 0) = true) (
          ifd ((x1.1 == ([195, 164] : List Int)) = true) (
            bnd (bnd (ref1_Bytes_c pc x3.1 ([0, 97] : List Int)) fun (x4 : Bool) =>
            some x4) fun (x5 : Bool) =>
            ifd ((x1.1 == ([195, 164] : List Int)) = true) (
              ifd (x5 = true) (
                bnd (bnd (charset_Best_c pc ([195, 164] : List Int)) fun (x6 : (List Int)) =>
                some x6) fun (x7 : (List Int)) =>
                ifd (x5 = true) (
                  some (x7 == ([108, 97, 116, 105, 110, 49] : List Int))) (
                  some false)) (
                ifd (x5 = true) (
                  none) (
                  some false))) (
              some false)) (
            ifd ((x1.1 == ([195, 164] : List Int)) = true) (
              none) (
              some false))) (
          some false)) (
        ifd ((x3.2.1.1 == 0) = true) (
          none) (
          some false))) (
      some false)) (
    ifd ((x1.2.1.1 == 0) = true) (
      none) (
      some false))
theorem law1_charsetExample_eq  (pc : PC prog) (lp : LP) : got law1_charsetExample_t (pcall prog (runO prog cfg (hand prog cfg lp pc 6 tbl 5) pc 6) 8 []) = law1_charsetExample_B pc lp  := by kernel_rfl
theorem law1_charsetExample_ap (E : AppE prog pcN pc lN lp)  : Approx (fun N => law1_charsetExample_B (pcN N) (lN N) ) (law1_charsetExample_B pc lp ) := by
  delta law1_charsetExample_B
  exact (Approx.bnd (Approx.bnd (charset_Decode_ca E) fun x0 => (Approx.const _)) fun x1 => (Approx.bnd (Approx.bnd (charset_Encode_ca E) fun x2 => (Approx.const _)) fun x3 => (Approx.ifd (Approx.ifd (Approx.ifd (Approx.ifd (Approx.ifd (Approx.bnd (Approx.bnd (ref1_Bytes_ca E) fun x4 => (Approx.const _)) fun x5 => (Approx.ifd (Approx.ifd (Approx.bnd (Approx.bnd (charset_Best_ca E) fun x6 => (Approx.const _)) fun x7 => (Approx.ifd (Approx.const _) (Approx.const _))) (Approx.ifd Approx.none (Approx.const _))) (Approx.const _))) (Approx.ifd Approx.none (Approx.const _))) (Approx.const _)) (Approx.ifd Approx.none (Approx.const _))) (Approx.const _)) (Approx.ifd Approx.none (Approx.const _)))))
theorem law1_charsetExample_of  {y : Bool} (h : law1_charsetExample_B (pcL prog cfg) lpL  = some y) : law1_charsetExample_c (pcL prog cfg)  = some y := fn_of rfl (law1_charsetExample_eq ) (law1_charsetExample_ap (appN prog cfg) ) h

-- charset_each_1, loop 58
abbrev charset_Decode_L1_D := ((Unit × ((List Int) × ((List Int) × (Int × (Int × Unit))))) × ((Int × (Int × Unit)) × ((Unit × (Unit × Unit)) × ((Unit × Unit) × ((Int × Unit) × ((Unit × (Unit × Unit)) × Unit))))))
abbrev charset_Decode_L1_X := (((List Int) × Unit) × ((Int × (Int × Unit)) × ((Unit × (Unit × Unit)) × ((Unit × Unit) × ((Int × Unit) × ((Unit × (Unit × Unit)) × Unit))))))
noncomputable def charset_Decode_L1_R (pc : PC prog) (lp : LP) (ψ : charset_Decode_L1_D → Option charset_Decode_L1_X) (d : charset_Decode_L1_D) : Option charset_Decode_L1_X :=
  ifd ((decide (d.1.2.2.2.2.1 < d.1.2.2.2.1)) = true) (
    ifd ((decide (((0 : Int) ≤ d.1.2.2.2.2.1) ∧ (d.1.2.2.2.2.1 < (((List.length d.1.2.2.1) : Nat) : Int)))) = true) (
      bnd (bnd (charset_ascii_c pc (List.getD d.1.2.2.1 (Int.toNat d.1.2.2.2.2.1) 0)) fun (x8 : Int) =>
      some x8) fun (x9 : Int) =>
      ifd ((decide ((((List.length d.1.2.1) + (List.length ([x9] : List Int))) * 4) ≤ 140737488355328)) = true) (
        ψ (((), (d.1.2.1 ++ ([x9] : List Int)), d.1.2.2.1, d.1.2.2.2.1, (Go.IntKind.wrap .i64 (d.1.2.2.2.2.1 + 1)), ()), ((d.2.1.1, d.2.1.2.1, ()), ((), (), ()), ((), ()), (d.2.2.2.2.1.1, ()), ((), (), ()), ()))) (
        none)) (
      none)) (
    some ((d.1.2.1, ()), ((d.2.1.1, d.2.1.2.1, ()), ((), (), ()), ((), ()), (d.2.2.2.2.1.1, ()), ((), (), ()), ())))
noncomputable def charset_Decode_L1 (pc : PC prog) (lp : LP) (d : charset_Decode_L1_D) : Option charset_Decode_L1_X := lp charset_Decode_L1_D charset_Decode_L1_X (charset_Decode_L1_R pc lp) d
theorem charset_Decode_L1_ap (E : AppE prog pcN pc lN lp) : ContR (fun N => charset_Decode_L1_R (pcN N) (lN N)) (charset_Decode_L1_R pc lp) := fun ψN ψ h d => by
  delta charset_Decode_L1_R
  exact (Approx.ifd (Approx.ifd (Approx.bnd (Approx.bnd (charset_ascii_ca E) fun x8 => (Approx.const _)) fun x9 => (Approx.ifd (h _) Approx.none)) Approx.none) (Approx.const _))
theorem charset_Decode_L1_a (E : AppE prog pcN pc lN lp) {d : charset_Decode_L1_D} : Approx (fun N => charset_Decode_L1 (pcN N) (lN N) d) (charset_Decode_L1 pc lp d) := E.loop (charset_Decode_L1_ap E) d
theorem charset_Decode_L1_of {d : charset_Decode_L1_D} {x : charset_Decode_L1_X} (h : charset_Decode_L1_R (pcL prog cfg) lpL (charset_Decode_L1 (pcL prog cfg) lpL) d = some x) : charset_Decode_L1 (pcL prog cfg) lpL d = some x := lpL_step (charset_Decode_L1_ap (appL prog cfg)) h

-- charset_each_1, loop 58
abbrev charset_Decode_L2_D := ((Unit × ((List Int) × ((List Int) × (Int × (Int × Unit))))) × ((Int × (Int × Unit)) × ((Unit × (Unit × Unit)) × ((Unit × Unit) × ((Int × Unit) × ((Unit × (Unit × Unit)) × Unit))))))
abbrev charset_Decode_L2_X := (((List Int) × Unit) × ((Int × (Int × Unit)) × ((Unit × (Unit × Unit)) × ((Unit × Unit) × ((Int × Unit) × ((Unit × (Unit × Unit)) × Unit))))))
noncomputable def charset_Decode_L2_R (pc : PC prog) (lp : LP) (ψ : charset_Decode_L2_D → Option charset_Decode_L2_X) (d : charset_Decode_L2_D) : Option charset_Decode_L2_X :=
  ifd ((decide (d.1.2.2.2.2.1 < d.1.2.2.2.1)) = true) (
    ifd ((decide (((0 : Int) ≤ d.1.2.2.2.2.1) ∧ (d.1.2.2.2.2.1 < (((List.length d.1.2.2.1) : Nat) : Int)))) = true) (
      bnd (bnd (charset_find_1_c pc (List.getD d.1.2.2.1 (Int.toNat d.1.2.2.2.2.1) 0)) fun (x13 : Int) =>
      some x13) fun (x14 : Int) =>
      ifd ((decide ((((List.length d.1.2.1) + (List.length ([x14] : List Int))) * 4) ≤ 140737488355328)) = true) (
        ψ (((), (d.1.2.1 ++ ([x14] : List Int)), d.1.2.2.1, d.1.2.2.2.1, (Go.IntKind.wrap .i64 (d.1.2.2.2.2.1 + 1)), ()), ((d.2.1.1, d.2.1.2.1, ()), ((), (), ()), ((), ()), (d.2.2.2.2.1.1, ()), ((), (), ()), ()))) (
        none)) (
      none)) (
    some ((d.1.2.1, ()), ((d.2.1.1, d.2.1.2.1, ()), ((), (), ()), ((), ()), (d.2.2.2.2.1.1, ()), ((), (), ()), ())))
noncomputable def charset_Decode_L2 (pc : PC prog) (lp : LP) (d : charset_Decode_L2_D) : Option charset_Decode_L2_X := lp charset_Decode_L2_D charset_Decode_L2_X (charset_Decode_L2_R pc lp) d
theorem charset_Decode_L2_ap (E : AppE prog pcN pc lN lp) : ContR (fun N => charset_Decode_L2_R (pcN N) (lN N)) (charset_Decode_L2_R pc lp) := fun ψN ψ h d => by
  delta charset_Decode_L2_R
  exact (Approx.ifd (Approx.ifd (Approx.bnd (Approx.bnd (charset_find_1_ca E) fun x13 => (Approx.const _)) fun x14 => (Approx.ifd (h _) Approx.none)) Approx.none) (Approx.const _))
theorem charset_Decode_L2_a (E : AppE prog pcN pc lN lp) {d : charset_Decode_L2_D} : Approx (fun N => charset_Decode_L2 (pcN N) (lN N) d) (charset_Decode_L2 pc lp d) := E.loop (charset_Decode_L2_ap E) d
theorem charset_Decode_L2_of {d : charset_Decode_L2_D} {x : charset_Decode_L2_X} (h : charset_Decode_L2_R (pcL prog cfg) lpL (charset_Decode_L2 (pcL prog cfg) lpL) d = some x) : charset_Decode_L2 (pcL prog cfg) lpL d = some x := lpL_step (charset_Decode_L2_ap (appL prog cfg)) h

noncomputable def charset_Decode_B (pc : PC prog) (lp : LP) (a0 : List Int) (a1 : List Int) : Option ((List Int) × ((Int × (Int × Unit)) × Unit)) :=
  bnd (bnd (charset_lower_c pc a0) fun (x0 : (List Int)) =>
  some x0) fun (x1 : (List Int)) =>
  ifd ((x1 == ([97, 115, 99, 105, 105] : List Int)) = true) (
    ifd ((decide ((((List.length a1) : Nat) : Int) > 12000)) = true) (
      some (([] : List Int), ((1, ((-1), ())), ()))) (
      bnd (charset_Decode_L1 pc lp (((), ([] : List Int), a1, (((List.length a1) : Nat) : Int), 0, ()), ((0, 0, ()), ((), (), ()), ((), ()), (128, ()), ((), (), ()), ()))) (fun (y10 : (((List Int) × Unit) × ((Int × (Int × Unit)) × ((Unit × (Unit × Unit)) × ((Unit × Unit) × ((Int × Unit) × ((Unit × (Unit × Unit)) × Unit))))))) =>
      ifd ((decide ((4 * (List.length y10.1.1)) ≤ 9223372036854775807)) = true) (
        some ((encRunes y10.1.1), ((0, (0, ())), ()))) (
        none)))) (
    ifd ((x1 == ([108, 97, 116, 105, 110, 49] : List Int)) = true) (
      ifd ((decide ((((List.length a1) : Nat) : Int) > 12000)) = true) (
        some (([] : List Int), ((1, ((-1), ())), ()))) (
        bnd (charset_Decode_L2 pc lp (((), ([] : List Int), a1, (((List.length a1) : Nat) : Int), 0, ()), ((0, 0, ()), ((), (), ()), ((), ()), (256, ()), ((), (), ()), ()))) (fun (y15 : (((List Int) × Unit) × ((Int × (Int × Unit)) × ((Unit × (Unit × Unit)) × ((Unit × Unit) × ((Int × Unit) × ((Unit × (Unit × Unit)) × Unit))))))) =>
        ifd ((decide ((4 * (List.length y15.1.1)) ≤ 9223372036854775807)) = true) (
          some ((encRunes y15.1.1), ((0, (0, ())), ()))) (
          none)))) (
      ifd ((x1 == ([117, 116, 102, 56] : List Int)) = true) (
        ifd ((decide ((((List.length a1) : Nat) : Int) > 12000)) = true) (
          some (([] : List Int), ((1, ((-1), ())), ()))) (
          bnd (bnd (charset_find_2_c pc a1) fun (x16 : (List Int)) =>
          some x16) fun (x17 : (List Int)) =>
          ifd ((decide ((4 * (List.length x17)) ≤ 9223372036854775807)) = true) (
            some ((encRunes x17), ((0, (0, ())), ()))) (
            none))) (
        ifd ((x1 == ([117, 116, 102, 49, 54, 98, 101] : List Int)) = true) (
          ifd ((decide ((((List.length a1) : Nat) : Int) > 12000)) = true) (
            some (([] : List Int), ((1, ((-1), ())), ()))) (
            bnd (bnd (charset_units_c pc a1) fun (x18 : (List Int)) =>
            some x18) fun (x19 : (List Int)) =>
            ifd ((decide ((4 * (List.length x19)) ≤ 9223372036854775807)) = true) (
              some ((encRunes x19), ((0, (0, ())), ()))) (
              none))) (
          ifd ((decide ((((List.length a1) : Nat) : Int) > 12000)) = true) (
            some (([] : List Int), ((1, ((-1), ())), ()))) (
            some (([] : List Int), ((18, ((-2), ())), ())))))))
theorem charset_Decode_eq (a0 : List Int) (a1 : List Int) (pc : PC prog) (lp : LP) : got charset_Decode_t (pcall prog (runO prog cfg (hand prog cfg lp pc 6 tbl 5) pc 6) 9 [(.c (.str a0)), (.c (.slice .ro (.int .u8) a1))]) = charset_Decode_B pc lp a0 a1 := by kernel_rfl
theorem charset_Decode_ap (E : AppE prog pcN pc lN lp) (a0 : List Int) (a1 : List Int) : Approx (fun N => charset_Decode_B (pcN N) (lN N) a0 a1) (charset_Decode_B pc lp a0 a1) := by
  delta charset_Decode_B
  exact (Approx.bnd (Approx.bnd (charset_lower_ca E) fun x0 => (Approx.const _)) fun x1 => (Approx.ifd (Approx.ifd (Approx.const _) (Approx.bnd (charset_Decode_L1_a E) (fun y10 => (Approx.ifd (Approx.const _) Approx.none)))) (Approx.ifd (Approx.ifd (Approx.const _) (Approx.bnd (charset_Decode_L2_a E) (fun y15 => (Approx.ifd (Approx.const _) Approx.none)))) (Approx.ifd (Approx.ifd (Approx.const _) (Approx.bnd (Approx.bnd (charset_find_2_ca E) fun x16 => (Approx.const _)) fun x17 => (Approx.ifd (Approx.const _) Approx.none))) (Approx.ifd (Approx.ifd (Approx.const _) (Approx.bnd (Approx.bnd (charset_units_ca E) fun x18 => (Approx.const _)) fun x19 => (Approx.ifd (Approx.const _) Approx.none))) (Approx.ifd (Approx.const _) (Approx.const _)))))))
theorem charset_Decode_of {a0 : List Int} {a1 : List Int} {y : ((List Int) × ((Int × (Int × Unit)) × Unit))} (h : charset_Decode_B (pcL prog cfg) lpL a0 a1 = some y) : charset_Decode_c (pcL prog cfg) a0 a1 = some y := fn_of rfl (charset_Decode_eq a0 a1) (charset_Decode_ap (appN prog cfg) a0 a1) h

noncomputable def ref1_At_B (pc : PC prog) (lp : LP) (a0 : Int) (a1 : Int) : Option (Int × (Int × Unit)) :=
  some (a0, (a1, ()))
theorem ref1_At_eq (a0 : Int) (a1 : Int) (pc : PC prog) (lp : LP) : got ref1_At_t (pcall prog (runO prog cfg (hand prog cfg lp pc 6 tbl 5) pc 6) 10 [(.c (.int .i64 a0)), (.c (.int .i64 a1))]) = ref1_At_B pc lp a0 a1 := by kernel_rfl
theorem ref1_At_ap (E : AppE prog pcN pc lN lp) (a0 : Int) (a1 : Int) : Approx (fun N => ref1_At_B (pcN N) (lN N) a0 a1) (ref1_At_B pc lp a0 a1) := by
  delta ref1_At_B
  exact (Approx.const _)
theorem ref1_At_of {a0 : Int} {a1 : Int} {y : (Int × (Int × Unit))} (h : ref1_At_B (pcL prog cfg) lpL a0 a1 = some y) : ref1_At_c (pcL prog cfg) a0 a1 = some y := fn_of rfl (ref1_At_eq a0 a1) (ref1_At_ap (appN prog cfg) a0 a1) h

-- ref1_SetOf, loop 58
abbrev ref1_SetOf_L1_D := (((List Int) × ((List (List Int)) × (Int × Unit))) × Unit)
abbrev ref1_SetOf_L1_X := (((Int × Unit) × Unit) ⊕ (Unit × Unit))
noncomputable def ref1_SetOf_L1_R (pc : PC prog) (lp : LP) (ψ : ref1_SetOf_L1_D → Option ref1_SetOf_L1_X) (d : ref1_SetOf_L1_D) : Option ref1_SetOf_L1_X :=
  ifd ((decide (d.1.2.2.1 < (((List.length d.1.2.1) : Nat) : Int))) = true) (
    ifd ((decide (((0 : Int) ≤ d.1.2.2.1) ∧ (d.1.2.2.1 < (((List.length d.1.2.1) : Nat) : Int)))) = true) (
      bnd (bnd (ref1_Alike_c pc (List.getD d.1.2.1 (Int.toNat d.1.2.2.1) ([] : List Int)) d.1.1) fun (x2 : Bool) =>
      some x2) fun (x3 : Bool) =>
      ifd (x3 = true) (
        some (Sum.inl ((d.1.2.2.1, ()), ()))) (
        ψ ((d.1.1, d.1.2.1, (Go.IntKind.wrap .i64 (d.1.2.2.1 + 1)), ()), ()))) (
      none)) (
    some (Sum.inr ((), ())))
noncomputable def ref1_SetOf_L1 (pc : PC prog) (lp : LP) (d : ref1_SetOf_L1_D) : Option ref1_SetOf_L1_X := lp ref1_SetOf_L1_D ref1_SetOf_L1_X (ref1_SetOf_L1_R pc lp) d
theorem ref1_SetOf_L1_ap (E : AppE prog pcN pc lN lp) : ContR (fun N => ref1_SetOf_L1_R (pcN N) (lN N)) (ref1_SetOf_L1_R pc lp) := fun ψN ψ h d => by
  delta ref1_SetOf_L1_R
  exact (Approx.ifd (Approx.ifd (Approx.bnd (Approx.bnd (ref1_Alike_ca E) fun x2 => (Approx.const _)) fun x3 => (Approx.ifd (Approx.const _) (h _))) Approx.none) (Approx.const _))
theorem ref1_SetOf_L1_a (E : AppE prog pcN pc lN lp) {d : ref1_SetOf_L1_D} : Approx (fun N => ref1_SetOf_L1 (pcN N) (lN N) d) (ref1_SetOf_L1 pc lp d) := E.loop (ref1_SetOf_L1_ap E) d
theorem ref1_SetOf_L1_of {d : ref1_SetOf_L1_D} {x : ref1_SetOf_L1_X} (h : ref1_SetOf_L1_R (pcL prog cfg) lpL (ref1_SetOf_L1 (pcL prog cfg) lpL) d = some x) : ref1_SetOf_L1 (pcL prog cfg) lpL d = some x := lpL_step (ref1_SetOf_L1_ap (appL prog cfg)) h

noncomputable def ref1_SetOf_B (pc : PC prog) (lp : LP) (a0 : List Int) : Option Int :=
  bnd (ref1_SetOf_L1 pc lp ((a0, ([([97, 115, 99, 105, 105] : List Int), ([108, 97, 116, 105, 110, 49] : List Int), ([117, 116, 102, 56] : List Int), ([117, 116, 102, 49, 54, 98, 101] : List Int)] : List (List Int)), 0, ()), ())) (Sum.elim (fun (y4 : ((Int × Unit) × Unit)) =>
  some y4.1.1) (fun (y5 : (Unit × Unit)) =>
  some (-1)))
theorem ref1_SetOf_eq (a0 : List Int) (pc : PC prog) (lp : LP) : got ref1_SetOf_t (pcall prog (runO prog cfg (hand prog cfg lp pc 6 tbl 5) pc 6) 11 [(.c (.str a0))]) = ref1_SetOf_B pc lp a0 := by kernel_rfl
theorem ref1_SetOf_ap (E : AppE prog pcN pc lN lp) (a0 : List Int) : Approx (fun N => ref1_SetOf_B (pcN N) (lN N) a0) (ref1_SetOf_B pc lp a0) := by
  delta ref1_SetOf_B
  exact (Approx.bnd (ref1_SetOf_L1_a E) (Approx.sum (fun y4 => (Approx.const _)) (fun y5 => (Approx.const _))))
theorem ref1_SetOf_of {a0 : List Int} {y : Int} (h : ref1_SetOf_B (pcL prog cfg) lpL a0 = some y) : ref1_SetOf_c (pcL prog cfg) a0 = some y := fn_of rfl (ref1_SetOf_eq a0) (ref1_SetOf_ap (appN prog cfg) a0) h

-- ref1_Decoded, part 58
abbrev ref1_Decoded_C1_D := ((Int × ((List Int) × ((List Int) × (Int × Unit)))) × Unit)
abbrev ref1_Decoded_C1_X := ((Int × ((List Int) × ((List Int) × (Int × (Bool × Unit))))) × Unit)
noncomputable def ref1_Decoded_C1 (pc : PC prog) (lp : LP) (d : ref1_Decoded_C1_D) : Option ref1_Decoded_C1_X :=
  ifd ((d.1.2.2.2.1 == 0) = true) (
    some ((d.1.1, d.1.2.1, d.1.2.2.1, d.1.2.2.2.1, (d.1.2.2.2.1 == 0), ()), ())) (
    some ((d.1.1, d.1.2.1, d.1.2.2.1, d.1.2.2.2.1, (d.1.2.2.2.1 == 1), ()), ()))
theorem ref1_Decoded_C1_a (E : AppE prog pcN pc lN lp) {d : ref1_Decoded_C1_D} : Approx (fun N => ref1_Decoded_C1 (pcN N) (lN N) d) (ref1_Decoded_C1 pc lp d) := by
  delta ref1_Decoded_C1
  exact (Approx.ifd (Approx.const _) (Approx.const _))

-- ref1_Decoded, loop 938
abbrev ref1_Decoded_L2_D := ((Int × ((List Int) × ((List Int) × (Int × Unit)))) × Unit)
abbrev ref1_Decoded_L2_X := (((List Int) × Unit) × Unit)
noncomputable def ref1_Decoded_L2_R (pc : PC prog) (lp : LP) (ψ : ref1_Decoded_L2_D → Option ref1_Decoded_L2_X) (d : ref1_Decoded_L2_D) : Option ref1_Decoded_L2_X :=
  ifd ((decide (d.1.2.2.2.1 < (((List.length d.1.2.1) : Nat) : Int))) = true) (
    ifd ((decide (((0 : Int) ≤ d.1.2.2.2.1) ∧ (d.1.2.2.2.1 < (((List.length d.1.2.1) : Nat) : Int)))) = true) (
      ifd ((d.1.1 == 0) = true) (
        ifd ((d.1.1 == 0) = true) (
          ifd ((decide ((Go.IntKind.wrap .i64 (List.getD d.1.2.1 (Int.toNat d.1.2.2.2.1) 0)) > 127)) = true) (
            bnd (bnd (ref1_Utf8_c pc 65533) fun (x9 : (List Int)) =>
            some x9) fun (x10 : (List Int)) =>
            ifd ((decide (((List.length d.1.2.2.1) + (List.length x10)) ≤ 9223372036854775807)) = true) (
              ψ ((d.1.1, d.1.2.1, (d.1.2.2.1 ++ x10), (Go.IntKind.wrap .i64 (d.1.2.2.2.1 + 1)), ()), ())) (
              none)) (
            bnd (bnd (ref1_Utf8_c pc (Go.IntKind.wrap .i64 (List.getD d.1.2.1 (Int.toNat d.1.2.2.2.1) 0))) fun (x11 : (List Int)) =>
            some x11) fun (x12 : (List Int)) =>
            ifd ((decide (((List.length d.1.2.2.1) + (List.length x12)) ≤ 9223372036854775807)) = true) (
              ψ ((d.1.1, d.1.2.1, (d.1.2.2.1 ++ x12), (Go.IntKind.wrap .i64 (d.1.2.2.2.1 + 1)), ()), ())) (
              none))) (
          bnd (bnd (ref1_Utf8_c pc (Go.IntKind.wrap .i64 (List.getD d.1.2.1 (Int.toNat d.1.2.2.2.1) 0))) fun (x13 : (List Int)) =>
          some x13) fun (x14 : (List Int)) =>
          ifd ((decide (((List.length d.1.2.2.1) + (List.length x14)) ≤ 9223372036854775807)) = true) (
            ψ ((d.1.1, d.1.2.1, (d.1.2.2.1 ++ x14), (Go.IntKind.wrap .i64 (d.1.2.2.2.1 + 1)), ()), ())) (
            none))) (
        ifd ((d.1.1 == 0) = true) (
          none) (
          bnd (bnd (ref1_Utf8_c pc (Go.IntKind.wrap .i64 (List.getD d.1.2.1 (Int.toNat d.1.2.2.2.1) 0))) fun (x15 : (List Int)) =>
          some x15) fun (x16 : (List Int)) =>
          ifd ((decide (((List.length d.1.2.2.1) + (List.length x16)) ≤ 9223372036854775807)) = true) (
            ψ ((d.1.1, d.1.2.1, (d.1.2.2.1 ++ x16), (Go.IntKind.wrap .i64 (d.1.2.2.2.1 + 1)), ()), ())) (
            none)))) (
      none)) (
    some ((d.1.2.2.1, ()), ()))
noncomputable def ref1_Decoded_L2 (pc : PC prog) (lp : LP) (d : ref1_Decoded_L2_D) : Option ref1_Decoded_L2_X := lp ref1_Decoded_L2_D ref1_Decoded_L2_X (ref1_Decoded_L2_R pc lp) d
theorem ref1_Decoded_L2_ap (E : AppE prog pcN pc lN lp) : ContR (fun N => ref1_Decoded_L2_R (pcN N) (lN N)) (ref1_Decoded_L2_R pc lp) := fun ψN ψ h d => by
  delta ref1_Decoded_L2_R
  exact (Approx.ifd (Approx.ifd (Approx.ifd (Approx.ifd (Approx.ifd (Approx.bnd (Approx.bnd (ref1_Utf8_ca E) fun x9 => (Approx.const _)) fun x10 => (Approx.ifd (h _) Approx.none)) (Approx.bnd (Approx.bnd (ref1_Utf8_ca E) fun x11 => (Approx.const _)) fun x12 => (Approx.ifd (h _) Approx.none))) (Approx.bnd (Approx.bnd (ref1_Utf8_ca E) fun x13 => (Approx.const _)) fun x14 => (Approx.ifd (h _) Approx.none))) (Approx.ifd Approx.none (Approx.bnd (Approx.bnd (ref1_Utf8_ca E) fun x15 => (Approx.const _)) fun x16 => (Approx.ifd (h _) Approx.none)))) Approx.none) (Approx.const _))
theorem ref1_Decoded_L2_a (E : AppE prog pcN pc lN lp) {d : ref1_Decoded_L2_D} : Approx (fun N => ref1_Decoded_L2 (pcN N) (lN N) d) (ref1_Decoded_L2 pc lp d) := E.loop (ref1_Decoded_L2_ap E) d
theorem ref1_Decoded_L2_of {d : ref1_Decoded_L2_D} {x : ref1_Decoded_L2_X} (h : ref1_Decoded_L2_R (pcL prog cfg) lpL (ref1_Decoded_L2 (pcL prog cfg) lpL) d = some x) : ref1_Decoded_L2 (pcL prog cfg) lpL d = some x := lpL_step (ref1_Decoded_L2_ap (appL prog cfg)) h

-- ref1_Decoded, loop 7542
abbrev ref1_Decoded_L3_D := (((List Int) × ((List Int) × (Int × Unit))) × Unit)
abbrev ref1_Decoded_L3_X := (((List Int) × Unit) × Unit)
noncomputable def ref1_Decoded_L3_R (pc : PC prog) (lp : LP) (ψ : ref1_Decoded_L3_D → Option ref1_Decoded_L3_X) (d : ref1_Decoded_L3_D) : Option ref1_Decoded_L3_X :=
  ifd ((decide (d.1.2.2.1 < (((List.length d.1.2.1) : Nat) : Int))) = true) (
    ifd ((decide (((0 : Int) ≤ d.1.2.2.1) ∧ (d.1.2.2.1 < (((List.length d.1.2.1) : Nat) : Int)))) = true) (
      bnd (bnd (ref1_Utf8_c pc (List.getD d.1.2.1 (Int.toNat d.1.2.2.1) 0)) fun (x22 : (List Int)) =>
      some x22) fun (x23 : (List Int)) =>
      ifd ((decide (((List.length d.1.1) + (List.length x23)) ≤ 9223372036854775807)) = true) (
        ψ (((d.1.1 ++ x23), d.1.2.1, (Go.IntKind.wrap .i64 (d.1.2.2.1 + 1)), ()), ())) (
        none)) (
      none)) (
    some ((d.1.1, ()), ()))
noncomputable def ref1_Decoded_L3 (pc : PC prog) (lp : LP) (d : ref1_Decoded_L3_D) : Option ref1_Decoded_L3_X := lp ref1_Decoded_L3_D ref1_Decoded_L3_X (ref1_Decoded_L3_R pc lp) d
theorem ref1_Decoded_L3_ap (E : AppE prog pcN pc lN lp) : ContR (fun N => ref1_Decoded_L3_R (pcN N) (lN N)) (ref1_Decoded_L3_R pc lp) := fun ψN ψ h d => by
  delta ref1_Decoded_L3_R
  exact (Approx.ifd (Approx.ifd (Approx.bnd (Approx.bnd (ref1_Utf8_ca E) fun x22 => (Approx.const _)) fun x23 => (Approx.ifd (h _) Approx.none)) Approx.none) (Approx.const _))
theorem ref1_Decoded_L3_a (E : AppE prog pcN pc lN lp) {d : ref1_Decoded_L3_D} : Approx (fun N => ref1_Decoded_L3 (pcN N) (lN N) d) (ref1_Decoded_L3 pc lp d) := E.loop (ref1_Decoded_L3_ap E) d
theorem ref1_Decoded_L3_of {d : ref1_Decoded_L3_D} {x : ref1_Decoded_L3_X} (h : ref1_Decoded_L3_R (pcL prog cfg) lpL (ref1_Decoded_L3 (pcL prog cfg) lpL) d = some x) : ref1_Decoded_L3 (pcL prog cfg) lpL d = some x := lpL_step (ref1_Decoded_L3_ap (appL prog cfg)) h

-- ref1_Decoded, part 1932582
abbrev ref1_Decoded_C4_D := (((List Int) × ((List Int) × (Int × (Int × Unit)))) × Unit)
abbrev ref1_Decoded_C4_X := (((List Int) × ((List Int) × (Int × (Int × (Bool × Unit))))) × Unit)
noncomputable def ref1_Decoded_C4 (pc : PC prog) (lp : LP) (d : ref1_Decoded_C4_D) : Option ref1_Decoded_C4_X :=
  bnd (bnd (ref1_In_c pc d.1.2.2.2.1 55296 56319) fun (x31 : Bool) =>
  some x31) fun (x32 : Bool) =>
  ifd (x32 = true) (
    ifd (x32 = true) (
      some ((d.1.1, d.1.2.1, d.1.2.2.1, d.1.2.2.2.1, (decide ((Go.IntKind.wrap .i64 (d.1.2.2.1 + 3)) < (((List.length d.1.1) : Nat) : Int))), ()), ())) (
      some ((d.1.1, d.1.2.1, d.1.2.2.1, d.1.2.2.2.1, false, ()), ()))) (
    ifd (x32 = true) (
      none) (
      some ((d.1.1, d.1.2.1, d.1.2.2.1, d.1.2.2.2.1, false, ()), ())))
theorem ref1_Decoded_C4_a (E : AppE prog pcN pc lN lp) {d : ref1_Decoded_C4_D} : Approx (fun N => ref1_Decoded_C4 (pcN N) (lN N) d) (ref1_Decoded_C4 pc lp d) := by
  delta ref1_Decoded_C4
  exact (Approx.bnd (Approx.bnd (ref1_In_ca E) fun x31 => (Approx.const _)) fun x32 => (Approx.ifd (Approx.ifd (Approx.const _) (Approx.const _)) (Approx.ifd Approx.none (Approx.const _))))

-- ref1_Decoded, loop 15098
abbrev ref1_Decoded_L5_D := (((List Int) × ((List Int) × (Int × Unit))) × Unit)
abbrev ref1_Decoded_L5_X := ((((List Int) × Unit) × Unit) ⊕ (((List Int) × Unit) × Unit))
noncomputable def ref1_Decoded_L5_R (pc : PC prog) (lp : LP) (ψ : ref1_Decoded_L5_D → Option ref1_Decoded_L5_X) (d : ref1_Decoded_L5_D) : Option ref1_Decoded_L5_X :=
  ifd ((decide (d.1.2.2.1 < (((List.length d.1.1) : Nat) : Int))) = true) (
    ifd (((Go.IntKind.wrap .i64 (d.1.2.2.1 + 1)) == (((List.length d.1.1) : Nat) : Int)) = true) (
      bnd (bnd (ref1_Utf8_c pc (-1)) fun (x42 : (List Int)) =>
      some x42) fun (x43 : (List Int)) =>
      ifd ((decide (((List.length d.1.2.1) + (List.length x43)) ≤ 9223372036854775807)) = true) (
        some (Sum.inl (((d.1.2.1 ++ x43), ()), ()))) (
        none)) (
      ifd ((decide (((0 : Int) ≤ d.1.2.2.1) ∧ (d.1.2.2.1 < (((List.length d.1.1) : Nat) : Int)))) = true) (
        ifd ((decide (((0 : Int) ≤ (Go.IntKind.wrap .i64 (d.1.2.2.1 + 1))) ∧ ((Go.IntKind.wrap .i64 (d.1.2.2.1 + 1)) < (((List.length d.1.1) : Nat) : Int)))) = true) (
          bnd (ref1_Decoded_C4 pc lp ((d.1.1, d.1.2.1, d.1.2.2.1, (Go.IntKind.wrap .i64 ((Go.IntKind.wrap .i64 (256 * (Go.IntKind.wrap .i64 (List.getD d.1.1 (Int.toNat d.1.2.2.1) 0)))) + (Go.IntKind.wrap .i64 (List.getD d.1.1 (Int.toNat (Go.IntKind.wrap .i64 (d.1.2.2.1 + 1))) 0)))), ()), ())) (fun (y44 : (((List Int) × ((List Int) × (Int × (Int × (Bool × Unit))))) × Unit)) =>
          ifd (y44.1.2.2.2.2.1 = true) (
            ifd ((decide (((0 : Int) ≤ (Go.IntKind.wrap .i64 (y44.1.2.2.1 + 2))) ∧ ((Go.IntKind.wrap .i64 (y44.1.2.2.1 + 2)) < (((List.length y44.1.1) : Nat) : Int)))) = true) (
              ifd ((decide (((0 : Int) ≤ (Go.IntKind.wrap .i64 (y44.1.2.2.1 + 3))) ∧ ((Go.IntKind.wrap .i64 (y44.1.2.2.1 + 3)) < (((List.length y44.1.1) : Nat) : Int)))) = true) (
                bnd (bnd (ref1_In_c pc (Go.IntKind.wrap .i64 ((Go.IntKind.wrap .i64 (256 * (Go.IntKind.wrap .i64 (List.getD y44.1.1 (Int.toNat (Go.IntKind.wrap .i64 (y44.1.2.2.1 + 2))) 0)))) + (Go.IntKind.wrap .i64 (List.getD y44.1.1 (Int.toNat (Go.IntKind.wrap .i64 (y44.1.2.2.1 + 3))) 0)))) 56320 57343) fun (x45 : Bool) =>
                some x45) fun (x46 : Bool) =>
                ifd (x46 = true) (
                  bnd (bnd (ref1_Utf8_c pc (Go.IntKind.wrap .i64 ((Go.IntKind.wrap .i64 ((Go.IntKind.wrap .i64 (65536 + (Go.IntKind.wrap .i64 (1024 * (Go.IntKind.wrap .i64 (y44.1.2.2.2.1 - 55296)))))) + (Go.IntKind.wrap .i64 ((Go.IntKind.wrap .i64 (256 * (Go.IntKind.wrap .i64 (List.getD y44.1.1 (Int.toNat (Go.IntKind.wrap .i64 (y44.1.2.2.1 + 2))) 0)))) + (Go.IntKind.wrap .i64 (List.getD y44.1.1 (Int.toNat (Go.IntKind.wrap .i64 (y44.1.2.2.1 + 3))) 0)))))) - 56320))) fun (x47 : (List Int)) =>
                  some x47) fun (x48 : (List Int)) =>
                  ifd ((decide (((List.length y44.1.2.1) + (List.length x48)) ≤ 9223372036854775807)) = true) (
                    ψ ((y44.1.1, (y44.1.2.1 ++ x48), (Go.IntKind.wrap .i64 ((Go.IntKind.wrap .i64 (y44.1.2.2.1 + 2)) + 2)), ()), ())) (
                    none)) (
                  bnd (bnd (ref1_Utf8_c pc y44.1.2.2.2.1) fun (x49 : (List Int)) =>
                  some x49) fun (x50 : (List Int)) =>
                  ifd ((decide (((List.length y44.1.2.1) + (List.length x50)) ≤ 9223372036854775807)) = true) (
                    ψ ((y44.1.1, (y44.1.2.1 ++ x50), (Go.IntKind.wrap .i64 (y44.1.2.2.1 + 2)), ()), ())) (
                    none))) (
                none)) (
              none)) (
            bnd (bnd (ref1_Utf8_c pc y44.1.2.2.2.1) fun (x51 : (List Int)) =>
            some x51) fun (x52 : (List Int)) =>
            ifd ((decide (((List.length y44.1.2.1) + (List.length x52)) ≤ 9223372036854775807)) = true) (
              ψ ((y44.1.1, (y44.1.2.1 ++ x52), (Go.IntKind.wrap .i64 (y44.1.2.2.1 + 2)), ()), ())) (
              none)))) (
          none)) (
        none))) (
    some (Sum.inr ((d.1.2.1, ()), ())))
noncomputable def ref1_Decoded_L5 (pc : PC prog) (lp : LP) (d : ref1_Decoded_L5_D) : Option ref1_Decoded_L5_X := lp ref1_Decoded_L5_D ref1_Decoded_L5_X (ref1_Decoded_L5_R pc lp) d
theorem ref1_Decoded_L5_ap (E : AppE prog pcN pc lN lp) : ContR (fun N => ref1_Decoded_L5_R (pcN N) (lN N)) (ref1_Decoded_L5_R pc lp) := fun ψN ψ h d => by
  delta ref1_Decoded_L5_R
  exact (Approx.ifd (Approx.ifd (Approx.bnd (Approx.bnd (ref1_Utf8_ca E) fun x42 => (Approx.const _)) fun x43 => (Approx.ifd (Approx.const _) Approx.none)) (Approx.ifd (Approx.ifd (Approx.bnd (ref1_Decoded_C4_a E) (fun y44 => (Approx.ifd (Approx.ifd (Approx.ifd (Approx.bnd (Approx.bnd (ref1_In_ca E) fun x45 => (Approx.const _)) fun x46 => (Approx.ifd (Approx.bnd (Approx.bnd (ref1_Utf8_ca E) fun x47 => (Approx.const _)) fun x48 => (Approx.ifd (h _) Approx.none)) (Approx.bnd (Approx.bnd (ref1_Utf8_ca E) fun x49 => (Approx.const _)) fun x50 => (Approx.ifd (h _) Approx.none)))) Approx.none) Approx.none) (Approx.bnd (Approx.bnd (ref1_Utf8_ca E) fun x51 => (Approx.const _)) fun x52 => (Approx.ifd (h _) Approx.none))))) Approx.none) Approx.none)) (Approx.const _))
theorem ref1_Decoded_L5_a (E : AppE prog pcN pc lN lp) {d : ref1_Decoded_L5_D} : Approx (fun N => ref1_Decoded_L5 (pcN N) (lN N) d) (ref1_Decoded_L5 pc lp d) := E.loop (ref1_Decoded_L5_ap E) d
theorem ref1_Decoded_L5_of {d : ref1_Decoded_L5_D} {x : ref1_Decoded_L5_X} (h : ref1_Decoded_L5_R (pcL prog cfg) lpL (ref1_Decoded_L5 (pcL prog cfg) lpL) d = some x) : ref1_Decoded_L5 (pcL prog cfg) lpL d = some x := lpL_step (ref1_Decoded_L5_ap (appL prog cfg)) h

noncomputable def ref1_Decoded_B (pc : PC prog) (lp : LP) (a0 : Int) (a1 : List Int) : Option (List Int) :=
  bnd (ref1_Decoded_C1 pc lp ((a0, a1, ([] : List Int), a0, ()), ())) (fun (y0 : ((Int × ((List Int) × ((List Int) × (Int × (Bool × Unit))))) × Unit)) =>
  ifd (y0.1.2.2.2.2.1 = true) (
    bnd (ref1_Decoded_L2 pc lp ((y0.1.1, y0.1.2.1, y0.1.2.2.1, 0, ()), ())) (fun (y17 : (((List Int) × Unit) × Unit)) =>
    some y17.1.1)) (
    ifd ((y0.1.2.2.2.1 == 2) = true) (
      bnd (bnd (ref1_Runes_c pc y0.1.2.1) fun (x18 : (List Int)) =>
      some x18) fun (x19 : (List Int)) =>
      bnd (ref1_Decoded_L3 pc lp ((y0.1.2.2.1, x19, 0, ()), ())) (fun (y24 : (((List Int) × Unit) × Unit)) =>
      some y24.1.1)) (
      ifd ((y0.1.2.2.2.1 == 3) = true) (
        bnd (ref1_Decoded_L5 pc lp ((y0.1.2.1, y0.1.2.2.1, 0, ()), ())) (Sum.elim (fun (y53 : (((List Int) × Unit) × Unit)) =>
        some y53.1.1) (fun (y54 : (((List Int) × Unit) × Unit)) =>
        some y54.1.1))) (
        some y0.1.2.2.1))))
theorem ref1_Decoded_eq (a0 : Int) (a1 : List Int) (pc : PC prog) (lp : LP) : got ref1_Decoded_t (pcall prog (runO prog cfg (hand prog cfg lp pc 6 tbl 5) pc 6) 12 [(.c (.int .i64 a0)), (.c (.slice .ro (.int .u8) a1))]) = ref1_Decoded_B pc lp a0 a1 := by kernel_rfl
theorem ref1_Decoded_ap (E : AppE prog pcN pc lN lp) (a0 : Int) (a1 : List Int) : Approx (fun N => ref1_Decoded_B (pcN N) (lN N) a0 a1) (ref1_Decoded_B pc lp a0 a1) := by
  delta ref1_Decoded_B
  exact (Approx.bnd (ref1_Decoded_C1_a E) (fun y0 => (Approx.ifd (Approx.bnd (ref1_Decoded_L2_a E) (fun y17 => (Approx.const _))) (Approx.ifd (Approx.bnd (Approx.bnd (ref1_Runes_ca E) fun x18 => (Approx.const _)) fun x19 => (Approx.bnd (ref1_Decoded_L3_a E) (fun y24 => (Approx.const _)))) (Approx.ifd (Approx.bnd (ref1_Decoded_L5_a E) (Approx.sum (fun y53 => (Approx.const _)) (fun y54 => (Approx.const _)))) (Approx.const _))))))
theorem ref1_Decoded_of {a0 : Int} {a1 : List Int} {y : (List Int)} (h : ref1_Decoded_B (pcL prog cfg) lpL a0 a1 = some y) : ref1_Decoded_c (pcL prog cfg) a0 a1 = some y := fn_of rfl (ref1_Decoded_eq a0 a1) (ref1_Decoded_ap (appN prog cfg) a0 a1) h

-- charset_Encode, loop 250
abbrev charset_Encode_L1_D := ((Unit × (Unit × ((List Int) × (Unit × Unit)))) × ((Int × (Int × Unit)) × ((Unit × (Unit × Unit)) × ((Unit × Unit) × ((Int × Unit) × ((Unit × (Unit × Unit)) × (((List Int) × Nat) × Unit)))))))
abbrev charset_Encode_L1_X := (((Unit × (Unit × Unit)) × ((Int × (Int × Unit)) × ((Unit × (Unit × Unit)) × ((Unit × Unit) × ((Int × Unit) × ((Unit × (Unit × Unit)) × (((List Int) × Nat) × Unit))))))) ⊕ ((Unit × ((List Int) × Unit)) × ((Int × (Int × Unit)) × ((Unit × (Unit × Unit)) × ((Unit × Unit) × ((Int × Unit) × ((Unit × (Unit × Unit)) × (((List Int) × Nat) × Unit))))))))
noncomputable def charset_Encode_L1_R (pc : PC prog) (lp : LP) (ψ : charset_Encode_L1_D → Option charset_Encode_L1_X) (d : charset_Encode_L1_D) : Option charset_Encode_L1_X :=
  ifd (d.2.2.2.2.2.2.1.2 < (List.length d.2.2.2.2.2.2.1.1)) (
    ifd ((!(decide ((((decRune d.2.2.2.2.2.2.1.1 d.2.2.2.2.2.2.1.2).1 : Nat) : Int) < d.2.2.2.2.1.1))) = true) (
      some (Sum.inl (((), (), ()), ((17, ((d.2.2.2.2.2.2.1.2 : Nat) : Int), ()), ((), (), ()), ((), ()), (d.2.2.2.2.1.1, ()), ((), (), ()), (d.2.2.2.2.2.2.1.1, (d.2.2.2.2.2.2.1.2 + (decRune d.2.2.2.2.2.2.1.1 d.2.2.2.2.2.2.1.2).2)), ())))) (
      ifd ((decide ((((List.length d.1.2.2.1) + (List.length ([(Go.IntKind.wrap .u8 (((decRune d.2.2.2.2.2.2.1.1 d.2.2.2.2.2.2.1.2).1 : Nat) : Int))] : List Int))) * 1) ≤ 140737488355328)) = true) (
        ψ (((), (), (d.1.2.2.1 ++ ([(Go.IntKind.wrap .u8 (((decRune d.2.2.2.2.2.2.1.1 d.2.2.2.2.2.2.1.2).1 : Nat) : Int))] : List Int)), (), ()), ((d.2.1.1, d.2.1.2.1, ()), ((), (), ()), ((), ()), (d.2.2.2.2.1.1, ()), ((), (), ()), (d.2.2.2.2.2.2.1.1, (d.2.2.2.2.2.2.1.2 + (decRune d.2.2.2.2.2.2.1.1 d.2.2.2.2.2.2.1.2).2)), ()))) (
        none))) (
    some (Sum.inr (((), d.1.2.2.1, ()), ((d.2.1.1, d.2.1.2.1, ()), ((), (), ()), ((), ()), (d.2.2.2.2.1.1, ()), ((), (), ()), (d.2.2.2.2.2.2.1.1, d.2.2.2.2.2.2.1.2), ()))))
noncomputable def charset_Encode_L1 (pc : PC prog) (lp : LP) (d : charset_Encode_L1_D) : Option charset_Encode_L1_X := lp charset_Encode_L1_D charset_Encode_L1_X (charset_Encode_L1_R pc lp) d
theorem charset_Encode_L1_ap (E : AppE prog pcN pc lN lp) : ContR (fun N => charset_Encode_L1_R (pcN N) (lN N)) (charset_Encode_L1_R pc lp) := fun ψN ψ h d => by
  delta charset_Encode_L1_R
  exact (Approx.ifd (Approx.ifd (Approx.const _) (Approx.ifd (h _) Approx.none)) (Approx.const _))
theorem charset_Encode_L1_a (E : AppE prog pcN pc lN lp) {d : charset_Encode_L1_D} : Approx (fun N => charset_Encode_L1 (pcN N) (lN N) d) (charset_Encode_L1 pc lp d) := E.loop (charset_Encode_L1_ap E) d
theorem charset_Encode_L1_of {d : charset_Encode_L1_D} {x : charset_Encode_L1_X} (h : charset_Encode_L1_R (pcL prog cfg) lpL (charset_Encode_L1 (pcL prog cfg) lpL) d = some x) : charset_Encode_L1 (pcL prog cfg) lpL d = some x := lpL_step (charset_Encode_L1_ap (appL prog cfg)) h

-- charset_Encode, loop 250
abbrev charset_Encode_L2_D := ((Unit × (Unit × ((List Int) × (Unit × Unit)))) × ((Int × (Int × Unit)) × ((Unit × (Unit × Unit)) × ((Unit × Unit) × ((Int × Unit) × ((Unit × (Unit × Unit)) × (((List Int) × Nat) × Unit)))))))
abbrev charset_Encode_L2_X := (((Unit × (Unit × Unit)) × ((Int × (Int × Unit)) × ((Unit × (Unit × Unit)) × ((Unit × Unit) × ((Int × Unit) × ((Unit × (Unit × Unit)) × (((List Int) × Nat) × Unit))))))) ⊕ ((Unit × ((List Int) × Unit)) × ((Int × (Int × Unit)) × ((Unit × (Unit × Unit)) × ((Unit × Unit) × ((Int × Unit) × ((Unit × (Unit × Unit)) × (((List Int) × Nat) × Unit))))))))
noncomputable def charset_Encode_L2_R (pc : PC prog) (lp : LP) (ψ : charset_Encode_L2_D → Option charset_Encode_L2_X) (d : charset_Encode_L2_D) : Option charset_Encode_L2_X :=
  ifd (d.2.2.2.2.2.2.1.2 < (List.length d.2.2.2.2.2.2.1.1)) (
    ifd ((!(decide ((((decRune d.2.2.2.2.2.2.1.1 d.2.2.2.2.2.2.1.2).1 : Nat) : Int) < d.2.2.2.2.1.1))) = true) (
      some (Sum.inl (((), (), ()), ((17, ((d.2.2.2.2.2.2.1.2 : Nat) : Int), ()), ((), (), ()), ((), ()), (d.2.2.2.2.1.1, ()), ((), (), ()), (d.2.2.2.2.2.2.1.1, (d.2.2.2.2.2.2.1.2 + (decRune d.2.2.2.2.2.2.1.1 d.2.2.2.2.2.2.1.2).2)), ())))) (
      ifd ((decide ((((List.length d.1.2.2.1) + (List.length ([(Go.IntKind.wrap .u8 (((decRune d.2.2.2.2.2.2.1.1 d.2.2.2.2.2.2.1.2).1 : Nat) : Int))] : List Int))) * 1) ≤ 140737488355328)) = true) (
        ψ (((), (), (d.1.2.2.1 ++ ([(Go.IntKind.wrap .u8 (((decRune d.2.2.2.2.2.2.1.1 d.2.2.2.2.2.2.1.2).1 : Nat) : Int))] : List Int)), (), ()), ((d.2.1.1, d.2.1.2.1, ()), ((), (), ()), ((), ()), (d.2.2.2.2.1.1, ()), ((), (), ()), (d.2.2.2.2.2.2.1.1, (d.2.2.2.2.2.2.1.2 + (decRune d.2.2.2.2.2.2.1.1 d.2.2.2.2.2.2.1.2).2)), ()))) (
        none))) (
    some (Sum.inr (((), d.1.2.2.1, ()), ((d.2.1.1, d.2.1.2.1, ()), ((), (), ()), ((), ()), (d.2.2.2.2.1.1, ()), ((), (), ()), (d.2.2.2.2.2.2.1.1, d.2.2.2.2.2.2.1.2), ()))))
noncomputable def charset_Encode_L2 (pc : PC prog) (lp : LP) (d : charset_Encode_L2_D) : Option charset_Encode_L2_X := lp charset_Encode_L2_D charset_Encode_L2_X (charset_Encode_L2_R pc lp) d
theorem charset_Encode_L2_ap (E : AppE prog pcN pc lN lp) : ContR (fun N => charset_Encode_L2_R (pcN N) (lN N)) (charset_Encode_L2_R pc lp) := fun ψN ψ h d => by
  delta charset_Encode_L2_R
  exact (Approx.ifd (Approx.ifd (Approx.const _) (Approx.ifd (h _) Approx.none)) (Approx.const _))
theorem charset_Encode_L2_a (E : AppE prog pcN pc lN lp) {d : charset_Encode_L2_D} : Approx (fun N => charset_Encode_L2 (pcN N) (lN N) d) (charset_Encode_L2 pc lp d) := E.loop (charset_Encode_L2_ap E) d
theorem charset_Encode_L2_of {d : charset_Encode_L2_D} {x : charset_Encode_L2_X} (h : charset_Encode_L2_R (pcL prog cfg) lpL (charset_Encode_L2 (pcL prog cfg) lpL) d = some x) : charset_Encode_L2 (pcL prog cfg) lpL d = some x := lpL_step (charset_Encode_L2_ap (appL prog cfg)) h

-- charset_Encode, loop 250
abbrev charset_Encode_L3_D := ((Unit × (Unit × ((List Int) × (Unit × Unit)))) × ((Int × (Int × Unit)) × ((Unit × (Unit × Unit)) × ((Unit × (Unit × Unit)) × (((List Int) × Nat) × Unit)))))
abbrev charset_Encode_L3_X := (((Unit × (Unit × Unit)) × ((Int × (Int × Unit)) × ((Unit × (Unit × Unit)) × ((Unit × (Unit × Unit)) × (((List Int) × Nat) × Unit))))) ⊕ ((Unit × ((List Int) × Unit)) × ((Int × (Int × Unit)) × ((Unit × (Unit × Unit)) × ((Unit × (Unit × Unit)) × (((List Int) × Nat) × Unit))))))
noncomputable def charset_Encode_L3_R (pc : PC prog) (lp : LP) (ψ : charset_Encode_L3_D → Option charset_Encode_L3_X) (d : charset_Encode_L3_D) : Option charset_Encode_L3_X :=
  ifd (d.2.2.2.2.1.2 < (List.length d.2.2.2.2.1.1)) (
    bnd (bnd (charset_find_3_c pc (((decRune d.2.2.2.2.1.1 d.2.2.2.2.1.2).1 : Nat) : Int)) fun (x18 : ((List Int) × (Bool × Unit))) =>
    some (x18.1, (x18.2.1, ()))) fun (x19 : ((List Int) × (Bool × Unit))) =>
    ifd ((!x19.2.1) = true) (
      some (Sum.inl (((), (), ()), ((17, ((d.2.2.2.2.1.2 : Nat) : Int), ()), ((), (), ()), ((), (), ()), (d.2.2.2.2.1.1, (d.2.2.2.2.1.2 + (decRune d.2.2.2.2.1.1 d.2.2.2.2.1.2).2)), ())))) (
      ifd ((decide ((((List.length d.1.2.2.1) + (List.length x19.1)) * 1) ≤ 140737488355328)) = true) (
        ψ (((), (), (d.1.2.2.1 ++ x19.1), (), ()), ((d.2.1.1, d.2.1.2.1, ()), ((), (), ()), ((), (), ()), (d.2.2.2.2.1.1, (d.2.2.2.2.1.2 + (decRune d.2.2.2.2.1.1 d.2.2.2.2.1.2).2)), ()))) (
        none))) (
    some (Sum.inr (((), d.1.2.2.1, ()), ((d.2.1.1, d.2.1.2.1, ()), ((), (), ()), ((), (), ()), (d.2.2.2.2.1.1, d.2.2.2.2.1.2), ()))))
noncomputable def charset_Encode_L3 (pc : PC prog) (lp : LP) (d : charset_Encode_L3_D) : Option charset_Encode_L3_X := lp charset_Encode_L3_D charset_Encode_L3_X (charset_Encode_L3_R pc lp) d
theorem charset_Encode_L3_ap (E : AppE prog pcN pc lN lp) : ContR (fun N => charset_Encode_L3_R (pcN N) (lN N)) (charset_Encode_L3_R pc lp) := fun ψN ψ h d => by
  delta charset_Encode_L3_R
  exact (Approx.ifd (Approx.bnd (Approx.bnd (charset_find_3_ca E) fun x18 => (Approx.const _)) fun x19 => (Approx.ifd (Approx.const _) (Approx.ifd (h _) Approx.none))) (Approx.const _))
theorem charset_Encode_L3_a (E : AppE prog pcN pc lN lp) {d : charset_Encode_L3_D} : Approx (fun N => charset_Encode_L3 (pcN N) (lN N) d) (charset_Encode_L3 pc lp d) := E.loop (charset_Encode_L3_ap E) d
theorem charset_Encode_L3_of {d : charset_Encode_L3_D} {x : charset_Encode_L3_X} (h : charset_Encode_L3_R (pcL prog cfg) lpL (charset_Encode_L3 (pcL prog cfg) lpL) d = some x) : charset_Encode_L3 (pcL prog cfg) lpL d = some x := lpL_step (charset_Encode_L3_ap (appL prog cfg)) h

-- charset_Encode, loop 250
abbrev charset_Encode_L4_D := ((Unit × (Unit × ((List Int) × (Unit × Unit)))) × ((Int × (Int × Unit)) × ((Unit × (Unit × Unit)) × ((Unit × (Unit × Unit)) × (((List Int) × Nat) × Unit)))))
abbrev charset_Encode_L4_X := (((Unit × (Unit × Unit)) × ((Int × (Int × Unit)) × ((Unit × (Unit × Unit)) × ((Unit × (Unit × Unit)) × (((List Int) × Nat) × Unit))))) ⊕ ((Unit × ((List Int) × Unit)) × ((Int × (Int × Unit)) × ((Unit × (Unit × Unit)) × ((Unit × (Unit × Unit)) × (((List Int) × Nat) × Unit))))))
noncomputable def charset_Encode_L4_R (pc : PC prog) (lp : LP) (ψ : charset_Encode_L4_D → Option charset_Encode_L4_X) (d : charset_Encode_L4_D) : Option charset_Encode_L4_X :=
  ifd (d.2.2.2.2.1.2 < (List.length d.2.2.2.2.1.1)) (
    bnd (bnd (charset_pairs_c pc (((decRune d.2.2.2.2.1.1 d.2.2.2.2.1.2).1 : Nat) : Int)) fun (x26 : ((List Int) × (Bool × Unit))) =>
    some (x26.1, (x26.2.1, ()))) fun (x27 : ((List Int) × (Bool × Unit))) =>
    ifd ((!x27.2.1) = true) (
      some (Sum.inl (((), (), ()), ((17, ((d.2.2.2.2.1.2 : Nat) : Int), ()), ((), (), ()), ((), (), ()), (d.2.2.2.2.1.1, (d.2.2.2.2.1.2 + (decRune d.2.2.2.2.1.1 d.2.2.2.2.1.2).2)), ())))) (
      ifd ((decide ((((List.length d.1.2.2.1) + (List.length x27.1)) * 1) ≤ 140737488355328)) = true) (
        ψ (((), (), (d.1.2.2.1 ++ x27.1), (), ()), ((d.2.1.1, d.2.1.2.1, ()), ((), (), ()), ((), (), ()), (d.2.2.2.2.1.1, (d.2.2.2.2.1.2 + (decRune d.2.2.2.2.1.1 d.2.2.2.2.1.2).2)), ()))) (
        none))) (
    some (Sum.inr (((), d.1.2.2.1, ()), ((d.2.1.1, d.2.1.2.1, ()), ((), (), ()), ((), (), ()), (d.2.2.2.2.1.1, d.2.2.2.2.1.2), ()))))
noncomputable def charset_Encode_L4 (pc : PC prog) (lp : LP) (d : charset_Encode_L4_D) : Option charset_Encode_L4_X := lp charset_Encode_L4_D charset_Encode_L4_X (charset_Encode_L4_R pc lp) d
theorem charset_Encode_L4_ap (E : AppE prog pcN pc lN lp) : ContR (fun N => charset_Encode_L4_R (pcN N) (lN N)) (charset_Encode_L4_R pc lp) := fun ψN ψ h d => by
  delta charset_Encode_L4_R
  exact (Approx.ifd (Approx.bnd (Approx.bnd (charset_pairs_ca E) fun x26 => (Approx.const _)) fun x27 => (Approx.ifd (Approx.const _) (Approx.ifd (h _) Approx.none))) (Approx.const _))
theorem charset_Encode_L4_a (E : AppE prog pcN pc lN lp) {d : charset_Encode_L4_D} : Approx (fun N => charset_Encode_L4 (pcN N) (lN N) d) (charset_Encode_L4 pc lp d) := E.loop (charset_Encode_L4_ap E) d
theorem charset_Encode_L4_of {d : charset_Encode_L4_D} {x : charset_Encode_L4_X} (h : charset_Encode_L4_R (pcL prog cfg) lpL (charset_Encode_L4 (pcL prog cfg) lpL) d = some x) : charset_Encode_L4 (pcL prog cfg) lpL d = some x := lpL_step (charset_Encode_L4_ap (appL prog cfg)) h

noncomputable def charset_Encode_B (pc : PC prog) (lp : LP) (a0 : List Int) (a1 : List Int) : Option ((List Int) × ((Int × (Int × Unit)) × Unit)) :=
  bnd (bnd (charset_lower_c pc a0) fun (x0 : (List Int)) =>
  some x0) fun (x1 : (List Int)) =>
  ifd ((x1 == ([97, 115, 99, 105, 105] : List Int)) = true) (
    ifd ((decide ((((List.length a1) : Nat) : Int) > 12000)) = true) (
      some (([] : List Int), ((1, ((-1), ())), ()))) (
      bnd (bnd (unicode_utf8_ValidString_c pc a1) fun (x2 : Bool) =>
      some x2) fun (x3 : Bool) =>
      ifd ((!x3) = true) (
        some (([] : List Int), ((5, ((-3), ())), ()))) (
        bnd (charset_Encode_L1 pc lp (((), (), ([] : List Int), (), ()), ((0, 0, ()), ((), (), ()), ((), ()), (128, ()), ((), (), ()), (a1, 0), ()))) (Sum.elim (fun (y4 : ((Unit × (Unit × Unit)) × ((Int × (Int × Unit)) × ((Unit × (Unit × Unit)) × ((Unit × Unit) × ((Int × Unit) × ((Unit × (Unit × Unit)) × (((List Int) × Nat) × Unit)))))))) =>
        some (([] : List Int), ((y4.2.1.1, (y4.2.1.2.1, ())), ()))) (fun (y5 : ((Unit × ((List Int) × Unit)) × ((Int × (Int × Unit)) × ((Unit × (Unit × Unit)) × ((Unit × Unit) × ((Int × Unit) × ((Unit × (Unit × Unit)) × (((List Int) × Nat) × Unit)))))))) =>
        some (y5.1.2.1, ((0, (0, ())), ()))))))) (
    ifd ((x1 == ([108, 97, 116, 105, 110, 49] : List Int)) = true) (
      ifd ((decide ((((List.length a1) : Nat) : Int) > 12000)) = true) (
        some (([] : List Int), ((1, ((-1), ())), ()))) (
        bnd (bnd (unicode_utf8_ValidString_c pc a1) fun (x6 : Bool) =>
        some x6) fun (x7 : Bool) =>
        ifd ((!x7) = true) (
          some (([] : List Int), ((5, ((-3), ())), ()))) (
          bnd (charset_Encode_L2 pc lp (((), (), ([] : List Int), (), ()), ((0, 0, ()), ((), (), ()), ((), ()), (256, ()), ((), (), ()), (a1, 0), ()))) (Sum.elim (fun (y8 : ((Unit × (Unit × Unit)) × ((Int × (Int × Unit)) × ((Unit × (Unit × Unit)) × ((Unit × Unit) × ((Int × Unit) × ((Unit × (Unit × Unit)) × (((List Int) × Nat) × Unit)))))))) =>
          some (([] : List Int), ((y8.2.1.1, (y8.2.1.2.1, ())), ()))) (fun (y9 : ((Unit × ((List Int) × Unit)) × ((Int × (Int × Unit)) × ((Unit × (Unit × Unit)) × ((Unit × Unit) × ((Int × Unit) × ((Unit × (Unit × Unit)) × (((List Int) × Nat) × Unit)))))))) =>
          some (y9.1.2.1, ((0, (0, ())), ()))))))) (
      ifd ((x1 == ([117, 116, 102, 56] : List Int)) = true) (
        ifd ((decide ((((List.length a1) : Nat) : Int) > 12000)) = true) (
          some (([] : List Int), ((1, ((-1), ())), ()))) (
          bnd (bnd (unicode_utf8_ValidString_c pc a1) fun (x10 : Bool) =>
          some x10) fun (x11 : Bool) =>
          ifd ((!x11) = true) (
            some (([] : List Int), ((5, ((-3), ())), ()))) (
            bnd (charset_Encode_L3 pc lp (((), (), ([] : List Int), (), ()), ((0, 0, ()), ((), (), ()), ((), (), ()), (a1, 0), ()))) (Sum.elim (fun (y20 : ((Unit × (Unit × Unit)) × ((Int × (Int × Unit)) × ((Unit × (Unit × Unit)) × ((Unit × (Unit × Unit)) × (((List Int) × Nat) × Unit)))))) =>
            some (([] : List Int), ((y20.2.1.1, (y20.2.1.2.1, ())), ()))) (fun (y21 : ((Unit × ((List Int) × Unit)) × ((Int × (Int × Unit)) × ((Unit × (Unit × Unit)) × ((Unit × (Unit × Unit)) × (((List Int) × Nat) × Unit)))))) =>
            some (y21.1.2.1, ((0, (0, ())), ()))))))) (
        ifd ((x1 == ([117, 116, 102, 49, 54, 98, 101] : List Int)) = true) (
          ifd ((decide ((((List.length a1) : Nat) : Int) > 12000)) = true) (
            some (([] : List Int), ((1, ((-1), ())), ()))) (
            bnd (bnd (unicode_utf8_ValidString_c pc a1) fun (x22 : Bool) =>
            some x22) fun (x23 : Bool) =>
            ifd ((!x23) = true) (
              some (([] : List Int), ((5, ((-3), ())), ()))) (
              bnd (charset_Encode_L4 pc lp (((), (), ([] : List Int), (), ()), ((0, 0, ()), ((), (), ()), ((), (), ()), (a1, 0), ()))) (Sum.elim (fun (y28 : ((Unit × (Unit × Unit)) × ((Int × (Int × Unit)) × ((Unit × (Unit × Unit)) × ((Unit × (Unit × Unit)) × (((List Int) × Nat) × Unit)))))) =>
              some (([] : List Int), ((y28.2.1.1, (y28.2.1.2.1, ())), ()))) (fun (y29 : ((Unit × ((List Int) × Unit)) × ((Int × (Int × Unit)) × ((Unit × (Unit × Unit)) × ((Unit × (Unit × Unit)) × (((List Int) × Nat) × Unit)))))) =>
              some (y29.1.2.1, ((0, (0, ())), ()))))))) (
          ifd ((decide ((((List.length a1) : Nat) : Int) > 12000)) = true) (
            some (([] : List Int), ((1, ((-1), ())), ()))) (
            some (([] : List Int), ((18, ((-2), ())), ())))))))
theorem charset_Encode_eq (a0 : List Int) (a1 : List Int) (pc : PC prog) (lp : LP) : got charset_Encode_t (pcall prog (runO prog cfg (hand prog cfg lp pc 6 tbl 5) pc 6) 13 [(.c (.str a0)), (.c (.str a1))]) = charset_Encode_B pc lp a0 a1 := by kernel_rfl
theorem charset_Encode_ap (E : AppE prog pcN pc lN lp) (a0 : List Int) (a1 : List Int) : Approx (fun N => charset_Encode_B (pcN N) (lN N) a0 a1) (charset_Encode_B pc lp a0 a1) := by
  delta charset_Encode_B
  exact (Approx.bnd (Approx.bnd (charset_lower_ca E) fun x0 => (Approx.const _)) fun x1 => (Approx.ifd (Approx.ifd (Approx.const _) (Approx.bnd (Approx.bnd (unicode_utf8_ValidString_ca E) fun x2 => (Approx.const _)) fun x3 => (Approx.ifd (Approx.const _) (Approx.bnd (charset_Encode_L1_a E) (Approx.sum (fun y4 => (Approx.const _)) (fun y5 => (Approx.const _))))))) (Approx.ifd (Approx.ifd (Approx.const _) (Approx.bnd (Approx.bnd (unicode_utf8_ValidString_ca E) fun x6 => (Approx.const _)) fun x7 => (Approx.ifd (Approx.const _) (Approx.bnd (charset_Encode_L2_a E) (Approx.sum (fun y8 => (Approx.const _)) (fun y9 => (Approx.const _))))))) (Approx.ifd (Approx.ifd (Approx.const _) (Approx.bnd (Approx.bnd (unicode_utf8_ValidString_ca E) fun x10 => (Approx.const _)) fun x11 => (Approx.ifd (Approx.const _) (Approx.bnd (charset_Encode_L3_a E) (Approx.sum (fun y20 => (Approx.const _)) (fun y21 => (Approx.const _))))))) (Approx.ifd (Approx.ifd (Approx.const _) (Approx.bnd (Approx.bnd (unicode_utf8_ValidString_ca E) fun x22 => (Approx.const _)) fun x23 => (Approx.ifd (Approx.const _) (Approx.bnd (charset_Encode_L4_a E) (Approx.sum (fun y28 => (Approx.const _)) (fun y29 => (Approx.const _))))))) (Approx.ifd (Approx.const _) (Approx.const _)))))))
theorem charset_Encode_of {a0 : List Int} {a1 : List Int} {y : ((List Int) × ((Int × (Int × Unit)) × Unit))} (h : charset_Encode_B (pcL prog cfg) lpL a0 a1 = some y) : charset_Encode_c (pcL prog cfg) a0 a1 = some y := fn_of rfl (charset_Encode_eq a0 a1) (charset_Encode_ap (appN prog cfg) a0 a1) h

-- ref1_Valid, loop 26
abbrev ref1_Valid_L1_D := (((List Int) × (Int × Unit)) × Unit)
abbrev ref1_Valid_L1_X := (((Bool × Unit) × Unit) ⊕ (Unit × Unit))
noncomputable def ref1_Valid_L1_R (pc : PC prog) (lp : LP) (ψ : ref1_Valid_L1_D → Option ref1_Valid_L1_X) (d : ref1_Valid_L1_D) : Option ref1_Valid_L1_X :=
  ifd ((decide (d.1.2.1 < (((List.length d.1.1) : Nat) : Int))) = true) (
    bnd (bnd (ref1_Rune_c pc d.1.1 d.1.2.1) fun (x2 : (Int × (Int × Unit))) =>
    some (x2.1, (x2.2.1, ()))) fun (x3 : (Int × (Int × Unit))) =>
    ifd ((decide (x3.1 < 0)) = true) (
      some (Sum.inl ((false, ()), ()))) (
      ψ ((d.1.1, (Go.IntKind.wrap .i64 (d.1.2.1 + x3.2.1)), ()), ()))) (
    some (Sum.inr ((), ())))
noncomputable def ref1_Valid_L1 (pc : PC prog) (lp : LP) (d : ref1_Valid_L1_D) : Option ref1_Valid_L1_X := lp ref1_Valid_L1_D ref1_Valid_L1_X (ref1_Valid_L1_R pc lp) d
theorem ref1_Valid_L1_ap (E : AppE prog pcN pc lN lp) : ContR (fun N => ref1_Valid_L1_R (pcN N) (lN N)) (ref1_Valid_L1_R pc lp) := fun ψN ψ h d => by
  delta ref1_Valid_L1_R
  exact (Approx.ifd (Approx.bnd (Approx.bnd (ref1_Rune_ca E) fun x2 => (Approx.const _)) fun x3 => (Approx.ifd (Approx.const _) (h _))) (Approx.const _))
theorem ref1_Valid_L1_a (E : AppE prog pcN pc lN lp) {d : ref1_Valid_L1_D} : Approx (fun N => ref1_Valid_L1 (pcN N) (lN N) d) (ref1_Valid_L1 pc lp d) := E.loop (ref1_Valid_L1_ap E) d
theorem ref1_Valid_L1_of {d : ref1_Valid_L1_D} {x : ref1_Valid_L1_X} (h : ref1_Valid_L1_R (pcL prog cfg) lpL (ref1_Valid_L1 (pcL prog cfg) lpL) d = some x) : ref1_Valid_L1 (pcL prog cfg) lpL d = some x := lpL_step (ref1_Valid_L1_ap (appL prog cfg)) h

noncomputable def ref1_Valid_B (pc : PC prog) (lp : LP) (a0 : List Int) : Option Bool :=
  bnd (ref1_Valid_L1 pc lp ((a0, 0, ()), ())) (Sum.elim (fun (y4 : ((Bool × Unit) × Unit)) =>
  some y4.1.1) (fun (y5 : (Unit × Unit)) =>
  some true))
theorem ref1_Valid_eq (a0 : List Int) (pc : PC prog) (lp : LP) : got ref1_Valid_t (pcall prog (runO prog cfg (hand prog cfg lp pc 6 tbl 5) pc 6) 14 [(.c (.str a0))]) = ref1_Valid_B pc lp a0 := by kernel_rfl
theorem ref1_Valid_ap (E : AppE prog pcN pc lN lp) (a0 : List Int) : Approx (fun N => ref1_Valid_B (pcN N) (lN N) a0) (ref1_Valid_B pc lp a0) := by
  delta ref1_Valid_B
  exact (Approx.bnd (ref1_Valid_L1_a E) (Approx.sum (fun y4 => (Approx.const _)) (fun y5 => (Approx.const _))))
theorem ref1_Valid_of {a0 : List Int} {y : Bool} (h : ref1_Valid_B (pcL prog cfg) lpL a0 = some y) : ref1_Valid_c (pcL prog cfg) a0 = some y := fn_of rfl (ref1_Valid_eq a0) (ref1_Valid_ap (appN prog cfg) a0) h

-- ref1_Encoded, part 3732
abbrev ref1_Encoded_C1_D := ((Int × ((List Int) × (Unit × (Int × (Int × (Int × Unit)))))) × Unit)
abbrev ref1_Encoded_C1_X := ((Int × ((List Int) × (Unit × (Int × (Int × (Int × (Bool × Unit))))))) × Unit)
noncomputable def ref1_Encoded_C1 (pc : PC prog) (lp : LP) (d : ref1_Encoded_C1_D) : Option ref1_Encoded_C1_X :=
  ifd ((d.1.1 == 0) = true) (
    ifd ((d.1.1 == 0) = true) (
      ifd ((decide (d.1.2.2.2.2.1 > 127)) = true) (
        ifd ((decide (d.1.2.2.2.2.1 > 127)) = true) (
          ifd ((decide (d.1.2.2.2.2.1 > 127)) = true) (
            some ((d.1.1, d.1.2.1, (), d.1.2.2.2.1, d.1.2.2.2.2.1, d.1.2.2.2.2.2.1, true, ()), ())) (
            none)) (
          none)) (
        ifd ((d.1.1 == 1) = true) (
          ifd ((decide (d.1.2.2.2.2.1 > 127)) = true) (
            ifd ((decide (d.1.2.2.2.2.1 > 127)) = true) (
              some ((d.1.1, d.1.2.1, (), d.1.2.2.2.1, d.1.2.2.2.2.1, d.1.2.2.2.2.2.1, true, ()), ())) (
              none)) (
            ifd ((d.1.1 == 1) = true) (
              ifd ((decide (d.1.2.2.2.2.1 > 127)) = true) (
                some ((d.1.1, d.1.2.1, (), d.1.2.2.2.1, d.1.2.2.2.2.1, d.1.2.2.2.2.2.1, true, ()), ())) (
                some ((d.1.1, d.1.2.1, (), d.1.2.2.2.1, d.1.2.2.2.2.1, d.1.2.2.2.2.2.1, (decide (d.1.2.2.2.2.1 > 255)), ()), ()))) (
              ifd ((decide (d.1.2.2.2.2.1 > 127)) = true) (
                some ((d.1.1, d.1.2.1, (), d.1.2.2.2.1, d.1.2.2.2.2.1, d.1.2.2.2.2.2.1, true, ()), ())) (
                some ((d.1.1, d.1.2.1, (), d.1.2.2.2.1, d.1.2.2.2.2.1, d.1.2.2.2.2.2.1, false, ()), ()))))) (
          ifd ((decide (d.1.2.2.2.2.1 > 127)) = true) (
            ifd ((decide (d.1.2.2.2.2.1 > 127)) = true) (
              some ((d.1.1, d.1.2.1, (), d.1.2.2.2.1, d.1.2.2.2.2.1, d.1.2.2.2.2.2.1, true, ()), ())) (
              none)) (
            ifd ((d.1.1 == 1) = true) (
              ifd ((decide (d.1.2.2.2.2.1 > 127)) = true) (
                some ((d.1.1, d.1.2.1, (), d.1.2.2.2.1, d.1.2.2.2.2.1, d.1.2.2.2.2.2.1, true, ()), ())) (
                none)) (
              ifd ((decide (d.1.2.2.2.2.1 > 127)) = true) (
                some ((d.1.1, d.1.2.1, (), d.1.2.2.2.1, d.1.2.2.2.2.1, d.1.2.2.2.2.2.1, true, ()), ())) (
                some ((d.1.1, d.1.2.1, (), d.1.2.2.2.1, d.1.2.2.2.2.1, d.1.2.2.2.2.2.1, false, ()), ()))))))) (
      ifd ((d.1.1 == 1) = true) (
        ifd ((d.1.1 == 1) = true) (
          some ((d.1.1, d.1.2.1, (), d.1.2.2.2.1, d.1.2.2.2.2.1, d.1.2.2.2.2.2.1, (decide (d.1.2.2.2.2.1 > 255)), ()), ())) (
          some ((d.1.1, d.1.2.1, (), d.1.2.2.2.1, d.1.2.2.2.2.1, d.1.2.2.2.2.2.1, false, ()), ()))) (
        ifd ((d.1.1 == 1) = true) (
          none) (
          some ((d.1.1, d.1.2.1, (), d.1.2.2.2.1, d.1.2.2.2.2.1, d.1.2.2.2.2.2.1, false, ()), ()))))) (
    ifd ((d.1.1 == 0) = true) (
      none) (
      ifd ((d.1.1 == 1) = true) (
        ifd ((d.1.1 == 1) = true) (
          some ((d.1.1, d.1.2.1, (), d.1.2.2.2.1, d.1.2.2.2.2.1, d.1.2.2.2.2.2.1, (decide (d.1.2.2.2.2.1 > 255)), ()), ())) (
          some ((d.1.1, d.1.2.1, (), d.1.2.2.2.1, d.1.2.2.2.2.1, d.1.2.2.2.2.2.1, false, ()), ()))) (
        ifd ((d.1.1 == 1) = true) (
          none) (
          some ((d.1.1, d.1.2.1, (), d.1.2.2.2.1, d.1.2.2.2.2.1, d.1.2.2.2.2.2.1, false, ()), ())))))
theorem ref1_Encoded_C1_a (E : AppE prog pcN pc lN lp) {d : ref1_Encoded_C1_D} : Approx (fun N => ref1_Encoded_C1 (pcN N) (lN N) d) (ref1_Encoded_C1 pc lp d) := by
  delta ref1_Encoded_C1
  exact (Approx.ifd (Approx.ifd (Approx.ifd (Approx.ifd (Approx.ifd (Approx.const _) Approx.none) Approx.none) (Approx.ifd (Approx.ifd (Approx.ifd (Approx.const _) Approx.none) (Approx.ifd (Approx.ifd (Approx.const _) (Approx.const _)) (Approx.ifd (Approx.const _) (Approx.const _)))) (Approx.ifd (Approx.ifd (Approx.const _) Approx.none) (Approx.ifd (Approx.ifd (Approx.const _) Approx.none) (Approx.ifd (Approx.const _) (Approx.const _)))))) (Approx.ifd (Approx.ifd (Approx.const _) (Approx.const _)) (Approx.ifd Approx.none (Approx.const _)))) (Approx.ifd Approx.none (Approx.ifd (Approx.ifd (Approx.const _) (Approx.const _)) (Approx.ifd Approx.none (Approx.const _)))))

-- ref1_Encoded, part 3732
abbrev ref1_Encoded_C2_D := ((Int × ((List Int) × ((List Int) × (Int × (Int × (Int × Unit)))))) × Unit)
abbrev ref1_Encoded_C2_X := ((Int × ((List Int) × ((List Int) × (Int × (Int × (Int × (Bool × Unit))))))) × Unit)
noncomputable def ref1_Encoded_C2 (pc : PC prog) (lp : LP) (d : ref1_Encoded_C2_D) : Option ref1_Encoded_C2_X :=
  ifd ((d.1.1 == 0) = true) (
    ifd ((d.1.1 == 0) = true) (
      ifd ((decide (d.1.2.2.2.2.1 > 127)) = true) (
        ifd ((decide (d.1.2.2.2.2.1 > 127)) = true) (
          ifd ((decide (d.1.2.2.2.2.1 > 127)) = true) (
            some ((d.1.1, d.1.2.1, d.1.2.2.1, d.1.2.2.2.1, d.1.2.2.2.2.1, d.1.2.2.2.2.2.1, true, ()), ())) (
            none)) (
          none)) (
        ifd ((d.1.1 == 1) = true) (
          ifd ((decide (d.1.2.2.2.2.1 > 127)) = true) (
            ifd ((decide (d.1.2.2.2.2.1 > 127)) = true) (
              some ((d.1.1, d.1.2.1, d.1.2.2.1, d.1.2.2.2.1, d.1.2.2.2.2.1, d.1.2.2.2.2.2.1, true, ()), ())) (
              none)) (
            ifd ((d.1.1 == 1) = true) (
              ifd ((decide (d.1.2.2.2.2.1 > 127)) = true) (
                some ((d.1.1, d.1.2.1, d.1.2.2.1, d.1.2.2.2.1, d.1.2.2.2.2.1, d.1.2.2.2.2.2.1, true, ()), ())) (
                some ((d.1.1, d.1.2.1, d.1.2.2.1, d.1.2.2.2.1, d.1.2.2.2.2.1, d.1.2.2.2.2.2.1, (decide (d.1.2.2.2.2.1 > 255)), ()), ()))) (
              ifd ((decide (d.1.2.2.2.2.1 > 127)) = true) (
                some ((d.1.1, d.1.2.1, d.1.2.2.1, d.1.2.2.2.1, d.1.2.2.2.2.1, d.1.2.2.2.2.2.1, true, ()), ())) (
                some ((d.1.1, d.1.2.1, d.1.2.2.1, d.1.2.2.2.1, d.1.2.2.2.2.1, d.1.2.2.2.2.2.1, false, ()), ()))))) (
          ifd ((decide (d.1.2.2.2.2.1 > 127)) = true) (
            ifd ((decide (d.1.2.2.2.2.1 > 127)) = true) (
              some ((d.1.1, d.1.2.1, d.1.2.2.1, d.1.2.2.2.1, d.1.2.2.2.2.1, d.1.2.2.2.2.2.1, true, ()), ())) (
              none)) (
            ifd ((d.1.1 == 1) = true) (
              ifd ((decide (d.1.2.2.2.2.1 > 127)) = true) (
                some ((d.1.1, d.1.2.1, d.1.2.2.1, d.1.2.2.2.1, d.1.2.2.2.2.1, d.1.2.2.2.2.2.1, true, ()), ())) (
                none)) (
              ifd ((decide (d.1.2.2.2.2.1 > 127)) = true) (
                some ((d.1.1, d.1.2.1, d.1.2.2.1, d.1.2.2.2.1, d.1.2.2.2.2.1, d.1.2.2.2.2.2.1, true, ()), ())) (
                some ((d.1.1, d.1.2.1, d.1.2.2.1, d.1.2.2.2.1, d.1.2.2.2.2.1, d.1.2.2.2.2.2.1, false, ()), ()))))))) (
      ifd ((d.1.1 == 1) = true) (
        ifd ((d.1.1 == 1) = true) (
          some ((d.1.1, d.1.2.1, d.1.2.2.1, d.1.2.2.2.1, d.1.2.2.2.2.1, d.1.2.2.2.2.2.1, (decide (d.1.2.2.2.2.1 > 255)), ()), ())) (
          some ((d.1.1, d.1.2.1, d.1.2.2.1, d.1.2.2.2.1, d.1.2.2.2.2.1, d.1.2.2.2.2.2.1, false, ()), ()))) (
        ifd ((d.1.1 == 1) = true) (
          none) (
          some ((d.1.1, d.1.2.1, d.1.2.2.1, d.1.2.2.2.1, d.1.2.2.2.2.1, d.1.2.2.2.2.2.1, false, ()), ()))))) (
    ifd ((d.1.1 == 0) = true) (
      none) (
      ifd ((d.1.1 == 1) = true) (
        ifd ((d.1.1 == 1) = true) (
          some ((d.1.1, d.1.2.1, d.1.2.2.1, d.1.2.2.2.1, d.1.2.2.2.2.1, d.1.2.2.2.2.2.1, (decide (d.1.2.2.2.2.1 > 255)), ()), ())) (
          some ((d.1.1, d.1.2.1, d.1.2.2.1, d.1.2.2.2.1, d.1.2.2.2.2.1, d.1.2.2.2.2.2.1, false, ()), ()))) (
        ifd ((d.1.1 == 1) = true) (
          none) (
          some ((d.1.1, d.1.2.1, d.1.2.2.1, d.1.2.2.2.1, d.1.2.2.2.2.1, d.1.2.2.2.2.2.1, false, ()), ())))))
theorem ref1_Encoded_C2_a (E : AppE prog pcN pc lN lp) {d : ref1_Encoded_C2_D} : Approx (fun N => ref1_Encoded_C2 (pcN N) (lN N) d) (ref1_Encoded_C2 pc lp d) := by
  delta ref1_Encoded_C2
  exact (Approx.ifd (Approx.ifd (Approx.ifd (Approx.ifd (Approx.ifd (Approx.const _) Approx.none) Approx.none) (Approx.ifd (Approx.ifd (Approx.ifd (Approx.const _) Approx.none) (Approx.ifd (Approx.ifd (Approx.const _) (Approx.const _)) (Approx.ifd (Approx.const _) (Approx.const _)))) (Approx.ifd (Approx.ifd (Approx.const _) Approx.none) (Approx.ifd (Approx.ifd (Approx.const _) Approx.none) (Approx.ifd (Approx.const _) (Approx.const _)))))) (Approx.ifd (Approx.ifd (Approx.const _) (Approx.const _)) (Approx.ifd Approx.none (Approx.const _)))) (Approx.ifd Approx.none (Approx.ifd (Approx.ifd (Approx.const _) (Approx.const _)) (Approx.ifd Approx.none (Approx.const _)))))

-- ref1_Encoded, loop 58
abbrev ref1_Encoded_L3_D := ((Int × ((List Int) × ((List Int) × (Int × Unit)))) × Unit)
abbrev ref1_Encoded_L3_X := (((Unit × (Int × Unit)) × Unit) ⊕ (((List Int) × Unit) × Unit))
noncomputable def ref1_Encoded_L3_R (pc : PC prog) (lp : LP) (ψ : ref1_Encoded_L3_D → Option ref1_Encoded_L3_X) (d : ref1_Encoded_L3_D) : Option ref1_Encoded_L3_X :=
  ifd ((decide (d.1.2.2.2.1 < (((List.length d.1.2.1) : Nat) : Int))) = true) (
    bnd (bnd (ref1_Rune_c pc d.1.2.1 d.1.2.2.2.1) fun (x9 : (Int × (Int × Unit))) =>
    some (x9.1, (x9.2.1, ()))) fun (x10 : (Int × (Int × Unit))) =>
    bnd (ref1_Encoded_C2 pc lp ((d.1.1, d.1.2.1, d.1.2.2.1, d.1.2.2.2.1, x10.1, x10.2.1, ()), ())) (fun (y11 : ((Int × ((List Int) × ((List Int) × (Int × (Int × (Int × (Bool × Unit))))))) × Unit)) =>
    ifd (y11.1.2.2.2.2.2.2.1 = true) (
      some (Sum.inl (((), y11.1.2.2.2.1, ()), ()))) (
      ifd ((decide (y11.1.1 ≤ 1)) = true) (
        ifd ((decide ((((List.length y11.1.2.2.1) + (List.length ([(Go.IntKind.wrap .u8 y11.1.2.2.2.2.1)] : List Int))) * 1) ≤ 140737488355328)) = true) (
          ψ ((y11.1.1, y11.1.2.1, (y11.1.2.2.1 ++ ([(Go.IntKind.wrap .u8 y11.1.2.2.2.2.1)] : List Int)), (Go.IntKind.wrap .i64 (y11.1.2.2.2.1 + y11.1.2.2.2.2.2.1)), ()), ())) (
          none)) (
        ifd ((y11.1.1 == 2) = true) (
          ifd ((decide (((0 : Int) ≤ y11.1.2.2.2.1) ∧ ((y11.1.2.2.2.1 ≤ (Go.IntKind.wrap .i64 (y11.1.2.2.2.1 + y11.1.2.2.2.2.2.1))) ∧ ((Go.IntKind.wrap .i64 (y11.1.2.2.2.1 + y11.1.2.2.2.2.2.1)) ≤ (((List.length y11.1.2.1) : Nat) : Int))))) = true) (
            ifd ((decide ((((List.length y11.1.2.2.1) + (List.length (List.drop (Int.toNat y11.1.2.2.2.1) (List.take (Int.toNat (Go.IntKind.wrap .i64 (y11.1.2.2.2.1 + y11.1.2.2.2.2.2.1))) y11.1.2.1)))) * 1) ≤ 140737488355328)) = true) (
              ψ ((y11.1.1, y11.1.2.1, (y11.1.2.2.1 ++ (List.drop (Int.toNat y11.1.2.2.2.1) (List.take (Int.toNat (Go.IntKind.wrap .i64 (y11.1.2.2.2.1 + y11.1.2.2.2.2.2.1))) y11.1.2.1))), (Go.IntKind.wrap .i64 (y11.1.2.2.2.1 + y11.1.2.2.2.2.2.1)), ()), ())) (
              none)) (
            none)) (
          ifd ((decide (y11.1.2.2.2.2.1 < 65536)) = true) (
            ifd ((decide ((((List.length y11.1.2.2.1) + (List.length ([(Go.IntKind.wrap .u8 (Go.IntKind.wrap .i64 (Int.tdiv y11.1.2.2.2.2.1 256))), (Go.IntKind.wrap .u8 (Int.tmod y11.1.2.2.2.2.1 256))] : List Int))) * 1) ≤ 140737488355328)) = true) (
              ψ ((y11.1.1, y11.1.2.1, (y11.1.2.2.1 ++ ([(Go.IntKind.wrap .u8 (Go.IntKind.wrap .i64 (Int.tdiv y11.1.2.2.2.2.1 256))), (Go.IntKind.wrap .u8 (Int.tmod y11.1.2.2.2.2.1 256))] : List Int)), (Go.IntKind.wrap .i64 (y11.1.2.2.2.1 + y11.1.2.2.2.2.2.1)), ()), ())) (
              none)) (
            ifd ((decide ((((List.length y11.1.2.2.1) + (List.length ([(Go.IntKind.wrap .u8 (Go.IntKind.wrap .i64 (Int.tdiv (Go.IntKind.wrap .i64 (55296 + (Go.IntKind.wrap .i64 (Int.tdiv (Go.IntKind.wrap .i64 (y11.1.2.2.2.2.1 - 65536)) 1024)))) 256))), (Go.IntKind.wrap .u8 (Int.tmod (Go.IntKind.wrap .i64 (55296 + (Go.IntKind.wrap .i64 (Int.tdiv (Go.IntKind.wrap .i64 (y11.1.2.2.2.2.1 - 65536)) 1024)))) 256)), (Go.IntKind.wrap .u8 (Go.IntKind.wrap .i64 (Int.tdiv (Go.IntKind.wrap .i64 (56320 + (Int.tmod (Go.IntKind.wrap .i64 (y11.1.2.2.2.2.1 - 65536)) 1024))) 256))), (Go.IntKind.wrap .u8 (Int.tmod (Go.IntKind.wrap .i64 (56320 + (Int.tmod (Go.IntKind.wrap .i64 (y11.1.2.2.2.2.1 - 65536)) 1024))) 256))] : List Int))) * 1) ≤ 140737488355328)) = true) (
              ψ ((y11.1.1, y11.1.2.1, (y11.1.2.2.1 ++ ([(Go.IntKind.wrap .u8 (Go.IntKind.wrap .i64 (Int.tdiv (Go.IntKind.wrap .i64 (55296 + (Go.IntKind.wrap .i64 (Int.tdiv (Go.IntKind.wrap .i64 (y11.1.2.2.2.2.1 - 65536)) 1024)))) 256))), (Go.IntKind.wrap .u8 (Int.tmod (Go.IntKind.wrap .i64 (55296 + (Go.IntKind.wrap .i64 (Int.tdiv (Go.IntKind.wrap .i64 (y11.1.2.2.2.2.1 - 65536)) 1024)))) 256)), (Go.IntKind.wrap .u8 (Go.IntKind.wrap .i64 (Int.tdiv (Go.IntKind.wrap .i64 (56320 + (Int.tmod (Go.IntKind.wrap .i64 (y11.1.2.2.2.2.1 - 65536)) 1024))) 256))), (Go.IntKind.wrap .u8 (Int.tmod (Go.IntKind.wrap .i64 (56320 + (Int.tmod (Go.IntKind.wrap .i64 (y11.1.2.2.2.2.1 - 65536)) 1024))) 256))] : List Int)), (Go.IntKind.wrap .i64 (y11.1.2.2.2.1 + y11.1.2.2.2.2.2.1)), ()), ())) (
              none))))))) (
    some (Sum.inr ((d.1.2.2.1, ()), ())))
noncomputable def ref1_Encoded_L3 (pc : PC prog) (lp : LP) (d : ref1_Encoded_L3_D) : Option ref1_Encoded_L3_X := lp ref1_Encoded_L3_D ref1_Encoded_L3_X (ref1_Encoded_L3_R pc lp) d
theorem ref1_Encoded_L3_ap (E : AppE prog pcN pc lN lp) : ContR (fun N => ref1_Encoded_L3_R (pcN N) (lN N)) (ref1_Encoded_L3_R pc lp) := fun ψN ψ h d => by
  delta ref1_Encoded_L3_R
  exact (Approx.ifd (Approx.bnd (Approx.bnd (ref1_Rune_ca E) fun x9 => (Approx.const _)) fun x10 => (Approx.bnd (ref1_Encoded_C2_a E) (fun y11 => (Approx.ifd (Approx.const _) (Approx.ifd (Approx.ifd (h _) Approx.none) (Approx.ifd (Approx.ifd (Approx.ifd (h _) Approx.none) Approx.none) (Approx.ifd (Approx.ifd (h _) Approx.none) (Approx.ifd (h _) Approx.none)))))))) (Approx.const _))
theorem ref1_Encoded_L3_a (E : AppE prog pcN pc lN lp) {d : ref1_Encoded_L3_D} : Approx (fun N => ref1_Encoded_L3 (pcN N) (lN N) d) (ref1_Encoded_L3 pc lp d) := E.loop (ref1_Encoded_L3_ap E) d
theorem ref1_Encoded_L3_of {d : ref1_Encoded_L3_D} {x : ref1_Encoded_L3_X} (h : ref1_Encoded_L3_R (pcL prog cfg) lpL (ref1_Encoded_L3 (pcL prog cfg) lpL) d = some x) : ref1_Encoded_L3 (pcL prog cfg) lpL d = some x := lpL_step (ref1_Encoded_L3_ap (appL prog cfg)) h

noncomputable def ref1_Encoded_B (pc : PC prog) (lp : LP) (a0 : Int) (a1 : List Int) : Option ((List Int) × (Int × Unit)) :=
  bnd (ref1_Encoded_L3 pc lp ((a0, a1, ([] : List Int), 0, ()), ())) (Sum.elim (fun (y12 : ((Unit × (Int × Unit)) × Unit)) =>
  some (([] : List Int), (y12.1.2.1, ()))) (fun (y13 : (((List Int) × Unit) × Unit)) =>
  some (y13.1.1, ((-1), ()))))
theorem ref1_Encoded_eq (a0 : Int) (a1 : List Int) (pc : PC prog) (lp : LP) : got ref1_Encoded_t (pcall prog (runO prog cfg (hand prog cfg lp pc 6 tbl 5) pc 6) 15 [(.c (.int .i64 a0)), (.c (.str a1))]) = ref1_Encoded_B pc lp a0 a1 := by kernel_rfl
theorem ref1_Encoded_ap (E : AppE prog pcN pc lN lp) (a0 : Int) (a1 : List Int) : Approx (fun N => ref1_Encoded_B (pcN N) (lN N) a0 a1) (ref1_Encoded_B pc lp a0 a1) := by
  delta ref1_Encoded_B
  exact (Approx.bnd (ref1_Encoded_L3_a E) (Approx.sum (fun y12 => (Approx.const _)) (fun y13 => (Approx.const _))))
theorem ref1_Encoded_of {a0 : Int} {a1 : List Int} {y : ((List Int) × (Int × Unit))} (h : ref1_Encoded_B (pcL prog cfg) lpL a0 a1 = some y) : ref1_Encoded_c (pcL prog cfg) a0 a1 = some y := fn_of rfl (ref1_Encoded_eq a0 a1) (ref1_Encoded_ap (appN prog cfg) a0 a1) h

noncomputable def ref1_Bytes_B (pc : PC prog) (lp : LP) (a0 : List Int) (a1 : List Int) : Option Bool :=
  some (a0 == a1)
theorem ref1_Bytes_eq (a0 : List Int) (a1 : List Int) (pc : PC prog) (lp : LP) : got ref1_Bytes_t (pcall prog (runO prog cfg (hand prog cfg lp pc 6 tbl 5) pc 6) 16 [(.c (.slice .ro (.int .u8) a0)), (.c (.slice .ro (.int .u8) a1))]) = ref1_Bytes_B pc lp a0 a1 := by kernel_rfl
theorem ref1_Bytes_ap (E : AppE prog pcN pc lN lp) (a0 : List Int) (a1 : List Int) : Approx (fun N => ref1_Bytes_B (pcN N) (lN N) a0 a1) (ref1_Bytes_B pc lp a0 a1) := by
  delta ref1_Bytes_B
  exact (Approx.const _)
theorem ref1_Bytes_of {a0 : List Int} {a1 : List Int} {y : Bool} (h : ref1_Bytes_B (pcL prog cfg) lpL a0 a1 = some y) : ref1_Bytes_c (pcL prog cfg) a0 a1 = some y := fn_of rfl (ref1_Bytes_eq a0 a1) (ref1_Bytes_ap (appN prog cfg) a0 a1) h

-- charset_Best, loop 58
abbrev charset_Best_L1_D := ((Int × (Unit × Unit)) × (((List Int) × Nat) × Unit))
abbrev charset_Best_L1_X := ((Int × Unit) × (((List Int) × Nat) × Unit))
noncomputable def charset_Best_L1_R (pc : PC prog) (lp : LP) (ψ : charset_Best_L1_D → Option charset_Best_L1_X) (d : charset_Best_L1_D) : Option charset_Best_L1_X :=
  ifd (d.2.1.2 < (List.length d.2.1.1)) (
    ψ (((max d.1.1 (((decRune d.2.1.1 d.2.1.2).1 : Nat) : Int)), (), ()), ((d.2.1.1, (d.2.1.2 + (decRune d.2.1.1 d.2.1.2).2)), ()))) (
    some ((d.1.1, ()), ((d.2.1.1, d.2.1.2), ())))
noncomputable def charset_Best_L1 (pc : PC prog) (lp : LP) (d : charset_Best_L1_D) : Option charset_Best_L1_X := lp charset_Best_L1_D charset_Best_L1_X (charset_Best_L1_R pc lp) d
theorem charset_Best_L1_ap (E : AppE prog pcN pc lN lp) : ContR (fun N => charset_Best_L1_R (pcN N) (lN N)) (charset_Best_L1_R pc lp) := fun ψN ψ h d => by
  delta charset_Best_L1_R
  exact (Approx.ifd (h _) (Approx.const _))
theorem charset_Best_L1_a (E : AppE prog pcN pc lN lp) {d : charset_Best_L1_D} : Approx (fun N => charset_Best_L1 (pcN N) (lN N) d) (charset_Best_L1 pc lp d) := E.loop (charset_Best_L1_ap E) d
theorem charset_Best_L1_of {d : charset_Best_L1_D} {x : charset_Best_L1_X} (h : charset_Best_L1_R (pcL prog cfg) lpL (charset_Best_L1 (pcL prog cfg) lpL) d = some x) : charset_Best_L1 (pcL prog cfg) lpL d = some x := lpL_step (charset_Best_L1_ap (appL prog cfg)) h

noncomputable def charset_Best_B (pc : PC prog) (lp : LP) (a0 : List Int) : Option (List Int) :=
  bnd (charset_Best_L1 pc lp ((0, (), ()), ((a0, 0), ()))) (fun (y0 : ((Int × Unit) × (((List Int) × Nat) × Unit))) =>
  ifd ((decide (y0.1.1 < 128)) = true) (
    some ([97, 115, 99, 105, 105] : List Int)) (
    ifd ((decide (y0.1.1 < 256)) = true) (
      some ([108, 97, 116, 105, 110, 49] : List Int)) (
      some ([117, 116, 102, 56] : List Int))))
theorem charset_Best_eq (a0 : List Int) (pc : PC prog) (lp : LP) : got charset_Best_t (pcall prog (runO prog cfg (hand prog cfg lp pc 6 tbl 5) pc 6) 17 [(.c (.str a0))]) = charset_Best_B pc lp a0 := by kernel_rfl
theorem charset_Best_ap (E : AppE prog pcN pc lN lp) (a0 : List Int) : Approx (fun N => charset_Best_B (pcN N) (lN N) a0) (charset_Best_B pc lp a0) := by
  delta charset_Best_B
  exact (Approx.bnd (charset_Best_L1_a E) (fun y0 => (Approx.ifd (Approx.const _) (Approx.ifd (Approx.const _) (Approx.const _)))))
theorem charset_Best_of {a0 : List Int} {y : (List Int)} (h : charset_Best_B (pcL prog cfg) lpL a0 = some y) : charset_Best_c (pcL prog cfg) a0 = some y := fn_of rfl (charset_Best_eq a0) (charset_Best_ap (appN prog cfg) a0) h

-- ref1_Best, loop 122
abbrev ref1_Best_L1_D := ((Int × ((List Int) × (Int × Unit))) × Unit)
abbrev ref1_Best_L1_X := ((Int × Unit) × Unit)
noncomputable def ref1_Best_L1_R (pc : PC prog) (lp : LP) (ψ : ref1_Best_L1_D → Option ref1_Best_L1_X) (d : ref1_Best_L1_D) : Option ref1_Best_L1_X :=
  ifd ((decide (d.1.2.2.1 < (((List.length d.1.2.1) : Nat) : Int))) = true) (
    ifd ((decide (((0 : Int) ≤ d.1.2.2.1) ∧ (d.1.2.2.1 < (((List.length d.1.2.1) : Nat) : Int)))) = true) (
      ifd ((decide ((List.getD d.1.2.1 (Int.toNat d.1.2.2.1) 0) < 0)) = true) (
        ifd ((decide ((65533 : Int) > d.1.1)) = true) (
          ψ ((65533, d.1.2.1, (Go.IntKind.wrap .i64 (d.1.2.2.1 + 1)), ()), ())) (
          ψ ((d.1.1, d.1.2.1, (Go.IntKind.wrap .i64 (d.1.2.2.1 + 1)), ()), ()))) (
        ifd ((decide ((List.getD d.1.2.1 (Int.toNat d.1.2.2.1) 0) > d.1.1)) = true) (
          ψ (((List.getD d.1.2.1 (Int.toNat d.1.2.2.1) 0), d.1.2.1, (Go.IntKind.wrap .i64 (d.1.2.2.1 + 1)), ()), ())) (
          ψ ((d.1.1, d.1.2.1, (Go.IntKind.wrap .i64 (d.1.2.2.1 + 1)), ()), ())))) (
      none)) (
    some ((d.1.1, ()), ()))
noncomputable def ref1_Best_L1 (pc : PC prog) (lp : LP) (d : ref1_Best_L1_D) : Option ref1_Best_L1_X := lp ref1_Best_L1_D ref1_Best_L1_X (ref1_Best_L1_R pc lp) d
theorem ref1_Best_L1_ap (E : AppE prog pcN pc lN lp) : ContR (fun N => ref1_Best_L1_R (pcN N) (lN N)) (ref1_Best_L1_R pc lp) := fun ψN ψ h d => by
  delta ref1_Best_L1_R
  exact (Approx.ifd (Approx.ifd (Approx.ifd (Approx.ifd (h _) (h _)) (Approx.ifd (h _) (h _))) Approx.none) (Approx.const _))
theorem ref1_Best_L1_a (E : AppE prog pcN pc lN lp) {d : ref1_Best_L1_D} : Approx (fun N => ref1_Best_L1 (pcN N) (lN N) d) (ref1_Best_L1 pc lp d) := E.loop (ref1_Best_L1_ap E) d
theorem ref1_Best_L1_of {d : ref1_Best_L1_D} {x : ref1_Best_L1_X} (h : ref1_Best_L1_R (pcL prog cfg) lpL (ref1_Best_L1 (pcL prog cfg) lpL) d = some x) : ref1_Best_L1 (pcL prog cfg) lpL d = some x := lpL_step (ref1_Best_L1_ap (appL prog cfg)) h

noncomputable def ref1_Best_B (pc : PC prog) (lp : LP) (a0 : List Int) : Option (List Int) :=
  bnd (bnd (ref1_Runes_c pc a0) fun (x0 : (List Int)) =>
  some x0) fun (x1 : (List Int)) =>
  bnd (ref1_Best_L1 pc lp ((0, x1, 0, ()), ())) (fun (y2 : ((Int × Unit) × Unit)) =>
  ifd ((decide (y2.1.1 < 128)) = true) (
    some ([97, 115, 99, 105, 105] : List Int)) (
    ifd ((decide (y2.1.1 < 256)) = true) (
      some ([108, 97, 116, 105, 110, 49] : List Int)) (
      some ([117, 116, 102, 56] : List Int))))
theorem ref1_Best_eq (a0 : List Int) (pc : PC prog) (lp : LP) : got ref1_Best_t (pcall prog (runO prog cfg (hand prog cfg lp pc 6 tbl 5) pc 6) 18 [(.c (.str a0))]) = ref1_Best_B pc lp a0 := by kernel_rfl
theorem ref1_Best_ap (E : AppE prog pcN pc lN lp) (a0 : List Int) : Approx (fun N => ref1_Best_B (pcN N) (lN N) a0) (ref1_Best_B pc lp a0) := by
  delta ref1_Best_B
  exact (Approx.bnd (Approx.bnd (ref1_Runes_ca E) fun x0 => (Approx.const _)) fun x1 => (Approx.bnd (ref1_Best_L1_a E) (fun y2 => (Approx.ifd (Approx.const _) (Approx.ifd (Approx.const _) (Approx.const _))))))
theorem ref1_Best_of {a0 : List Int} {y : (List Int)} (h : ref1_Best_B (pcL prog cfg) lpL a0 = some y) : ref1_Best_c (pcL prog cfg) a0 = some y := fn_of rfl (ref1_Best_eq a0) (ref1_Best_ap (appN prog cfg) a0) h

-- charset_lower, loop 58
abbrev charset_lower_L1_D := ((Unit × (Unit × (Int × (Int × Unit)))) × ((List Int) × Unit))
abbrev charset_lower_L1_X := ((Unit × Unit) × ((List Int) × Unit))
noncomputable def charset_lower_L1_R (pc : PC prog) (lp : LP) (ψ : charset_lower_L1_D → Option charset_lower_L1_X) (d : charset_lower_L1_D) : Option charset_lower_L1_X :=
  ifd ((decide (d.1.2.2.2.1 < d.1.2.2.1)) = true) (
    ifd ((decide (((0 : Int) ≤ d.1.2.2.2.1) ∧ (d.1.2.2.2.1 < (((List.length d.2.1) : Nat) : Int)))) = true) (
      ifd ((decide ((Int.toNat d.1.2.2.2.1) < (List.length d.2.1))) = true) (
        ifd ((decide ((List.getD d.2.1 (Int.toNat d.1.2.2.2.1) 0) ≥ 65)) = true) (
          ifd ((decide ((List.getD d.2.1 (Int.toNat d.1.2.2.2.1) 0) ≥ 65)) = true) (
            ifd ((decide ((List.getD d.2.1 (Int.toNat d.1.2.2.2.1) 0) ≤ 90)) = true) (
              ifd ((decide (((0 : Int) ≤ d.1.2.2.2.1) ∧ (d.1.2.2.2.1 < (((List.length d.2.1) : Nat) : Int)))) = true) (
                ifd ((decide ((Int.toNat d.1.2.2.2.1) < (List.length d.2.1))) = true) (
                  ψ (((), (), d.1.2.2.1, (Go.IntKind.wrap .i64 (d.1.2.2.2.1 + 1)), ()), ((List.set d.2.1 (Int.toNat d.1.2.2.2.1) (Go.IntKind.wrap .u8 ((Go.IntKind.wrap .u8 ((List.getD d.2.1 (Int.toNat d.1.2.2.2.1) 0) + 97)) - 65))), ()))) (
                  none)) (
                none)) (
              ψ (((), (), d.1.2.2.1, (Go.IntKind.wrap .i64 (d.1.2.2.2.1 + 1)), ()), (d.2.1, ())))) (
            ψ (((), (), d.1.2.2.1, (Go.IntKind.wrap .i64 (d.1.2.2.2.1 + 1)), ()), (d.2.1, ())))) (
          ifd ((decide ((List.getD d.2.1 (Int.toNat d.1.2.2.2.1) 0) ≥ 65)) = true) (
            none) (
            ψ (((), (), d.1.2.2.1, (Go.IntKind.wrap .i64 (d.1.2.2.2.1 + 1)), ()), (d.2.1, ()))))) (
        none)) (
      none)) (
    some (((), ()), (d.2.1, ())))
noncomputable def charset_lower_L1 (pc : PC prog) (lp : LP) (d : charset_lower_L1_D) : Option charset_lower_L1_X := lp charset_lower_L1_D charset_lower_L1_X (charset_lower_L1_R pc lp) d
theorem charset_lower_L1_ap (E : AppE prog pcN pc lN lp) : ContR (fun N => charset_lower_L1_R (pcN N) (lN N)) (charset_lower_L1_R pc lp) := fun ψN ψ h d => by
  delta charset_lower_L1_R
  exact (Approx.ifd (Approx.ifd (Approx.ifd (Approx.ifd (Approx.ifd (Approx.ifd (Approx.ifd (Approx.ifd (h _) Approx.none) Approx.none) (h _)) (h _)) (Approx.ifd Approx.none (h _))) Approx.none) Approx.none) (Approx.const _))
theorem charset_lower_L1_a (E : AppE prog pcN pc lN lp) {d : charset_lower_L1_D} : Approx (fun N => charset_lower_L1 (pcN N) (lN N) d) (charset_lower_L1 pc lp d) := E.loop (charset_lower_L1_ap E) d
theorem charset_lower_L1_of {d : charset_lower_L1_D} {x : charset_lower_L1_X} (h : charset_lower_L1_R (pcL prog cfg) lpL (charset_lower_L1 (pcL prog cfg) lpL) d = some x) : charset_lower_L1 (pcL prog cfg) lpL d = some x := lpL_step (charset_lower_L1_ap (appL prog cfg)) h

noncomputable def charset_lower_B (pc : PC prog) (lp : LP) (a0 : List Int) : Option (List Int) :=
  ifd ((decide ((List.length a0) ≤ 140737488355328)) = true) (
    bnd (charset_lower_L1 pc lp (((), (), (((List.length a0) : Nat) : Int), 0, ()), (a0, ()))) (fun (y0 : ((Unit × Unit) × ((List Int) × Unit))) =>
    some y0.2.1)) (
    none)
theorem charset_lower_eq (a0 : List Int) (pc : PC prog) (lp : LP) : got charset_lower_t (pcall prog (runO prog cfg (hand prog cfg lp pc 6 tbl 5) pc 6) 26 [(.c (.str a0))]) = charset_lower_B pc lp a0 := by kernel_rfl
theorem charset_lower_ap (E : AppE prog pcN pc lN lp) (a0 : List Int) : Approx (fun N => charset_lower_B (pcN N) (lN N) a0) (charset_lower_B pc lp a0) := by
  delta charset_lower_B
  exact (Approx.ifd (Approx.bnd (charset_lower_L1_a E) (fun y0 => (Approx.const _))) Approx.none)
theorem charset_lower_of {a0 : List Int} {y : (List Int)} (h : charset_lower_B (pcL prog cfg) lpL a0 = some y) : charset_lower_c (pcL prog cfg) a0 = some y := fn_of rfl (charset_lower_eq a0) (charset_lower_ap (appN prog cfg) a0) h

noncomputable def charset_ascii_B (pc : PC prog) (lp : LP) (a0 : Int) : Option Int :=
  ifd ((decide (a0 ≥ 128)) = true) (
    some 65533) (
    some (Go.IntKind.wrap .i32 a0))
theorem charset_ascii_eq (a0 : Int) (pc : PC prog) (lp : LP) : got charset_ascii_t (pcall prog (runO prog cfg (hand prog cfg lp pc 6 tbl 5) pc 6) 28 [(.c (.int .u8 a0))]) = charset_ascii_B pc lp a0 := by kernel_rfl
theorem charset_ascii_ap (E : AppE prog pcN pc lN lp) (a0 : Int) : Approx (fun N => charset_ascii_B (pcN N) (lN N) a0) (charset_ascii_B pc lp a0) := by
  delta charset_ascii_B
  exact (Approx.ifd (Approx.const _) (Approx.const _))
theorem charset_ascii_of {a0 : Int} {y : Int} (h : charset_ascii_B (pcL prog cfg) lpL a0 = some y) : charset_ascii_c (pcL prog cfg) a0 = some y := fn_of rfl (charset_ascii_eq a0) (charset_ascii_ap (appN prog cfg) a0) h

noncomputable def charset_find_1_B (pc : PC prog) (lp : LP) (a0 : Int) : Option Int :=
  some (Go.IntKind.wrap .i32 a0)
theorem charset_find_1_eq (a0 : Int) (pc : PC prog) (lp : LP) : got charset_find_1_t (pcall prog (runO prog cfg (hand prog cfg lp pc 6 tbl 5) pc 6) 30 [(.c (.int .u8 a0))]) = charset_find_1_B pc lp a0 := by kernel_rfl
theorem charset_find_1_ap (E : AppE prog pcN pc lN lp) (a0 : Int) : Approx (fun N => charset_find_1_B (pcN N) (lN N) a0) (charset_find_1_B pc lp a0) := by
  delta charset_find_1_B
  exact (Approx.const _)
theorem charset_find_1_of {a0 : Int} {y : Int} (h : charset_find_1_B (pcL prog cfg) lpL a0 = some y) : charset_find_1_c (pcL prog cfg) a0 = some y := fn_of rfl (charset_find_1_eq a0) (charset_find_1_ap (appN prog cfg) a0) h

noncomputable def charset_find_2_B (pc : PC prog) (lp : LP) (a0 : List Int) : Option (List Int) :=
  ifd ((decide ((List.length a0) ≤ 35184372088832)) = true) (
    some (runes a0)) (
    none)
theorem charset_find_2_eq (a0 : List Int) (pc : PC prog) (lp : LP) : got charset_find_2_t (pcall prog (runO prog cfg (hand prog cfg lp pc 6 tbl 5) pc 6) 31 [(.c (.slice .ro (.int .u8) a0))]) = charset_find_2_B pc lp a0 := by kernel_rfl
theorem charset_find_2_ap (E : AppE prog pcN pc lN lp) (a0 : List Int) : Approx (fun N => charset_find_2_B (pcN N) (lN N) a0) (charset_find_2_B pc lp a0) := by
  delta charset_find_2_B
  exact (Approx.ifd (Approx.const _) Approx.none)
theorem charset_find_2_of {a0 : List Int} {y : (List Int)} (h : charset_find_2_B (pcL prog cfg) lpL a0 = some y) : charset_find_2_c (pcL prog cfg) a0 = some y := fn_of rfl (charset_find_2_eq a0) (charset_find_2_ap (appN prog cfg) a0) h

-- charset_units, part 3730
abbrev charset_units_C1_D := (((List Int) × (Unit × (Int × (Int × Unit)))) × Unit)
abbrev charset_units_C1_X := (((List Int) × (Unit × (Int × (Int × (Bool × Unit))))) × Unit)
noncomputable def charset_units_C1 (pc : PC prog) (lp : LP) (d : charset_units_C1_D) : Option charset_units_C1_X :=
  ifd ((decide (d.1.2.2.2.1 ≥ 55296)) = true) (
    ifd ((decide (d.1.2.2.2.1 ≥ 55296)) = true) (
      ifd ((decide (d.1.2.2.2.1 < 56320)) = true) (
        ifd ((decide (d.1.2.2.2.1 < 56320)) = true) (
          some ((d.1.1, (), d.1.2.2.1, d.1.2.2.2.1, (decide ((Go.IntKind.wrap .i64 (d.1.2.2.1 + 3)) < (((List.length d.1.1) : Nat) : Int))), ()), ())) (
          some ((d.1.1, (), d.1.2.2.1, d.1.2.2.2.1, false, ()), ()))) (
        ifd ((decide (d.1.2.2.2.1 < 56320)) = true) (
          none) (
          some ((d.1.1, (), d.1.2.2.1, d.1.2.2.2.1, false, ()), ())))) (
      some ((d.1.1, (), d.1.2.2.1, d.1.2.2.2.1, false, ()), ()))) (
    ifd ((decide (d.1.2.2.2.1 ≥ 55296)) = true) (
      none) (
      some ((d.1.1, (), d.1.2.2.1, d.1.2.2.2.1, false, ()), ())))
theorem charset_units_C1_a (E : AppE prog pcN pc lN lp) {d : charset_units_C1_D} : Approx (fun N => charset_units_C1 (pcN N) (lN N) d) (charset_units_C1 pc lp d) := by
  delta charset_units_C1
  exact (Approx.ifd (Approx.ifd (Approx.ifd (Approx.ifd (Approx.const _) (Approx.const _)) (Approx.ifd Approx.none (Approx.const _))) (Approx.const _)) (Approx.ifd Approx.none (Approx.const _)))

-- charset_units, part 29845
abbrev charset_units_C2_D := (((List Int) × (Unit × (Int × (Int × (Int × Unit))))) × Unit)
abbrev charset_units_C2_X := (((List Int) × (Unit × (Int × (Int × (Int × (Bool × Unit)))))) × Unit)
noncomputable def charset_units_C2 (pc : PC prog) (lp : LP) (d : charset_units_C2_D) : Option charset_units_C2_X :=
  ifd ((decide (d.1.2.2.2.2.1 ≥ 56320)) = true) (
    ifd ((decide (d.1.2.2.2.2.1 ≥ 56320)) = true) (
      some ((d.1.1, (), d.1.2.2.1, d.1.2.2.2.1, d.1.2.2.2.2.1, (decide (d.1.2.2.2.2.1 < 57344)), ()), ())) (
      some ((d.1.1, (), d.1.2.2.1, d.1.2.2.2.1, d.1.2.2.2.2.1, false, ()), ()))) (
    ifd ((decide (d.1.2.2.2.2.1 ≥ 56320)) = true) (
      none) (
      some ((d.1.1, (), d.1.2.2.1, d.1.2.2.2.1, d.1.2.2.2.2.1, false, ()), ())))
theorem charset_units_C2_a (E : AppE prog pcN pc lN lp) {d : charset_units_C2_D} : Approx (fun N => charset_units_C2 (pcN N) (lN N) d) (charset_units_C2 pc lp d) := by
  delta charset_units_C2
  exact (Approx.ifd (Approx.ifd (Approx.const _) (Approx.const _)) (Approx.ifd Approx.none (Approx.const _)))

-- charset_units, part 1865
abbrev charset_units_C3_D := (((List Int) × (Unit × (Int × (Int × Unit)))) × Unit)
abbrev charset_units_C3_X := ((((List Int) × ((List Int) × (Int × Unit))) × Unit) ⊕ (((List Int) × (Unit × (Int × (Int × Unit)))) × Unit))
noncomputable def charset_units_C3 (pc : PC prog) (lp : LP) (d : charset_units_C3_D) : Option charset_units_C3_X :=
  bnd (charset_units_C1 pc lp ((d.1.1, (), d.1.2.2.1, d.1.2.2.2.1, ()), ())) (fun (y2 : (((List Int) × (Unit × (Int × (Int × (Bool × Unit))))) × Unit)) =>
  ifd (y2.1.2.2.2.2.1 = true) (
    ifd ((decide (((0 : Int) ≤ (Go.IntKind.wrap .i64 (y2.1.2.2.1 + 2))) ∧ ((Go.IntKind.wrap .i64 (y2.1.2.2.1 + 2)) < (((List.length y2.1.1) : Nat) : Int)))) = true) (
      ifd ((decide (((0 : Int) ≤ (Go.IntKind.wrap .i64 (y2.1.2.2.1 + 3))) ∧ ((Go.IntKind.wrap .i64 (y2.1.2.2.1 + 3)) < (((List.length y2.1.1) : Nat) : Int)))) = true) (
        bnd (charset_units_C2 pc lp ((y2.1.1, (), y2.1.2.2.1, y2.1.2.2.2.1, (ibits .or .i32 (Go.IntKind.wrap .i32 ((Go.IntKind.wrap .i32 (List.getD y2.1.1 (Int.toNat (Go.IntKind.wrap .i64 (y2.1.2.2.1 + 2))) 0)) * ((2 : Int) ^ (min (Int.toNat 8) 32)))) (Go.IntKind.wrap .i32 (List.getD y2.1.1 (Int.toNat (Go.IntKind.wrap .i64 (y2.1.2.2.1 + 3))) 0))), ()), ())) (fun (y3 : (((List Int) × (Unit × (Int × (Int × (Int × (Bool × Unit)))))) × Unit)) =>
        ifd (y3.1.2.2.2.2.2.1 = true) (
          ifd ((decide ((((List.length ([] : List Int)) + (List.length ([(Go.IntKind.wrap .i32 ((Go.IntKind.wrap .i32 (65536 + (Go.IntKind.wrap .i32 ((Go.IntKind.wrap .i32 (y3.1.2.2.2.1 - 55296)) * ((2 : Int) ^ (min (Int.toNat 10) 32)))))) + (Go.IntKind.wrap .i32 (y3.1.2.2.2.2.1 - 56320))))] : List Int))) * 4) ≤ 140737488355328)) = true) (
            some (Sum.inl ((y3.1.1, (([] : List Int) ++ ([(Go.IntKind.wrap .i32 ((Go.IntKind.wrap .i32 (65536 + (Go.IntKind.wrap .i32 ((Go.IntKind.wrap .i32 (y3.1.2.2.2.1 - 55296)) * ((2 : Int) ^ (min (Int.toNat 10) 32)))))) + (Go.IntKind.wrap .i32 (y3.1.2.2.2.2.1 - 56320))))] : List Int)), (Go.IntKind.wrap .i64 (y3.1.2.2.1 + 2)), ()), ()))) (
            none)) (
          some (Sum.inr ((y3.1.1, (), y3.1.2.2.1, y3.1.2.2.2.1, ()), ()))))) (
        none)) (
      none)) (
    some (Sum.inr ((y2.1.1, (), y2.1.2.2.1, y2.1.2.2.2.1, ()), ()))))
theorem charset_units_C3_a (E : AppE prog pcN pc lN lp) {d : charset_units_C3_D} : Approx (fun N => charset_units_C3 (pcN N) (lN N) d) (charset_units_C3 pc lp d) := by
  delta charset_units_C3
  exact (Approx.bnd (charset_units_C1_a E) (fun y2 => (Approx.ifd (Approx.ifd (Approx.ifd (Approx.bnd (charset_units_C2_a E) (fun y3 => (Approx.ifd (Approx.ifd (Approx.const _) Approx.none) (Approx.const _)))) Approx.none) Approx.none) (Approx.const _))))

-- charset_units, part 3730
abbrev charset_units_C4_D := (((List Int) × ((List Int) × (Int × (Int × Unit)))) × Unit)
abbrev charset_units_C4_X := (((List Int) × ((List Int) × (Int × (Int × (Bool × Unit))))) × Unit)
noncomputable def charset_units_C4 (pc : PC prog) (lp : LP) (d : charset_units_C4_D) : Option charset_units_C4_X :=
  ifd ((decide (d.1.2.2.2.1 ≥ 55296)) = true) (
    ifd ((decide (d.1.2.2.2.1 ≥ 55296)) = true) (
      ifd ((decide (d.1.2.2.2.1 < 56320)) = true) (
        ifd ((decide (d.1.2.2.2.1 < 56320)) = true) (
          some ((d.1.1, d.1.2.1, d.1.2.2.1, d.1.2.2.2.1, (decide ((Go.IntKind.wrap .i64 (d.1.2.2.1 + 3)) < (((List.length d.1.1) : Nat) : Int))), ()), ())) (
          some ((d.1.1, d.1.2.1, d.1.2.2.1, d.1.2.2.2.1, false, ()), ()))) (
        ifd ((decide (d.1.2.2.2.1 < 56320)) = true) (
          none) (
          some ((d.1.1, d.1.2.1, d.1.2.2.1, d.1.2.2.2.1, false, ()), ())))) (
      some ((d.1.1, d.1.2.1, d.1.2.2.1, d.1.2.2.2.1, false, ()), ()))) (
    ifd ((decide (d.1.2.2.2.1 ≥ 55296)) = true) (
      none) (
      some ((d.1.1, d.1.2.1, d.1.2.2.1, d.1.2.2.2.1, false, ()), ())))
theorem charset_units_C4_a (E : AppE prog pcN pc lN lp) {d : charset_units_C4_D} : Approx (fun N => charset_units_C4 (pcN N) (lN N) d) (charset_units_C4 pc lp d) := by
  delta charset_units_C4
  exact (Approx.ifd (Approx.ifd (Approx.ifd (Approx.ifd (Approx.const _) (Approx.const _)) (Approx.ifd Approx.none (Approx.const _))) (Approx.const _)) (Approx.ifd Approx.none (Approx.const _)))

-- charset_units, part 29845
abbrev charset_units_C5_D := (((List Int) × ((List Int) × (Int × (Int × (Int × Unit))))) × Unit)
abbrev charset_units_C5_X := (((List Int) × ((List Int) × (Int × (Int × (Int × (Bool × Unit)))))) × Unit)
noncomputable def charset_units_C5 (pc : PC prog) (lp : LP) (d : charset_units_C5_D) : Option charset_units_C5_X :=
  ifd ((decide (d.1.2.2.2.2.1 ≥ 56320)) = true) (
    ifd ((decide (d.1.2.2.2.2.1 ≥ 56320)) = true) (
      some ((d.1.1, d.1.2.1, d.1.2.2.1, d.1.2.2.2.1, d.1.2.2.2.2.1, (decide (d.1.2.2.2.2.1 < 57344)), ()), ())) (
      some ((d.1.1, d.1.2.1, d.1.2.2.1, d.1.2.2.2.1, d.1.2.2.2.2.1, false, ()), ()))) (
    ifd ((decide (d.1.2.2.2.2.1 ≥ 56320)) = true) (
      none) (
      some ((d.1.1, d.1.2.1, d.1.2.2.1, d.1.2.2.2.1, d.1.2.2.2.2.1, false, ()), ())))
theorem charset_units_C5_a (E : AppE prog pcN pc lN lp) {d : charset_units_C5_D} : Approx (fun N => charset_units_C5 (pcN N) (lN N) d) (charset_units_C5 pc lp d) := by
  delta charset_units_C5
  exact (Approx.ifd (Approx.ifd (Approx.const _) (Approx.const _)) (Approx.ifd Approx.none (Approx.const _)))

-- charset_units, part 1865
abbrev charset_units_C6_D := (((List Int) × ((List Int) × (Int × (Int × Unit)))) × Unit)
abbrev charset_units_C6_X := ((((List Int) × ((List Int) × (Int × Unit))) × Unit) ⊕ (((List Int) × ((List Int) × (Int × (Int × Unit)))) × Unit))
noncomputable def charset_units_C6 (pc : PC prog) (lp : LP) (d : charset_units_C6_D) : Option charset_units_C6_X :=
  bnd (charset_units_C4 pc lp ((d.1.1, d.1.2.1, d.1.2.2.1, d.1.2.2.2.1, ()), ())) (fun (y8 : (((List Int) × ((List Int) × (Int × (Int × (Bool × Unit))))) × Unit)) =>
  ifd (y8.1.2.2.2.2.1 = true) (
    ifd ((decide (((0 : Int) ≤ (Go.IntKind.wrap .i64 (y8.1.2.2.1 + 2))) ∧ ((Go.IntKind.wrap .i64 (y8.1.2.2.1 + 2)) < (((List.length y8.1.1) : Nat) : Int)))) = true) (
      ifd ((decide (((0 : Int) ≤ (Go.IntKind.wrap .i64 (y8.1.2.2.1 + 3))) ∧ ((Go.IntKind.wrap .i64 (y8.1.2.2.1 + 3)) < (((List.length y8.1.1) : Nat) : Int)))) = true) (
        bnd (charset_units_C5 pc lp ((y8.1.1, y8.1.2.1, y8.1.2.2.1, y8.1.2.2.2.1, (ibits .or .i32 (Go.IntKind.wrap .i32 ((Go.IntKind.wrap .i32 (List.getD y8.1.1 (Int.toNat (Go.IntKind.wrap .i64 (y8.1.2.2.1 + 2))) 0)) * ((2 : Int) ^ (min (Int.toNat 8) 32)))) (Go.IntKind.wrap .i32 (List.getD y8.1.1 (Int.toNat (Go.IntKind.wrap .i64 (y8.1.2.2.1 + 3))) 0))), ()), ())) (fun (y9 : (((List Int) × ((List Int) × (Int × (Int × (Int × (Bool × Unit)))))) × Unit)) =>
        ifd (y9.1.2.2.2.2.2.1 = true) (
          ifd ((decide ((((List.length y9.1.2.1) + (List.length ([(Go.IntKind.wrap .i32 ((Go.IntKind.wrap .i32 (65536 + (Go.IntKind.wrap .i32 ((Go.IntKind.wrap .i32 (y9.1.2.2.2.1 - 55296)) * ((2 : Int) ^ (min (Int.toNat 10) 32)))))) + (Go.IntKind.wrap .i32 (y9.1.2.2.2.2.1 - 56320))))] : List Int))) * 4) ≤ 140737488355328)) = true) (
            some (Sum.inl ((y9.1.1, (y9.1.2.1 ++ ([(Go.IntKind.wrap .i32 ((Go.IntKind.wrap .i32 (65536 + (Go.IntKind.wrap .i32 ((Go.IntKind.wrap .i32 (y9.1.2.2.2.1 - 55296)) * ((2 : Int) ^ (min (Int.toNat 10) 32)))))) + (Go.IntKind.wrap .i32 (y9.1.2.2.2.2.1 - 56320))))] : List Int)), (Go.IntKind.wrap .i64 (y9.1.2.2.1 + 2)), ()), ()))) (
            none)) (
          some (Sum.inr ((y9.1.1, y9.1.2.1, y9.1.2.2.1, y9.1.2.2.2.1, ()), ()))))) (
        none)) (
      none)) (
    some (Sum.inr ((y8.1.1, y8.1.2.1, y8.1.2.2.1, y8.1.2.2.2.1, ()), ()))))
theorem charset_units_C6_a (E : AppE prog pcN pc lN lp) {d : charset_units_C6_D} : Approx (fun N => charset_units_C6 (pcN N) (lN N) d) (charset_units_C6 pc lp d) := by
  delta charset_units_C6
  exact (Approx.bnd (charset_units_C4_a E) (fun y8 => (Approx.ifd (Approx.ifd (Approx.ifd (Approx.bnd (charset_units_C5_a E) (fun y9 => (Approx.ifd (Approx.ifd (Approx.const _) Approx.none) (Approx.const _)))) Approx.none) Approx.none) (Approx.const _))))

-- charset_units, loop 58
abbrev charset_units_L7_D := (((List Int) × ((List Int) × (Int × Unit))) × Unit)
abbrev charset_units_L7_X := (((List Int) × ((List Int) × Unit)) × Unit)
noncomputable def charset_units_L7_R (pc : PC prog) (lp : LP) (ψ : charset_units_L7_D → Option charset_units_L7_X) (d : charset_units_L7_D) : Option charset_units_L7_X :=
  ifd ((decide ((Go.IntKind.wrap .i64 (d.1.2.2.1 + 1)) < (((List.length d.1.1) : Nat) : Int))) = true) (
    ifd ((decide (((0 : Int) ≤ d.1.2.2.1) ∧ (d.1.2.2.1 < (((List.length d.1.1) : Nat) : Int)))) = true) (
      ifd ((decide (((0 : Int) ≤ (Go.IntKind.wrap .i64 (d.1.2.2.1 + 1))) ∧ ((Go.IntKind.wrap .i64 (d.1.2.2.1 + 1)) < (((List.length d.1.1) : Nat) : Int)))) = true) (
        bnd (charset_units_C6 pc lp ((d.1.1, d.1.2.1, d.1.2.2.1, (ibits .or .i32 (Go.IntKind.wrap .i32 ((Go.IntKind.wrap .i32 (List.getD d.1.1 (Int.toNat d.1.2.2.1) 0)) * ((2 : Int) ^ (min (Int.toNat 8) 32)))) (Go.IntKind.wrap .i32 (List.getD d.1.1 (Int.toNat (Go.IntKind.wrap .i64 (d.1.2.2.1 + 1))) 0))), ()), ())) (Sum.elim (fun (y14 : (((List Int) × ((List Int) × (Int × Unit))) × Unit)) =>
        ψ ((y14.1.1, y14.1.2.1, (Go.IntKind.wrap .i64 (y14.1.2.2.1 + 2)), ()), ())) (fun (y15 : (((List Int) × ((List Int) × (Int × (Int × Unit)))) × Unit)) =>
        ifd ((decide (y15.1.2.2.2.1 ≥ 55296)) = true) (
          ifd ((decide (y15.1.2.2.2.1 ≥ 55296)) = true) (
            ifd ((decide (y15.1.2.2.2.1 < 57344)) = true) (
              ifd ((decide ((((List.length y15.1.2.1) + (List.length ([65533] : List Int))) * 4) ≤ 140737488355328)) = true) (
                ψ ((y15.1.1, (y15.1.2.1 ++ ([65533] : List Int)), (Go.IntKind.wrap .i64 (y15.1.2.2.1 + 2)), ()), ())) (
                none)) (
              ifd ((decide ((((List.length y15.1.2.1) + (List.length ([y15.1.2.2.2.1] : List Int))) * 4) ≤ 140737488355328)) = true) (
                ψ ((y15.1.1, (y15.1.2.1 ++ ([y15.1.2.2.2.1] : List Int)), (Go.IntKind.wrap .i64 (y15.1.2.2.1 + 2)), ()), ())) (
                none))) (
            ifd ((decide ((((List.length y15.1.2.1) + (List.length ([y15.1.2.2.2.1] : List Int))) * 4) ≤ 140737488355328)) = true) (
              ψ ((y15.1.1, (y15.1.2.1 ++ ([y15.1.2.2.2.1] : List Int)), (Go.IntKind.wrap .i64 (y15.1.2.2.1 + 2)), ()), ())) (
              none))) (
          ifd ((decide (y15.1.2.2.2.1 ≥ 55296)) = true) (
            none) (
            ifd ((decide ((((List.length y15.1.2.1) + (List.length ([y15.1.2.2.2.1] : List Int))) * 4) ≤ 140737488355328)) = true) (
              ψ ((y15.1.1, (y15.1.2.1 ++ ([y15.1.2.2.2.1] : List Int)), (Go.IntKind.wrap .i64 (y15.1.2.2.1 + 2)), ()), ())) (
              none)))))) (
        none)) (
      none)) (
    some ((d.1.1, d.1.2.1, ()), ()))
noncomputable def charset_units_L7 (pc : PC prog) (lp : LP) (d : charset_units_L7_D) : Option charset_units_L7_X := lp charset_units_L7_D charset_units_L7_X (charset_units_L7_R pc lp) d
theorem charset_units_L7_ap (E : AppE prog pcN pc lN lp) : ContR (fun N => charset_units_L7_R (pcN N) (lN N)) (charset_units_L7_R pc lp) := fun ψN ψ h d => by
  delta charset_units_L7_R
  exact (Approx.ifd (Approx.ifd (Approx.ifd (Approx.bnd (charset_units_C6_a E) (Approx.sum (fun y14 => (h _)) (fun y15 => (Approx.ifd (Approx.ifd (Approx.ifd (Approx.ifd (h _) Approx.none) (Approx.ifd (h _) Approx.none)) (Approx.ifd (h _) Approx.none)) (Approx.ifd Approx.none (Approx.ifd (h _) Approx.none)))))) Approx.none) Approx.none) (Approx.const _))
theorem charset_units_L7_a (E : AppE prog pcN pc lN lp) {d : charset_units_L7_D} : Approx (fun N => charset_units_L7 (pcN N) (lN N) d) (charset_units_L7 pc lp d) := E.loop (charset_units_L7_ap E) d
theorem charset_units_L7_of {d : charset_units_L7_D} {x : charset_units_L7_X} (h : charset_units_L7_R (pcL prog cfg) lpL (charset_units_L7 (pcL prog cfg) lpL) d = some x) : charset_units_L7 (pcL prog cfg) lpL d = some x := lpL_step (charset_units_L7_ap (appL prog cfg)) h

noncomputable def charset_units_B (pc : PC prog) (lp : LP) (a0 : List Int) : Option (List Int) :=
  bnd (charset_units_L7 pc lp ((a0, ([] : List Int), 0, ()), ())) (fun (y16 : (((List Int) × ((List Int) × Unit)) × Unit)) =>
  ifd (((Int.tmod (((List.length y16.1.1) : Nat) : Int) 2) == 1) = true) (
    ifd ((decide ((((List.length y16.1.2.1) + (List.length ([65533] : List Int))) * 4) ≤ 140737488355328)) = true) (
      some (y16.1.2.1 ++ ([65533] : List Int))) (
      none)) (
    some y16.1.2.1))
theorem charset_units_eq (a0 : List Int) (pc : PC prog) (lp : LP) : got charset_units_t (pcall prog (runO prog cfg (hand prog cfg lp pc 6 tbl 5) pc 6) 33 [(.c (.slice .ro (.int .u8) a0))]) = charset_units_B pc lp a0 := by kernel_rfl
theorem charset_units_ap (E : AppE prog pcN pc lN lp) (a0 : List Int) : Approx (fun N => charset_units_B (pcN N) (lN N) a0) (charset_units_B pc lp a0) := by
  delta charset_units_B
  exact (Approx.bnd (charset_units_L7_a E) (fun y16 => (Approx.ifd (Approx.ifd (Approx.const _) Approx.none) (Approx.const _))))
theorem charset_units_of {a0 : List Int} {y : (List Int)} (h : charset_units_B (pcL prog cfg) lpL a0 = some y) : charset_units_c (pcL prog cfg) a0 = some y := fn_of rfl (charset_units_eq a0) (charset_units_ap (appN prog cfg) a0) h

noncomputable def ref1_Alike_B (pc : PC prog) (lp : LP) (a0 : List Int) (a1 : List Int) : Option Bool :=
  bnd (bnd (ref1_Lower_c pc a0) fun (x0 : (List Int)) =>
  some x0) fun (x1 : (List Int)) =>
  bnd (bnd (ref1_Lower_c pc a1) fun (x2 : (List Int)) =>
  some x2) fun (x3 : (List Int)) =>
  some (x1 == x3)
theorem ref1_Alike_eq (a0 : List Int) (a1 : List Int) (pc : PC prog) (lp : LP) : got ref1_Alike_t (pcall prog (runO prog cfg (hand prog cfg lp pc 6 tbl 5) pc 6) 20 [(.c (.str a0)), (.c (.str a1))]) = ref1_Alike_B pc lp a0 a1 := by kernel_rfl
theorem ref1_Alike_ap (E : AppE prog pcN pc lN lp) (a0 : List Int) (a1 : List Int) : Approx (fun N => ref1_Alike_B (pcN N) (lN N) a0 a1) (ref1_Alike_B pc lp a0 a1) := by
  delta ref1_Alike_B
  exact (Approx.bnd (Approx.bnd (ref1_Lower_ca E) fun x0 => (Approx.const _)) fun x1 => (Approx.bnd (Approx.bnd (ref1_Lower_ca E) fun x2 => (Approx.const _)) fun x3 => (Approx.const _)))
theorem ref1_Alike_of {a0 : List Int} {a1 : List Int} {y : Bool} (h : ref1_Alike_B (pcL prog cfg) lpL a0 a1 = some y) : ref1_Alike_c (pcL prog cfg) a0 a1 = some y := fn_of rfl (ref1_Alike_eq a0 a1) (ref1_Alike_ap (appN prog cfg) a0 a1) h

-- ref1_Utf8, part 6
abbrev ref1_Utf8_C1_D := ((Int × Unit) × Unit)
abbrev ref1_Utf8_C1_X := ((Int × (Bool × Unit)) × Unit)
noncomputable def ref1_Utf8_C1 (pc : PC prog) (lp : LP) (d : ref1_Utf8_C1_D) : Option ref1_Utf8_C1_X :=
  bnd (bnd (ref1_In_c pc d.1.1 0 1114111) fun (x4 : Bool) =>
  some x4) fun (x5 : Bool) =>
  ifd ((!x5) = true) (
    ifd ((!x5) = true) (
      some ((d.1.1, true, ()), ())) (
      none)) (
    bnd (bnd (ref1_In_c pc d.1.1 55296 57343) fun (x6 : Bool) =>
    some x6) fun (x7 : Bool) =>
    ifd ((!x5) = true) (
      some ((d.1.1, true, ()), ())) (
      some ((d.1.1, x7, ()), ())))
theorem ref1_Utf8_C1_a (E : AppE prog pcN pc lN lp) {d : ref1_Utf8_C1_D} : Approx (fun N => ref1_Utf8_C1 (pcN N) (lN N) d) (ref1_Utf8_C1 pc lp d) := by
  delta ref1_Utf8_C1
  exact (Approx.bnd (Approx.bnd (ref1_In_ca E) fun x4 => (Approx.const _)) fun x5 => (Approx.ifd (Approx.ifd (Approx.const _) Approx.none) (Approx.bnd (Approx.bnd (ref1_In_ca E) fun x6 => (Approx.const _)) fun x7 => (Approx.ifd (Approx.const _) (Approx.const _)))))

-- ref1_Utf8, part 3
abbrev ref1_Utf8_C2_D := ((Int × Unit) × Unit)
abbrev ref1_Utf8_C2_X := ((Int × Unit) × Unit)
noncomputable def ref1_Utf8_C2 (pc : PC prog) (lp : LP) (d : ref1_Utf8_C2_D) : Option ref1_Utf8_C2_X :=
  bnd (ref1_Utf8_C1 pc lp ((d.1.1, ()), ())) (fun (y9 : ((Int × (Bool × Unit)) × Unit)) =>
  ifd (y9.1.2.1 = true) (
    some ((65533, ()), ())) (
    some ((y9.1.1, ()), ())))
theorem ref1_Utf8_C2_a (E : AppE prog pcN pc lN lp) {d : ref1_Utf8_C2_D} : Approx (fun N => ref1_Utf8_C2 (pcN N) (lN N) d) (ref1_Utf8_C2 pc lp d) := by
  delta ref1_Utf8_C2
  exact (Approx.bnd (ref1_Utf8_C1_a E) (fun y9 => (Approx.ifd (Approx.const _) (Approx.const _))))

noncomputable def ref1_Utf8_B (pc : PC prog) (lp : LP) (a0 : Int) : Option (List Int) :=
  bnd (ref1_Utf8_C2 pc lp ((a0, ()), ())) (fun (y10 : ((Int × Unit) × Unit)) =>
  ifd ((decide (y10.1.1 < 128)) = true) (
    some ([(Go.IntKind.wrap .u8 y10.1.1)] : List Int)) (
    ifd ((decide (y10.1.1 < 2048)) = true) (
      some ([(Go.IntKind.wrap .u8 (Go.IntKind.wrap .i64 (192 + (Go.IntKind.wrap .i64 (Int.tdiv y10.1.1 64))))), (Go.IntKind.wrap .u8 (Go.IntKind.wrap .i64 (128 + (Int.tmod y10.1.1 64))))] : List Int)) (
      ifd ((decide (y10.1.1 < 65536)) = true) (
        some ([(Go.IntKind.wrap .u8 (Go.IntKind.wrap .i64 (224 + (Go.IntKind.wrap .i64 (Int.tdiv y10.1.1 4096))))), (Go.IntKind.wrap .u8 (Go.IntKind.wrap .i64 (128 + (Int.tmod (Go.IntKind.wrap .i64 (Int.tdiv y10.1.1 64)) 64)))), (Go.IntKind.wrap .u8 (Go.IntKind.wrap .i64 (128 + (Int.tmod y10.1.1 64))))] : List Int)) (
        some ([(Go.IntKind.wrap .u8 (Go.IntKind.wrap .i64 (240 + (Go.IntKind.wrap .i64 (Int.tdiv y10.1.1 262144))))), (Go.IntKind.wrap .u8 (Go.IntKind.wrap .i64 (128 + (Int.tmod (Go.IntKind.wrap .i64 (Int.tdiv y10.1.1 4096)) 64)))), (Go.IntKind.wrap .u8 (Go.IntKind.wrap .i64 (128 + (Int.tmod (Go.IntKind.wrap .i64 (Int.tdiv y10.1.1 64)) 64)))), (Go.IntKind.wrap .u8 (Go.IntKind.wrap .i64 (128 + (Int.tmod y10.1.1 64))))] : List Int)))))
theorem ref1_Utf8_eq (a0 : Int) (pc : PC prog) (lp : LP) : got ref1_Utf8_t (pcall prog (runO prog cfg (hand prog cfg lp pc 6 tbl 5) pc 6) 21 [(.c (.int .i64 a0))]) = ref1_Utf8_B pc lp a0 := by kernel_rfl
theorem ref1_Utf8_ap (E : AppE prog pcN pc lN lp) (a0 : Int) : Approx (fun N => ref1_Utf8_B (pcN N) (lN N) a0) (ref1_Utf8_B pc lp a0) := by
  delta ref1_Utf8_B
  exact (Approx.bnd (ref1_Utf8_C2_a E) (fun y10 => (Approx.ifd (Approx.const _) (Approx.ifd (Approx.const _) (Approx.ifd (Approx.const _) (Approx.const _))))))
theorem ref1_Utf8_of {a0 : Int} {y : (List Int)} (h : ref1_Utf8_B (pcL prog cfg) lpL a0 = some y) : ref1_Utf8_c (pcL prog cfg) a0 = some y := fn_of rfl (ref1_Utf8_eq a0) (ref1_Utf8_ap (appN prog cfg) a0) h

-- ref1_Runes, loop 58
abbrev ref1_Runes_L1_D := (((List Int) × ((List Int) × (Int × Unit))) × Unit)
abbrev ref1_Runes_L1_X := (((List Int) × Unit) × Unit)
noncomputable def ref1_Runes_L1_R (pc : PC prog) (lp : LP) (ψ : ref1_Runes_L1_D → Option ref1_Runes_L1_X) (d : ref1_Runes_L1_D) : Option ref1_Runes_L1_X :=
  ifd ((decide (d.1.2.2.1 < (((List.length d.1.1) : Nat) : Int))) = true) (
    bnd (bnd (ref1_Rune_c pc d.1.1 d.1.2.2.1) fun (x6 : (Int × (Int × Unit))) =>
    some (x6.1, (x6.2.1, ()))) fun (x7 : (Int × (Int × Unit))) =>
    ifd ((decide ((((List.length d.1.2.1) + (List.length ([x7.1] : List Int))) * 8) ≤ 140737488355328)) = true) (
      ψ ((d.1.1, (d.1.2.1 ++ ([x7.1] : List Int)), (Go.IntKind.wrap .i64 (d.1.2.2.1 + x7.2.1)), ()), ())) (
      none)) (
    some ((d.1.2.1, ()), ()))
noncomputable def ref1_Runes_L1 (pc : PC prog) (lp : LP) (d : ref1_Runes_L1_D) : Option ref1_Runes_L1_X := lp ref1_Runes_L1_D ref1_Runes_L1_X (ref1_Runes_L1_R pc lp) d
theorem ref1_Runes_L1_ap (E : AppE prog pcN pc lN lp) : ContR (fun N => ref1_Runes_L1_R (pcN N) (lN N)) (ref1_Runes_L1_R pc lp) := fun ψN ψ h d => by
  delta ref1_Runes_L1_R
  exact (Approx.ifd (Approx.bnd (Approx.bnd (ref1_Rune_ca E) fun x6 => (Approx.const _)) fun x7 => (Approx.ifd (h _) Approx.none)) (Approx.const _))
theorem ref1_Runes_L1_a (E : AppE prog pcN pc lN lp) {d : ref1_Runes_L1_D} : Approx (fun N => ref1_Runes_L1 (pcN N) (lN N) d) (ref1_Runes_L1 pc lp d) := E.loop (ref1_Runes_L1_ap E) d
theorem ref1_Runes_L1_of {d : ref1_Runes_L1_D} {x : ref1_Runes_L1_X} (h : ref1_Runes_L1_R (pcL prog cfg) lpL (ref1_Runes_L1 (pcL prog cfg) lpL) d = some x) : ref1_Runes_L1 (pcL prog cfg) lpL d = some x := lpL_step (ref1_Runes_L1_ap (appL prog cfg)) h

noncomputable def ref1_Runes_B (pc : PC prog) (lp : LP) (a0 : List Int) : Option (List Int) :=
  bnd (ref1_Runes_L1 pc lp ((a0, ([] : List Int), 0, ()), ())) (fun (y8 : (((List Int) × Unit) × Unit)) =>
  some y8.1.1)
theorem ref1_Runes_eq (a0 : List Int) (pc : PC prog) (lp : LP) : got ref1_Runes_t (pcall prog (runO prog cfg (hand prog cfg lp pc 6 tbl 5) pc 6) 22 [(.c (.str a0))]) = ref1_Runes_B pc lp a0 := by kernel_rfl
theorem ref1_Runes_ap (E : AppE prog pcN pc lN lp) (a0 : List Int) : Approx (fun N => ref1_Runes_B (pcN N) (lN N) a0) (ref1_Runes_B pc lp a0) := by
  delta ref1_Runes_B
  exact (Approx.bnd (ref1_Runes_L1_a E) (fun y8 => (Approx.const _)))
theorem ref1_Runes_of {a0 : List Int} {y : (List Int)} (h : ref1_Runes_B (pcL prog cfg) lpL a0 = some y) : ref1_Runes_c (pcL prog cfg) a0 = some y := fn_of rfl (ref1_Runes_eq a0) (ref1_Runes_ap (appN prog cfg) a0) h

noncomputable def ref1_In_B (pc : PC prog) (lp : LP) (a0 : Int) (a1 : Int) (a2 : Int) : Option Bool :=
  ifd ((decide (a0 ≥ a1)) = true) (
    ifd ((decide (a0 ≥ a1)) = true) (
      some (decide (a0 ≤ a2))) (
      some false)) (
    ifd ((decide (a0 ≥ a1)) = true) (
      none) (
      some false))
theorem ref1_In_eq (a0 : Int) (a1 : Int) (a2 : Int) (pc : PC prog) (lp : LP) : got ref1_In_t (pcall prog (runO prog cfg (hand prog cfg lp pc 6 tbl 5) pc 6) 23 [(.c (.int .i64 a0)), (.c (.int .i64 a1)), (.c (.int .i64 a2))]) = ref1_In_B pc lp a0 a1 a2 := by kernel_rfl
theorem ref1_In_ap (E : AppE prog pcN pc lN lp) (a0 : Int) (a1 : Int) (a2 : Int) : Approx (fun N => ref1_In_B (pcN N) (lN N) a0 a1 a2) (ref1_In_B pc lp a0 a1 a2) := by
  delta ref1_In_B
  exact (Approx.ifd (Approx.ifd (Approx.const _) (Approx.const _)) (Approx.ifd Approx.none (Approx.const _)))
theorem ref1_In_of {a0 : Int} {a1 : Int} {a2 : Int} {y : Bool} (h : ref1_In_B (pcL prog cfg) lpL a0 a1 a2 = some y) : ref1_In_c (pcL prog cfg) a0 a1 a2 = some y := fn_of rfl (ref1_In_eq a0 a1 a2) (ref1_In_ap (appN prog cfg) a0 a1 a2) h

-- unicode_utf8_ValidString, part 6314
abbrev unicode_utf8_ValidString_C1_D := (((List Int) × Unit) × Unit)
abbrev unicode_utf8_ValidString_C1_X := (((List Int) × (Bool × Unit)) × Unit)
noncomputable def unicode_utf8_ValidString_C1 (pc : PC prog) (lp : LP) (d : unicode_utf8_ValidString_C1_D) : Option unicode_utf8_ValidString_C1_X :=
  ifd ((decide ((((List.length d.1.1) : Nat) : Int) > 8)) = true) (
    bnd (bnd (unicode_utf8_word_string__c pc d.1.1) fun (x4 : Int) =>
    some x4) fun (x5 : Int) =>
    ifd ((decide ((((List.length d.1.1) : Nat) : Int) > 8)) = true) (
      some ((d.1.1, ((ibits .and .u64 x5 9259542123273814144) == 0), ()), ())) (
      some ((d.1.1, false, ()), ()))) (
    ifd ((decide ((((List.length d.1.1) : Nat) : Int) > 8)) = true) (
      none) (
      some ((d.1.1, false, ()), ())))
theorem unicode_utf8_ValidString_C1_a (E : AppE prog pcN pc lN lp) {d : unicode_utf8_ValidString_C1_D} : Approx (fun N => unicode_utf8_ValidString_C1 (pcN N) (lN N) d) (unicode_utf8_ValidString_C1 pc lp d) := by
  delta unicode_utf8_ValidString_C1
  exact (Approx.ifd (Approx.bnd (Approx.bnd (unicode_utf8_word_string__ca E) fun x4 => (Approx.const _)) fun x5 => (Approx.ifd (Approx.const _) (Approx.const _))) (Approx.ifd Approx.none (Approx.const _)))

-- unicode_utf8_ValidString, part 50517
abbrev unicode_utf8_ValidString_C2_D := (((List Int) × Unit) × Unit)
abbrev unicode_utf8_ValidString_C2_X := (((List Int) × (Bool × Unit)) × Unit)
noncomputable def unicode_utf8_ValidString_C2 (pc : PC prog) (lp : LP) (d : unicode_utf8_ValidString_C2_D) : Option unicode_utf8_ValidString_C2_X :=
  ifd ((decide ((((List.length d.1.1) : Nat) : Int) > 16)) = true) (
    bnd (bnd (unicode_utf8_word_string__c pc d.1.1) fun (x15 : Int) =>
    some x15) fun (x16 : Int) =>
    ifd ((decide (((0 : Int) ≤ 8) ∧ (((8 : Int) ≤ (((List.length d.1.1) : Nat) : Int)) ∧ ((((List.length d.1.1) : Nat) : Int) ≤ (((List.length d.1.1) : Nat) : Int))))) = true) (
      bnd (bnd (unicode_utf8_word_string__c pc (List.drop (Int.toNat 8) (List.take (Int.toNat (((List.length d.1.1) : Nat) : Int)) d.1.1))) fun (x17 : Int) =>
      some x17) fun (x18 : Int) =>
      ifd ((decide ((((List.length d.1.1) : Nat) : Int) > 16)) = true) (
        some ((d.1.1, ((ibits .and .u64 (ibits .or .u64 x16 x18) 9259542123273814144) == 0), ()), ())) (
        some ((d.1.1, false, ()), ()))) (
      none)) (
    ifd ((decide ((((List.length d.1.1) : Nat) : Int) > 16)) = true) (
      none) (
      some ((d.1.1, false, ()), ())))
theorem unicode_utf8_ValidString_C2_a (E : AppE prog pcN pc lN lp) {d : unicode_utf8_ValidString_C2_D} : Approx (fun N => unicode_utf8_ValidString_C2 (pcN N) (lN N) d) (unicode_utf8_ValidString_C2 pc lp d) := by
  delta unicode_utf8_ValidString_C2
  exact (Approx.ifd (Approx.bnd (Approx.bnd (unicode_utf8_word_string__ca E) fun x15 => (Approx.const _)) fun x16 => (Approx.ifd (Approx.bnd (Approx.bnd (unicode_utf8_word_string__ca E) fun x17 => (Approx.const _)) fun x18 => (Approx.ifd (Approx.const _) (Approx.const _))) Approx.none)) (Approx.ifd Approx.none (Approx.const _)))

-- unicode_utf8_ValidString, loop 808282
abbrev unicode_utf8_ValidString_L3_D := (((List Int) × Unit) × Unit)
abbrev unicode_utf8_ValidString_L3_X := (((List Int) × Unit) × Unit)
noncomputable def unicode_utf8_ValidString_L3_R (pc : PC prog) (lp : LP) (ψ : unicode_utf8_ValidString_L3_D → Option unicode_utf8_ValidString_L3_X) (d : unicode_utf8_ValidString_L3_D) : Option unicode_utf8_ValidString_L3_X :=
  ifd ((decide ((((List.length d.1.1) : Nat) : Int) > 32)) = true) (
    bnd (bnd (unicode_utf8_word_string__c pc d.1.1) fun (x36 : Int) =>
    some x36) fun (x37 : Int) =>
    ifd ((decide (((0 : Int) ≤ 8) ∧ (((8 : Int) ≤ (((List.length d.1.1) : Nat) : Int)) ∧ ((((List.length d.1.1) : Nat) : Int) ≤ (((List.length d.1.1) : Nat) : Int))))) = true) (
      bnd (bnd (unicode_utf8_word_string__c pc (List.drop (Int.toNat 8) (List.take (Int.toNat (((List.length d.1.1) : Nat) : Int)) d.1.1))) fun (x38 : Int) =>
      some x38) fun (x39 : Int) =>
      ifd ((decide (((0 : Int) ≤ 16) ∧ (((16 : Int) ≤ (((List.length d.1.1) : Nat) : Int)) ∧ ((((List.length d.1.1) : Nat) : Int) ≤ (((List.length d.1.1) : Nat) : Int))))) = true) (
        bnd (bnd (unicode_utf8_word_string__c pc (List.drop (Int.toNat 16) (List.take (Int.toNat (((List.length d.1.1) : Nat) : Int)) d.1.1))) fun (x40 : Int) =>
        some x40) fun (x41 : Int) =>
        ifd ((decide (((0 : Int) ≤ 24) ∧ (((24 : Int) ≤ (((List.length d.1.1) : Nat) : Int)) ∧ ((((List.length d.1.1) : Nat) : Int) ≤ (((List.length d.1.1) : Nat) : Int))))) = true) (
          bnd (bnd (unicode_utf8_word_string__c pc (List.drop (Int.toNat 24) (List.take (Int.toNat (((List.length d.1.1) : Nat) : Int)) d.1.1))) fun (x42 : Int) =>
          some x42) fun (x43 : Int) =>
          ifd ((decide ((((List.length d.1.1) : Nat) : Int) > 32)) = true) (
            ifd (((ibits .and .u64 (ibits .or .u64 (ibits .or .u64 x37 x39) (ibits .or .u64 x41 x43)) 9259542123273814144) == 0) = true) (
              ifd ((decide (((0 : Int) ≤ 32) ∧ (((32 : Int) ≤ (((List.length d.1.1) : Nat) : Int)) ∧ ((((List.length d.1.1) : Nat) : Int) ≤ (((List.length d.1.1) : Nat) : Int))))) = true) (
                ψ (((List.drop (Int.toNat 32) (List.take (Int.toNat (((List.length d.1.1) : Nat) : Int)) d.1.1)), ()), ())) (
                none)) (
              some ((d.1.1, ()), ()))) (
            some ((d.1.1, ()), ()))) (
          none)) (
        none)) (
      none)) (
    ifd ((decide ((((List.length d.1.1) : Nat) : Int) > 32)) = true) (
      none) (
      some ((d.1.1, ()), ())))
noncomputable def unicode_utf8_ValidString_L3 (pc : PC prog) (lp : LP) (d : unicode_utf8_ValidString_L3_D) : Option unicode_utf8_ValidString_L3_X := lp unicode_utf8_ValidString_L3_D unicode_utf8_ValidString_L3_X (unicode_utf8_ValidString_L3_R pc lp) d
theorem unicode_utf8_ValidString_L3_ap (E : AppE prog pcN pc lN lp) : ContR (fun N => unicode_utf8_ValidString_L3_R (pcN N) (lN N)) (unicode_utf8_ValidString_L3_R pc lp) := fun ψN ψ h d => by
  delta unicode_utf8_ValidString_L3_R
  exact (Approx.ifd (Approx.bnd (Approx.bnd (unicode_utf8_word_string__ca E) fun x36 => (Approx.const _)) fun x37 => (Approx.ifd (Approx.bnd (Approx.bnd (unicode_utf8_word_string__ca E) fun x38 => (Approx.const _)) fun x39 => (Approx.ifd (Approx.bnd (Approx.bnd (unicode_utf8_word_string__ca E) fun x40 => (Approx.const _)) fun x41 => (Approx.ifd (Approx.bnd (Approx.bnd (unicode_utf8_word_string__ca E) fun x42 => (Approx.const _)) fun x43 => (Approx.ifd (Approx.ifd (Approx.ifd (h _) Approx.none) (Approx.const _)) (Approx.const _))) Approx.none)) Approx.none)) Approx.none)) (Approx.ifd Approx.none (Approx.const _)))
theorem unicode_utf8_ValidString_L3_a (E : AppE prog pcN pc lN lp) {d : unicode_utf8_ValidString_L3_D} : Approx (fun N => unicode_utf8_ValidString_L3 (pcN N) (lN N) d) (unicode_utf8_ValidString_L3 pc lp d) := E.loop (unicode_utf8_ValidString_L3_ap E) d
theorem unicode_utf8_ValidString_L3_of {d : unicode_utf8_ValidString_L3_D} {x : unicode_utf8_ValidString_L3_X} (h : unicode_utf8_ValidString_L3_R (pcL prog cfg) lpL (unicode_utf8_ValidString_L3 (pcL prog cfg) lpL) d = some x) : unicode_utf8_ValidString_L3 (pcL prog cfg) lpL d = some x := lpL_step (unicode_utf8_ValidString_L3_ap (appL prog cfg)) h

-- unicode_utf8_ValidString, part 3157
abbrev unicode_utf8_ValidString_C4_D := (((List Int) × Unit) × Unit)
abbrev unicode_utf8_ValidString_C4_X := (((List Int) × Unit) × Unit)
noncomputable def unicode_utf8_ValidString_C4 (pc : PC prog) (lp : LP) (d : unicode_utf8_ValidString_C4_D) : Option unicode_utf8_ValidString_C4_X :=
  bnd (unicode_utf8_ValidString_C1 pc lp ((d.1.1, ()), ())) (fun (y45 : (((List Int) × (Bool × Unit)) × Unit)) =>
  ifd (y45.1.2.1 = true) (
    ifd ((decide (((0 : Int) ≤ 8) ∧ (((8 : Int) ≤ (((List.length y45.1.1) : Nat) : Int)) ∧ ((((List.length y45.1.1) : Nat) : Int) ≤ (((List.length y45.1.1) : Nat) : Int))))) = true) (
      bnd (unicode_utf8_ValidString_C2 pc lp (((List.drop (Int.toNat 8) (List.take (Int.toNat (((List.length y45.1.1) : Nat) : Int)) y45.1.1)), ()), ())) (fun (y46 : (((List Int) × (Bool × Unit)) × Unit)) =>
      ifd (y46.1.2.1 = true) (
        ifd ((decide (((0 : Int) ≤ 16) ∧ (((16 : Int) ≤ (((List.length y46.1.1) : Nat) : Int)) ∧ ((((List.length y46.1.1) : Nat) : Int) ≤ (((List.length y46.1.1) : Nat) : Int))))) = true) (
          bnd (unicode_utf8_ValidString_L3 pc lp (((List.drop (Int.toNat 16) (List.take (Int.toNat (((List.length y46.1.1) : Nat) : Int)) y46.1.1)), ()), ())) (fun (y47 : (((List Int) × Unit) × Unit)) =>
          some ((y47.1.1, ()), ()))) (
          none)) (
        some ((y46.1.1, ()), ())))) (
      none)) (
    some ((y45.1.1, ()), ())))
theorem unicode_utf8_ValidString_C4_a (E : AppE prog pcN pc lN lp) {d : unicode_utf8_ValidString_C4_D} : Approx (fun N => unicode_utf8_ValidString_C4 (pcN N) (lN N) d) (unicode_utf8_ValidString_C4 pc lp d) := by
  delta unicode_utf8_ValidString_C4
  exact (Approx.bnd (unicode_utf8_ValidString_C1_a E) (fun y45 => (Approx.ifd (Approx.ifd (Approx.bnd (unicode_utf8_ValidString_C2_a E) (fun y46 => (Approx.ifd (Approx.ifd (Approx.bnd (unicode_utf8_ValidString_L3_a E) (fun y47 => (Approx.const _))) Approx.none) (Approx.const _)))) Approx.none) (Approx.const _))))

-- unicode_utf8_ValidString, loop 12
abbrev unicode_utf8_ValidString_L5_D := (((List Int) × Unit) × Unit)
abbrev unicode_utf8_ValidString_L5_X := (((Bool × Unit) × Unit) ⊕ (Unit × Unit))
noncomputable def unicode_utf8_ValidString_L5_R (pc : PC prog) (lp : LP) (ψ : unicode_utf8_ValidString_L5_D → Option unicode_utf8_ValidString_L5_X) (d : unicode_utf8_ValidString_L5_D) : Option unicode_utf8_ValidString_L5_X :=
  ifd ((decide ((((List.length d.1.1) : Nat) : Int) > 0)) = true) (
    ifd ((decide (((0 : Int) ≤ 0) ∧ ((0 : Int) < (((List.length d.1.1) : Nat) : Int)))) = true) (
      ifd ((decide ((List.getD d.1.1 (Int.toNat 0) 0) < 128)) = true) (
        ifd ((decide (((0 : Int) ≤ 1) ∧ (((1 : Int) ≤ (((List.length d.1.1) : Nat) : Int)) ∧ ((((List.length d.1.1) : Nat) : Int) ≤ (((List.length d.1.1) : Nat) : Int))))) = true) (
          bnd (unicode_utf8_ValidString_C4 pc lp (((List.drop (Int.toNat 1) (List.take (Int.toNat (((List.length d.1.1) : Nat) : Int)) d.1.1)), ()), ())) (fun (y49 : (((List Int) × Unit) × Unit)) =>
          ψ ((y49.1.1, ()), ()))) (
          none)) (
        ifd ((decide (((0 : Int) ≤ (List.getD d.1.1 (Int.toNat 0) 0)) ∧ ((List.getD d.1.1 (Int.toNat 0) 0) < 256))) = true) (
          ifd ((decide (((0 : Int) ≤ (Int.fdiv (List.getD firstL (Int.toNat (List.getD d.1.1 (Int.toNat 0) 0)) 0) ((2 : Int) ^ (min (Int.toNat 4) 8)))) ∧ ((Int.fdiv (List.getD firstL (Int.toNat (List.getD d.1.1 (Int.toNat 0) 0)) 0) ((2 : Int) ^ (min (Int.toNat 4) 8))) < 16))) = true) (
            ifd (((Go.IntKind.wrap .i64 (ibits .and .u8 (List.getD firstL (Int.toNat (List.getD d.1.1 (Int.toNat 0) 0)) 0) 7)) == 2) = true) (
              ifd ((decide ((((List.length d.1.1) : Nat) : Int) < 2)) = true) (
                ifd ((decide ((((List.length d.1.1) : Nat) : Int) < 2)) = true) (
                  some (Sum.inl ((false, ()), ()))) (
                  none)) (
                ifd ((decide (((0 : Int) ≤ 1) ∧ ((1 : Int) < (((List.length d.1.1) : Nat) : Int)))) = true) (
                  ifd ((decide ((((List.length d.1.1) : Nat) : Int) < 2)) = true) (
                    some (Sum.inl ((false, ()), ()))) (
                    ifd ((decide ((List.getD d.1.1 (Int.toNat 1) 0) < (List.getD acceptP (Int.toNat (Int.fdiv (List.getD firstL (Int.toNat (List.getD d.1.1 (Int.toNat 0) 0)) 0) ((2 : Int) ^ (min (Int.toNat 4) 8)))) (0, (0, ()))).1)) = true) (
                      ifd ((decide ((List.getD d.1.1 (Int.toNat 1) 0) < (List.getD acceptP (Int.toNat (Int.fdiv (List.getD firstL (Int.toNat (List.getD d.1.1 (Int.toNat 0) 0)) 0) ((2 : Int) ^ (min (Int.toNat 4) 8)))) (0, (0, ()))).1)) = true) (
                        some (Sum.inl ((false, ()), ()))) (
                        none)) (
                      ifd ((decide (((0 : Int) ≤ 1) ∧ ((1 : Int) < (((List.length d.1.1) : Nat) : Int)))) = true) (
                        ifd ((decide ((List.getD d.1.1 (Int.toNat 1) 0) < (List.getD acceptP (Int.toNat (Int.fdiv (List.getD firstL (Int.toNat (List.getD d.1.1 (Int.toNat 0) 0)) 0) ((2 : Int) ^ (min (Int.toNat 4) 8)))) (0, (0, ()))).1)) = true) (
                          some (Sum.inl ((false, ()), ()))) (
                          ifd ((decide ((List.getD acceptP (Int.toNat (Int.fdiv (List.getD firstL (Int.toNat (List.getD d.1.1 (Int.toNat 0) 0)) 0) ((2 : Int) ^ (min (Int.toNat 4) 8)))) (0, (0, ()))).2.1 < (List.getD d.1.1 (Int.toNat 1) 0))) = true) (
                            some (Sum.inl ((false, ()), ()))) (
                            ifd ((decide (((0 : Int) ≤ 2) ∧ (((2 : Int) ≤ (((List.length d.1.1) : Nat) : Int)) ∧ ((((List.length d.1.1) : Nat) : Int) ≤ (((List.length d.1.1) : Nat) : Int))))) = true) (
                              ψ (((List.drop (Int.toNat 2) (List.take (Int.toNat (((List.length d.1.1) : Nat) : Int)) d.1.1)), ()), ())) (
                              none)))) (
                        none)))) (
                  none))) (
              ifd (((Go.IntKind.wrap .i64 (ibits .and .u8 (List.getD firstL (Int.toNat (List.getD d.1.1 (Int.toNat 0) 0)) 0) 7)) == 3) = true) (
                ifd ((decide ((((List.length d.1.1) : Nat) : Int) < 3)) = true) (
                  ifd ((decide ((((List.length d.1.1) : Nat) : Int) < 3)) = true) (
                    some (Sum.inl ((false, ()), ()))) (
                    none)) (
                  ifd ((decide (((0 : Int) ≤ 1) ∧ ((1 : Int) < (((List.length d.1.1) : Nat) : Int)))) = true) (
                    ifd ((decide ((((List.length d.1.1) : Nat) : Int) < 3)) = true) (
                      some (Sum.inl ((false, ()), ()))) (
                      ifd ((decide ((List.getD d.1.1 (Int.toNat 1) 0) < (List.getD acceptP (Int.toNat (Int.fdiv (List.getD firstL (Int.toNat (List.getD d.1.1 (Int.toNat 0) 0)) 0) ((2 : Int) ^ (min (Int.toNat 4) 8)))) (0, (0, ()))).1)) = true) (
                        ifd ((decide ((List.getD d.1.1 (Int.toNat 1) 0) < (List.getD acceptP (Int.toNat (Int.fdiv (List.getD firstL (Int.toNat (List.getD d.1.1 (Int.toNat 0) 0)) 0) ((2 : Int) ^ (min (Int.toNat 4) 8)))) (0, (0, ()))).1)) = true) (
                          some (Sum.inl ((false, ()), ()))) (
                          none)) (
                        ifd ((decide (((0 : Int) ≤ 1) ∧ ((1 : Int) < (((List.length d.1.1) : Nat) : Int)))) = true) (
                          ifd ((decide ((List.getD d.1.1 (Int.toNat 1) 0) < (List.getD acceptP (Int.toNat (Int.fdiv (List.getD firstL (Int.toNat (List.getD d.1.1 (Int.toNat 0) 0)) 0) ((2 : Int) ^ (min (Int.toNat 4) 8)))) (0, (0, ()))).1)) = true) (
                            some (Sum.inl ((false, ()), ()))) (
                            ifd ((decide ((List.getD acceptP (Int.toNat (Int.fdiv (List.getD firstL (Int.toNat (List.getD d.1.1 (Int.toNat 0) 0)) 0) ((2 : Int) ^ (min (Int.toNat 4) 8)))) (0, (0, ()))).2.1 < (List.getD d.1.1 (Int.toNat 1) 0))) = true) (
                              ifd ((decide ((List.getD acceptP (Int.toNat (Int.fdiv (List.getD firstL (Int.toNat (List.getD d.1.1 (Int.toNat 0) 0)) 0) ((2 : Int) ^ (min (Int.toNat 4) 8)))) (0, (0, ()))).2.1 < (List.getD d.1.1 (Int.toNat 1) 0))) = true) (
                                some (Sum.inl ((false, ()), ()))) (
                                none)) (
                              ifd ((decide (((0 : Int) ≤ 2) ∧ ((2 : Int) < (((List.length d.1.1) : Nat) : Int)))) = true) (
                                ifd ((decide ((List.getD acceptP (Int.toNat (Int.fdiv (List.getD firstL (Int.toNat (List.getD d.1.1 (Int.toNat 0) 0)) 0) ((2 : Int) ^ (min (Int.toNat 4) 8)))) (0, (0, ()))).2.1 < (List.getD d.1.1 (Int.toNat 1) 0))) = true) (
                                  some (Sum.inl ((false, ()), ()))) (
                                  ifd ((decide ((List.getD d.1.1 (Int.toNat 2) 0) < 128)) = true) (
                                    ifd ((decide ((List.getD d.1.1 (Int.toNat 2) 0) < 128)) = true) (
                                      some (Sum.inl ((false, ()), ()))) (
                                      none)) (
                                    ifd ((decide (((0 : Int) ≤ 2) ∧ ((2 : Int) < (((List.length d.1.1) : Nat) : Int)))) = true) (
                                      ifd ((decide ((List.getD d.1.1 (Int.toNat 2) 0) < 128)) = true) (
                                        some (Sum.inl ((false, ()), ()))) (
                                        ifd ((decide ((191 : Int) < (List.getD d.1.1 (Int.toNat 2) 0))) = true) (
                                          some (Sum.inl ((false, ()), ()))) (
                                          ifd ((decide (((0 : Int) ≤ 3) ∧ (((3 : Int) ≤ (((List.length d.1.1) : Nat) : Int)) ∧ ((((List.length d.1.1) : Nat) : Int) ≤ (((List.length d.1.1) : Nat) : Int))))) = true) (
                                            ψ (((List.drop (Int.toNat 3) (List.take (Int.toNat (((List.length d.1.1) : Nat) : Int)) d.1.1)), ()), ())) (
                                            none)))) (
                                      none)))) (
                                none)))) (
                          none)))) (
                    none))) (
                ifd (((Go.IntKind.wrap .i64 (ibits .and .u8 (List.getD firstL (Int.toNat (List.getD d.1.1 (Int.toNat 0) 0)) 0) 7)) == 4) = true) (
                  ifd ((decide ((((List.length d.1.1) : Nat) : Int) < 4)) = true) (
                    ifd ((decide ((((List.length d.1.1) : Nat) : Int) < 4)) = true) (
                      some (Sum.inl ((false, ()), ()))) (
                      none)) (
                    ifd ((decide (((0 : Int) ≤ 1) ∧ ((1 : Int) < (((List.length d.1.1) : Nat) : Int)))) = true) (
                      ifd ((decide ((((List.length d.1.1) : Nat) : Int) < 4)) = true) (
                        some (Sum.inl ((false, ()), ()))) (
                        ifd ((decide ((List.getD d.1.1 (Int.toNat 1) 0) < (List.getD acceptP (Int.toNat (Int.fdiv (List.getD firstL (Int.toNat (List.getD d.1.1 (Int.toNat 0) 0)) 0) ((2 : Int) ^ (min (Int.toNat 4) 8)))) (0, (0, ()))).1)) = true) (
                          ifd ((decide ((List.getD d.1.1 (Int.toNat 1) 0) < (List.getD acceptP (Int.toNat (Int.fdiv (List.getD firstL (Int.toNat (List.getD d.1.1 (Int.toNat 0) 0)) 0) ((2 : Int) ^ (min (Int.toNat 4) 8)))) (0, (0, ()))).1)) = true) (
                            some (Sum.inl ((false, ()), ()))) (
                            none)) (
                          ifd ((decide (((0 : Int) ≤ 1) ∧ ((1 : Int) < (((List.length d.1.1) : Nat) : Int)))) = true) (
                            ifd ((decide ((List.getD d.1.1 (Int.toNat 1) 0) < (List.getD acceptP (Int.toNat (Int.fdiv (List.getD firstL (Int.toNat (List.getD d.1.1 (Int.toNat 0) 0)) 0) ((2 : Int) ^ (min (Int.toNat 4) 8)))) (0, (0, ()))).1)) = true) (
                              some (Sum.inl ((false, ()), ()))) (
                              ifd ((decide ((List.getD acceptP (Int.toNat (Int.fdiv (List.getD firstL (Int.toNat (List.getD d.1.1 (Int.toNat 0) 0)) 0) ((2 : Int) ^ (min (Int.toNat 4) 8)))) (0, (0, ()))).2.1 < (List.getD d.1.1 (Int.toNat 1) 0))) = true) (
                                ifd ((decide ((List.getD acceptP (Int.toNat (Int.fdiv (List.getD firstL (Int.toNat (List.getD d.1.1 (Int.toNat 0) 0)) 0) ((2 : Int) ^ (min (Int.toNat 4) 8)))) (0, (0, ()))).2.1 < (List.getD d.1.1 (Int.toNat 1) 0))) = true) (
                                  some (Sum.inl ((false, ()), ()))) (
                                  none)) (
                                ifd ((decide (((0 : Int) ≤ 2) ∧ ((2 : Int) < (((List.length d.1.1) : Nat) : Int)))) = true) (
                                  ifd ((decide ((List.getD acceptP (Int.toNat (Int.fdiv (List.getD firstL (Int.toNat (List.getD d.1.1 (Int.toNat 0) 0)) 0) ((2 : Int) ^ (min (Int.toNat 4) 8)))) (0, (0, ()))).2.1 < (List.getD d.1.1 (Int.toNat 1) 0))) = true) (
                                    some (Sum.inl ((false, ()), ()))) (
                                    ifd ((decide ((List.getD d.1.1 (Int.toNat 2) 0) < 128)) = true) (
                                      ifd ((decide ((List.getD d.1.1 (Int.toNat 2) 0) < 128)) = true) (
                                        some (Sum.inl ((false, ()), ()))) (
                                        none)) (
                                      ifd ((decide (((0 : Int) ≤ 2) ∧ ((2 : Int) < (((List.length d.1.1) : Nat) : Int)))) = true) (
                                        ifd ((decide ((List.getD d.1.1 (Int.toNat 2) 0) < 128)) = true) (
                                          some (Sum.inl ((false, ()), ()))) (
                                          ifd ((decide ((191 : Int) < (List.getD d.1.1 (Int.toNat 2) 0))) = true) (
                                            ifd ((decide ((191 : Int) < (List.getD d.1.1 (Int.toNat 2) 0))) = true) (
                                              some (Sum.inl ((false, ()), ()))) (
                                              none)) (
                                            ifd ((decide (((0 : Int) ≤ 3) ∧ ((3 : Int) < (((List.length d.1.1) : Nat) : Int)))) = true) (
                                              ifd ((decide ((191 : Int) < (List.getD d.1.1 (Int.toNat 2) 0))) = true) (
                                                some (Sum.inl ((false, ()), ()))) (
                                                ifd ((decide ((List.getD d.1.1 (Int.toNat 3) 0) < 128)) = true) (
                                                  ifd ((decide ((List.getD d.1.1 (Int.toNat 3) 0) < 128)) = true) (
                                                    some (Sum.inl ((false, ()), ()))) (
                                                    none)) (
                                                  ifd ((decide (((0 : Int) ≤ 3) ∧ ((3 : Int) < (((List.length d.1.1) : Nat) : Int)))) = true) (
                                                    ifd ((decide ((List.getD d.1.1 (Int.toNat 3) 0) < 128)) = true) (
                                                      some (Sum.inl ((false, ()), ()))) (
                                                      ifd ((decide ((191 : Int) < (List.getD d.1.1 (Int.toNat 3) 0))) = true) (
                                                        some (Sum.inl ((false, ()), ()))) (
                                                        ifd ((decide (((0 : Int) ≤ 4) ∧ (((4 : Int) ≤ (((List.length d.1.1) : Nat) : Int)) ∧ ((((List.length d.1.1) : Nat) : Int) ≤ (((List.length d.1.1) : Nat) : Int))))) = true) (
                                                          ψ (((List.drop (Int.toNat 4) (List.take (Int.toNat (((List.length d.1.1) : Nat) : Int)) d.1.1)), ()), ())) (
                                                          none)))) (
                                                    none)))) (
                                              none)))) (
                                        none)))) (
                                  none)))) (
                            none)))) (
                      none))) (
                  some (Sum.inl ((false, ()), ())))))) (
            none)) (
          none))) (
      none)) (
    some (Sum.inr ((), ())))
noncomputable def unicode_utf8_ValidString_L5 (pc : PC prog) (lp : LP) (d : unicode_utf8_ValidString_L5_D) : Option unicode_utf8_ValidString_L5_X := lp unicode_utf8_ValidString_L5_D unicode_utf8_ValidString_L5_X (unicode_utf8_ValidString_L5_R pc lp) d
theorem unicode_utf8_ValidString_L5_ap (E : AppE prog pcN pc lN lp) : ContR (fun N => unicode_utf8_ValidString_L5_R (pcN N) (lN N)) (unicode_utf8_ValidString_L5_R pc lp) := fun ψN ψ h d => by
  delta unicode_utf8_ValidString_L5_R
  exact (Approx.ifd (Approx.ifd (Approx.ifd (Approx.ifd (Approx.bnd (unicode_utf8_ValidString_C4_a E) (fun y49 => (h _))) Approx.none) (Approx.ifd (Approx.ifd (Approx.ifd (Approx.ifd (Approx.ifd (Approx.const _) Approx.none) (Approx.ifd (Approx.ifd (Approx.const _) (Approx.ifd (Approx.ifd (Approx.const _) Approx.none) (Approx.ifd (Approx.ifd (Approx.const _) (Approx.ifd (Approx.const _) (Approx.ifd (h _) Approx.none))) Approx.none))) Approx.none)) (Approx.ifd (Approx.ifd (Approx.ifd (Approx.const _) Approx.none) (Approx.ifd (Approx.ifd (Approx.const _) (Approx.ifd (Approx.ifd (Approx.const _) Approx.none) (Approx.ifd (Approx.ifd (Approx.const _) (Approx.ifd (Approx.ifd (Approx.const _) Approx.none) (Approx.ifd (Approx.ifd (Approx.const _) (Approx.ifd (Approx.ifd (Approx.const _) Approx.none) (Approx.ifd (Approx.ifd (Approx.const _) (Approx.ifd (Approx.const _) (Approx.ifd (h _) Approx.none))) Approx.none))) Approx.none))) Approx.none))) Approx.none)) (Approx.ifd (Approx.ifd (Approx.ifd (Approx.const _) Approx.none) (Approx.ifd (Approx.ifd (Approx.const _) (Approx.ifd (Approx.ifd (Approx.const _) Approx.none) (Approx.ifd (Approx.ifd (Approx.const _) (Approx.ifd (Approx.ifd (Approx.const _) Approx.none) (Approx.ifd (Approx.ifd (Approx.const _) (Approx.ifd (Approx.ifd (Approx.const _) Approx.none) (Approx.ifd (Approx.ifd (Approx.const _) (Approx.ifd (Approx.ifd (Approx.const _) Approx.none) (Approx.ifd (Approx.ifd (Approx.const _) (Approx.ifd (Approx.ifd (Approx.const _) Approx.none) (Approx.ifd (Approx.ifd (Approx.const _) (Approx.ifd (Approx.const _) (Approx.ifd (h _) Approx.none))) Approx.none))) Approx.none))) Approx.none))) Approx.none))) Approx.none))) Approx.none)) (Approx.const _)))) Approx.none) Approx.none)) Approx.none) (Approx.const _))
theorem unicode_utf8_ValidString_L5_a (E : AppE prog pcN pc lN lp) {d : unicode_utf8_ValidString_L5_D} : Approx (fun N => unicode_utf8_ValidString_L5 (pcN N) (lN N) d) (unicode_utf8_ValidString_L5 pc lp d) := E.loop (unicode_utf8_ValidString_L5_ap E) d
theorem unicode_utf8_ValidString_L5_of {d : unicode_utf8_ValidString_L5_D} {x : unicode_utf8_ValidString_L5_X} (h : unicode_utf8_ValidString_L5_R (pcL prog cfg) lpL (unicode_utf8_ValidString_L5 (pcL prog cfg) lpL) d = some x) : unicode_utf8_ValidString_L5 (pcL prog cfg) lpL d = some x := lpL_step (unicode_utf8_ValidString_L5_ap (appL prog cfg)) h

noncomputable def unicode_utf8_ValidString_B (pc : PC prog) (lp : LP) (a0 : List Int) : Option Bool :=
  bnd (unicode_utf8_ValidString_L5 pc lp ((a0, ()), ())) (Sum.elim (fun (y50 : ((Bool × Unit) × Unit)) =>
  some y50.1.1) (fun (y51 : (Unit × Unit)) =>
  some true))
theorem unicode_utf8_ValidString_eq (a0 : List Int) (pc : PC prog) (lp : LP) : got unicode_utf8_ValidString_t (pcall prog (runO prog cfg (hand prog cfg lp pc 6 tbl 5) pc 6) 24 [(.c (.str a0))]) = unicode_utf8_ValidString_B pc lp a0 := by kernel_rfl
theorem unicode_utf8_ValidString_ap (E : AppE prog pcN pc lN lp) (a0 : List Int) : Approx (fun N => unicode_utf8_ValidString_B (pcN N) (lN N) a0) (unicode_utf8_ValidString_B pc lp a0) := by
  delta unicode_utf8_ValidString_B
  exact (Approx.bnd (unicode_utf8_ValidString_L5_a E) (Approx.sum (fun y50 => (Approx.const _)) (fun y51 => (Approx.const _))))
theorem unicode_utf8_ValidString_of {a0 : List Int} {y : Bool} (h : unicode_utf8_ValidString_B (pcL prog cfg) lpL a0 = some y) : unicode_utf8_ValidString_c (pcL prog cfg) a0 = some y := fn_of rfl (unicode_utf8_ValidString_eq a0) (unicode_utf8_ValidString_ap (appN prog cfg) a0) h

noncomputable def charset_find_3_B (pc : PC prog) (lp : LP) (a0 : Int) : Option ((List Int) × (Bool × Unit)) :=
  ifd ((decide ((List.length (encRune a0)) ≤ 140737488355328)) = true) (
    some ((encRune a0), (true, ()))) (
    none)
theorem charset_find_3_eq (a0 : Int) (pc : PC prog) (lp : LP) : got charset_find_3_t (pcall prog (runO prog cfg (hand prog cfg lp pc 6 tbl 5) pc 6) 32 [(.c (.int .i32 a0))]) = charset_find_3_B pc lp a0 := by kernel_rfl
theorem charset_find_3_ap (E : AppE prog pcN pc lN lp) (a0 : Int) : Approx (fun N => charset_find_3_B (pcN N) (lN N) a0) (charset_find_3_B pc lp a0) := by
  delta charset_find_3_B
  exact (Approx.ifd (Approx.const _) Approx.none)
theorem charset_find_3_of {a0 : Int} {y : ((List Int) × (Bool × Unit))} (h : charset_find_3_B (pcL prog cfg) lpL a0 = some y) : charset_find_3_c (pcL prog cfg) a0 = some y := fn_of rfl (charset_find_3_eq a0) (charset_find_3_ap (appN prog cfg) a0) h

-- charset_pairs, part 6
abbrev charset_pairs_C1_D := ((Int × Unit) × Unit)
abbrev charset_pairs_C1_X := ((Int × (Bool × Unit)) × Unit)
noncomputable def charset_pairs_C1 (pc : PC prog) (lp : LP) (d : charset_pairs_C1_D) : Option charset_pairs_C1_X :=
  ifd ((decide (d.1.1 ≥ 55296)) = true) (
    ifd ((decide (d.1.1 ≥ 55296)) = true) (
      ifd ((decide (d.1.1 < 57344)) = true) (
        ifd ((decide (d.1.1 < 57344)) = true) (
          some ((d.1.1, true, ()), ())) (
          none)) (
        ifd ((decide (d.1.1 < 57344)) = true) (
          some ((d.1.1, true, ()), ())) (
          ifd ((decide (d.1.1 < 0)) = true) (
            ifd ((decide (d.1.1 < 0)) = true) (
              some ((d.1.1, true, ()), ())) (
              none)) (
            ifd ((decide (d.1.1 < 0)) = true) (
              some ((d.1.1, true, ()), ())) (
              some ((d.1.1, (decide (d.1.1 > 1114111)), ()), ())))))) (
      ifd ((decide (d.1.1 < 0)) = true) (
        ifd ((decide (d.1.1 < 0)) = true) (
          some ((d.1.1, true, ()), ())) (
          none)) (
        ifd ((decide (d.1.1 < 0)) = true) (
          some ((d.1.1, true, ()), ())) (
          some ((d.1.1, (decide (d.1.1 > 1114111)), ()), ()))))) (
    ifd ((decide (d.1.1 ≥ 55296)) = true) (
      none) (
      ifd ((decide (d.1.1 < 0)) = true) (
        ifd ((decide (d.1.1 < 0)) = true) (
          some ((d.1.1, true, ()), ())) (
          none)) (
        ifd ((decide (d.1.1 < 0)) = true) (
          some ((d.1.1, true, ()), ())) (
          some ((d.1.1, (decide (d.1.1 > 1114111)), ()), ())))))
theorem charset_pairs_C1_a (E : AppE prog pcN pc lN lp) {d : charset_pairs_C1_D} : Approx (fun N => charset_pairs_C1 (pcN N) (lN N) d) (charset_pairs_C1 pc lp d) := by
  delta charset_pairs_C1
  exact (Approx.ifd (Approx.ifd (Approx.ifd (Approx.ifd (Approx.const _) Approx.none) (Approx.ifd (Approx.const _) (Approx.ifd (Approx.ifd (Approx.const _) Approx.none) (Approx.ifd (Approx.const _) (Approx.const _))))) (Approx.ifd (Approx.ifd (Approx.const _) Approx.none) (Approx.ifd (Approx.const _) (Approx.const _)))) (Approx.ifd Approx.none (Approx.ifd (Approx.ifd (Approx.const _) Approx.none) (Approx.ifd (Approx.const _) (Approx.const _)))))

-- charset_pairs, part 3
abbrev charset_pairs_C2_D := ((Int × Unit) × Unit)
abbrev charset_pairs_C2_X := ((Int × Unit) × Unit)
noncomputable def charset_pairs_C2 (pc : PC prog) (lp : LP) (d : charset_pairs_C2_D) : Option charset_pairs_C2_X :=
  bnd (charset_pairs_C1 pc lp ((d.1.1, ()), ())) (fun (y1 : ((Int × (Bool × Unit)) × Unit)) =>
  ifd (y1.1.2.1 = true) (
    some ((65533, ()), ())) (
    some ((y1.1.1, ()), ())))
theorem charset_pairs_C2_a (E : AppE prog pcN pc lN lp) {d : charset_pairs_C2_D} : Approx (fun N => charset_pairs_C2 (pcN N) (lN N) d) (charset_pairs_C2 pc lp d) := by
  delta charset_pairs_C2
  exact (Approx.bnd (charset_pairs_C1_a E) (fun y1 => (Approx.ifd (Approx.const _) (Approx.const _))))

noncomputable def charset_pairs_B (pc : PC prog) (lp : LP) (a0 : Int) : Option ((List Int) × (Bool × Unit)) :=
  bnd (charset_pairs_C2 pc lp ((a0, ()), ())) (fun (y2 : ((Int × Unit) × Unit)) =>
  ifd ((decide (y2.1.1 < 65536)) = true) (
    some (([(Go.IntKind.wrap .u8 (Int.fdiv y2.1.1 ((2 : Int) ^ (min (Int.toNat 8) 32)))), (Go.IntKind.wrap .u8 y2.1.1)] : List Int), (true, ()))) (
    some (([(Go.IntKind.wrap .u8 (Int.fdiv (Go.IntKind.wrap .i32 (55296 + (Int.fdiv (Go.IntKind.wrap .i32 (y2.1.1 - 65536)) ((2 : Int) ^ (min (Int.toNat 10) 32))))) ((2 : Int) ^ (min (Int.toNat 8) 32)))), (Go.IntKind.wrap .u8 (Go.IntKind.wrap .i32 (55296 + (Int.fdiv (Go.IntKind.wrap .i32 (y2.1.1 - 65536)) ((2 : Int) ^ (min (Int.toNat 10) 32)))))), (Go.IntKind.wrap .u8 (Int.fdiv (Go.IntKind.wrap .i32 (56320 + (ibits .and .i32 (Go.IntKind.wrap .i32 (y2.1.1 - 65536)) 1023))) ((2 : Int) ^ (min (Int.toNat 8) 32)))), (Go.IntKind.wrap .u8 (Go.IntKind.wrap .i32 (56320 + (ibits .and .i32 (Go.IntKind.wrap .i32 (y2.1.1 - 65536)) 1023))))] : List Int), (true, ()))))
theorem charset_pairs_eq (a0 : Int) (pc : PC prog) (lp : LP) : got charset_pairs_t (pcall prog (runO prog cfg (hand prog cfg lp pc 6 tbl 5) pc 6) 34 [(.c (.int .i32 a0))]) = charset_pairs_B pc lp a0 := by kernel_rfl
theorem charset_pairs_ap (E : AppE prog pcN pc lN lp) (a0 : Int) : Approx (fun N => charset_pairs_B (pcN N) (lN N) a0) (charset_pairs_B pc lp a0) := by
  delta charset_pairs_B
  exact (Approx.bnd (charset_pairs_C2_a E) (fun y2 => (Approx.ifd (Approx.const _) (Approx.const _))))
theorem charset_pairs_of {a0 : Int} {y : ((List Int) × (Bool × Unit))} (h : charset_pairs_B (pcL prog cfg) lpL a0 = some y) : charset_pairs_c (pcL prog cfg) a0 = some y := fn_of rfl (charset_pairs_eq a0) (charset_pairs_ap (appN prog cfg) a0) h

-- ref1_Rune, part 127
abbrev ref1_Rune_C1_D := (((List Int) × (Int × (Int × (Int × (Int × (Int × Unit)))))) × Unit)
abbrev ref1_Rune_C1_X := (((List Int) × (Int × (Int × (Int × (Int × Unit))))) × Unit)
noncomputable def ref1_Rune_C1 (pc : PC prog) (lp : LP) (d : ref1_Rune_C1_D) : Option ref1_Rune_C1_X :=
  bnd (bnd (ref1_In_c pc d.1.2.2.1 192 223) fun (x6 : Bool) =>
  some x6) fun (x7 : Bool) =>
  ifd (x7 = true) (
    some ((d.1.1, d.1.2.1, 2, (Go.IntKind.wrap .i64 (d.1.2.2.1 - 192)), 128, ()), ())) (
    bnd (bnd (ref1_In_c pc d.1.2.2.1 224 239) fun (x8 : Bool) =>
    some x8) fun (x9 : Bool) =>
    ifd (x9 = true) (
      some ((d.1.1, d.1.2.1, 3, (Go.IntKind.wrap .i64 (d.1.2.2.1 - 224)), 2048, ()), ())) (
      bnd (bnd (ref1_In_c pc d.1.2.2.1 240 247) fun (x10 : Bool) =>
      some x10) fun (x11 : Bool) =>
      ifd (x11 = true) (
        some ((d.1.1, d.1.2.1, 4, (Go.IntKind.wrap .i64 (d.1.2.2.1 - 240)), 65536, ()), ())) (
        some ((d.1.1, d.1.2.1, d.1.2.2.2.1, d.1.2.2.2.2.1, d.1.2.2.2.2.2.1, ()), ()))))
theorem ref1_Rune_C1_a (E : AppE prog pcN pc lN lp) {d : ref1_Rune_C1_D} : Approx (fun N => ref1_Rune_C1 (pcN N) (lN N) d) (ref1_Rune_C1 pc lp d) := by
  delta ref1_Rune_C1
  exact (Approx.bnd (Approx.bnd (ref1_In_ca E) fun x6 => (Approx.const _)) fun x7 => (Approx.ifd (Approx.const _) (Approx.bnd (Approx.bnd (ref1_In_ca E) fun x8 => (Approx.const _)) fun x9 => (Approx.ifd (Approx.const _) (Approx.bnd (Approx.bnd (ref1_In_ca E) fun x10 => (Approx.const _)) fun x11 => (Approx.ifd (Approx.const _) (Approx.const _)))))))

-- ref1_Rune, part 510
abbrev ref1_Rune_C2_D := (((List Int) × (Int × (Int × (Int × (Int × Unit))))) × Unit)
abbrev ref1_Rune_C2_X := (((List Int) × (Int × (Int × (Int × (Int × (Bool × Unit)))))) × Unit)
noncomputable def ref1_Rune_C2 (pc : PC prog) (lp : LP) (d : ref1_Rune_C2_D) : Option ref1_Rune_C2_X :=
  ifd ((d.1.2.2.1 == 0) = true) (
    ifd ((d.1.2.2.1 == 0) = true) (
      some ((d.1.1, d.1.2.1, d.1.2.2.1, d.1.2.2.2.1, d.1.2.2.2.2.1, true, ()), ())) (
      none)) (
    ifd ((d.1.2.2.1 == 0) = true) (
      some ((d.1.1, d.1.2.1, d.1.2.2.1, d.1.2.2.2.1, d.1.2.2.2.2.1, true, ()), ())) (
      some ((d.1.1, d.1.2.1, d.1.2.2.1, d.1.2.2.2.1, d.1.2.2.2.2.1, (decide ((Go.IntKind.wrap .i64 (d.1.2.1 + d.1.2.2.1)) > (((List.length d.1.1) : Nat) : Int))), ()), ())))
theorem ref1_Rune_C2_a (E : AppE prog pcN pc lN lp) {d : ref1_Rune_C2_D} : Approx (fun N => ref1_Rune_C2 (pcN N) (lN N) d) (ref1_Rune_C2 pc lp d) := by
  delta ref1_Rune_C2
  exact (Approx.ifd (Approx.ifd (Approx.const _) Approx.none) (Approx.ifd (Approx.const _) (Approx.const _)))

-- ref1_Rune, loop 4090
abbrev ref1_Rune_L3_D := (((List Int) × (Int × (Int × (Int × (Int × (Int × Unit)))))) × Unit)
abbrev ref1_Rune_L3_X := (((Int × (Int × Unit)) × Unit) ⊕ ((Int × (Int × (Int × Unit))) × Unit))
noncomputable def ref1_Rune_L3_R (pc : PC prog) (lp : LP) (ψ : ref1_Rune_L3_D → Option ref1_Rune_L3_X) (d : ref1_Rune_L3_D) : Option ref1_Rune_L3_X :=
  ifd ((decide (d.1.2.2.2.2.2.1 < d.1.2.2.1)) = true) (
    ifd ((decide (((0 : Int) ≤ (Go.IntKind.wrap .i64 (d.1.2.1 + d.1.2.2.2.2.2.1))) ∧ ((Go.IntKind.wrap .i64 (d.1.2.1 + d.1.2.2.2.2.2.1)) < (((List.length d.1.1) : Nat) : Int)))) = true) (
      bnd (bnd (ref1_In_c pc (Go.IntKind.wrap .i64 (List.getD d.1.1 (Int.toNat (Go.IntKind.wrap .i64 (d.1.2.1 + d.1.2.2.2.2.2.1))) 0)) 128 191) fun (x16 : Bool) =>
      some x16) fun (x17 : Bool) =>
      ifd ((!x17) = true) (
        some (Sum.inl (((-1), 1, ()), ()))) (
        ψ ((d.1.1, d.1.2.1, d.1.2.2.1, (Go.IntKind.wrap .i64 ((Go.IntKind.wrap .i64 ((Go.IntKind.wrap .i64 (64 * d.1.2.2.2.1)) + (Go.IntKind.wrap .i64 (List.getD d.1.1 (Int.toNat (Go.IntKind.wrap .i64 (d.1.2.1 + d.1.2.2.2.2.2.1))) 0)))) - 128)), d.1.2.2.2.2.1, (Go.IntKind.wrap .i64 (d.1.2.2.2.2.2.1 + 1)), ()), ()))) (
      none)) (
    some (Sum.inr ((d.1.2.2.1, d.1.2.2.2.1, d.1.2.2.2.2.1, ()), ())))
noncomputable def ref1_Rune_L3 (pc : PC prog) (lp : LP) (d : ref1_Rune_L3_D) : Option ref1_Rune_L3_X := lp ref1_Rune_L3_D ref1_Rune_L3_X (ref1_Rune_L3_R pc lp) d
theorem ref1_Rune_L3_ap (E : AppE prog pcN pc lN lp) : ContR (fun N => ref1_Rune_L3_R (pcN N) (lN N)) (ref1_Rune_L3_R pc lp) := fun ψN ψ h d => by
  delta ref1_Rune_L3_R
  exact (Approx.ifd (Approx.ifd (Approx.bnd (Approx.bnd (ref1_In_ca E) fun x16 => (Approx.const _)) fun x17 => (Approx.ifd (Approx.const _) (h _))) Approx.none) (Approx.const _))
theorem ref1_Rune_L3_a (E : AppE prog pcN pc lN lp) {d : ref1_Rune_L3_D} : Approx (fun N => ref1_Rune_L3 (pcN N) (lN N) d) (ref1_Rune_L3 pc lp d) := E.loop (ref1_Rune_L3_ap E) d
theorem ref1_Rune_L3_of {d : ref1_Rune_L3_D} {x : ref1_Rune_L3_X} (h : ref1_Rune_L3_R (pcL prog cfg) lpL (ref1_Rune_L3 (pcL prog cfg) lpL) d = some x) : ref1_Rune_L3 (pcL prog cfg) lpL d = some x := lpL_step (ref1_Rune_L3_ap (appL prog cfg)) h

noncomputable def ref1_Rune_B (pc : PC prog) (lp : LP) (a0 : List Int) (a1 : Int) : Option (Int × (Int × Unit)) :=
  ifd ((decide (((0 : Int) ≤ a1) ∧ (a1 < (((List.length a0) : Nat) : Int)))) = true) (
    ifd ((decide ((Go.IntKind.wrap .i64 (List.getD a0 (Int.toNat a1) 0)) < 128)) = true) (
      some ((Go.IntKind.wrap .i64 (List.getD a0 (Int.toNat a1) 0)), (1, ()))) (
      bnd (ref1_Rune_C1 pc lp ((a0, a1, (Go.IntKind.wrap .i64 (List.getD a0 (Int.toNat a1) 0)), 0, 0, 0, ()), ())) (fun (y12 : (((List Int) × (Int × (Int × (Int × (Int × Unit))))) × Unit)) =>
      bnd (ref1_Rune_C2 pc lp ((y12.1.1, y12.1.2.1, y12.1.2.2.1, y12.1.2.2.2.1, y12.1.2.2.2.2.1, ()), ())) (fun (y13 : (((List Int) × (Int × (Int × (Int × (Int × (Bool × Unit)))))) × Unit)) =>
      ifd (y13.1.2.2.2.2.2.1 = true) (
        some ((-1), (1, ()))) (
        bnd (ref1_Rune_L3 pc lp ((y13.1.1, y13.1.2.1, y13.1.2.2.1, y13.1.2.2.2.1, y13.1.2.2.2.2.1, 1, ()), ())) (Sum.elim (fun (y18 : ((Int × (Int × Unit)) × Unit)) =>
        some (y18.1.1, (y18.1.2.1, ()))) (fun (y19 : ((Int × (Int × (Int × Unit))) × Unit)) =>
        ifd ((decide (y19.1.2.1 < y19.1.2.2.1)) = true) (
          ifd ((decide (y19.1.2.1 < y19.1.2.2.1)) = true) (
            some ((-1), (1, ()))) (
            none)) (
          ifd ((decide (y19.1.2.1 < y19.1.2.2.1)) = true) (
            some ((-1), (1, ()))) (
            ifd ((decide (y19.1.2.1 > 1114111)) = true) (
              ifd ((decide (y19.1.2.1 > 1114111)) = true) (
                some ((-1), (1, ()))) (
                none)) (
              bnd (bnd (ref1_In_c pc y19.1.2.1 55296 57343) fun (x20 : Bool) =>
              some x20) fun (x21 : Bool) =>
              ifd ((decide (y19.1.2.1 > 1114111)) = true) (
                some ((-1), (1, ()))) (
                ifd (x21 = true) (
                  some ((-1), (1, ()))) (
                  some (y19.1.2.1, (y19.1.1, ())))))))))))))) (
    none)
theorem ref1_Rune_eq (a0 : List Int) (a1 : Int) (pc : PC prog) (lp : LP) : got ref1_Rune_t (pcall prog (runO prog cfg (hand prog cfg lp pc 6 tbl 5) pc 6) 25 [(.c (.str a0)), (.c (.int .i64 a1))]) = ref1_Rune_B pc lp a0 a1 := by kernel_rfl
theorem ref1_Rune_ap (E : AppE prog pcN pc lN lp) (a0 : List Int) (a1 : Int) : Approx (fun N => ref1_Rune_B (pcN N) (lN N) a0 a1) (ref1_Rune_B pc lp a0 a1) := by
  delta ref1_Rune_B
  exact (Approx.ifd (Approx.ifd (Approx.const _) (Approx.bnd (ref1_Rune_C1_a E) (fun y12 => (Approx.bnd (ref1_Rune_C2_a E) (fun y13 => (Approx.ifd (Approx.const _) (Approx.bnd (ref1_Rune_L3_a E) (Approx.sum (fun y18 => (Approx.const _)) (fun y19 => (Approx.ifd (Approx.ifd (Approx.const _) Approx.none) (Approx.ifd (Approx.const _) (Approx.ifd (Approx.ifd (Approx.const _) Approx.none) (Approx.bnd (Approx.bnd (ref1_In_ca E) fun x20 => (Approx.const _)) fun x21 => (Approx.ifd (Approx.const _) (Approx.ifd (Approx.const _) (Approx.const _)))))))))))))))) Approx.none)
theorem ref1_Rune_of {a0 : List Int} {a1 : Int} {y : (Int × (Int × Unit))} (h : ref1_Rune_B (pcL prog cfg) lpL a0 a1 = some y) : ref1_Rune_c (pcL prog cfg) a0 a1 = some y := fn_of rfl (ref1_Rune_eq a0 a1) (ref1_Rune_ap (appN prog cfg) a0 a1) h

-- ref1_Lower, loop 58
abbrev ref1_Lower_L1_D := ((Unit × (Int × Unit)) × ((List Int) × Unit))
abbrev ref1_Lower_L1_X := ((Unit × Unit) × ((List Int) × Unit))
noncomputable def ref1_Lower_L1_R (pc : PC prog) (lp : LP) (ψ : ref1_Lower_L1_D → Option ref1_Lower_L1_X) (d : ref1_Lower_L1_D) : Option ref1_Lower_L1_X :=
  ifd ((decide (d.1.2.1 < (((List.length d.2.1) : Nat) : Int))) = true) (
    ifd ((decide (((0 : Int) ≤ d.1.2.1) ∧ (d.1.2.1 < (((List.length d.2.1) : Nat) : Int)))) = true) (
      ifd ((decide ((Int.toNat d.1.2.1) < (List.length d.2.1))) = true) (
        bnd (bnd (ref1_In_c pc (Go.IntKind.wrap .i64 (List.getD d.2.1 (Int.toNat d.1.2.1) 0)) 65 90) fun (x2 : Bool) =>
        some x2) fun (x3 : Bool) =>
        ifd (x3 = true) (
          ifd ((decide (((0 : Int) ≤ d.1.2.1) ∧ (d.1.2.1 < (((List.length d.2.1) : Nat) : Int)))) = true) (
            ifd ((decide ((Int.toNat d.1.2.1) < (List.length d.2.1))) = true) (
              ifd ((decide (((0 : Int) ≤ d.1.2.1) ∧ (d.1.2.1 < (((List.length d.2.1) : Nat) : Int)))) = true) (
                ifd ((decide ((Int.toNat d.1.2.1) < (List.length d.2.1))) = true) (
                  ψ (((), (Go.IntKind.wrap .i64 (d.1.2.1 + 1)), ()), ((List.set d.2.1 (Int.toNat d.1.2.1) (Go.IntKind.wrap .u8 ((List.getD d.2.1 (Int.toNat d.1.2.1) 0) + 32))), ()))) (
                  none)) (
                none)) (
              none)) (
            none)) (
          ψ (((), (Go.IntKind.wrap .i64 (d.1.2.1 + 1)), ()), (d.2.1, ())))) (
        none)) (
      none)) (
    some (((), ()), (d.2.1, ())))
noncomputable def ref1_Lower_L1 (pc : PC prog) (lp : LP) (d : ref1_Lower_L1_D) : Option ref1_Lower_L1_X := lp ref1_Lower_L1_D ref1_Lower_L1_X (ref1_Lower_L1_R pc lp) d
theorem ref1_Lower_L1_ap (E : AppE prog pcN pc lN lp) : ContR (fun N => ref1_Lower_L1_R (pcN N) (lN N)) (ref1_Lower_L1_R pc lp) := fun ψN ψ h d => by
  delta ref1_Lower_L1_R
  exact (Approx.ifd (Approx.ifd (Approx.ifd (Approx.bnd (Approx.bnd (ref1_In_ca E) fun x2 => (Approx.const _)) fun x3 => (Approx.ifd (Approx.ifd (Approx.ifd (Approx.ifd (Approx.ifd (h _) Approx.none) Approx.none) Approx.none) Approx.none) (h _))) Approx.none) Approx.none) (Approx.const _))
theorem ref1_Lower_L1_a (E : AppE prog pcN pc lN lp) {d : ref1_Lower_L1_D} : Approx (fun N => ref1_Lower_L1 (pcN N) (lN N) d) (ref1_Lower_L1 pc lp d) := E.loop (ref1_Lower_L1_ap E) d
theorem ref1_Lower_L1_of {d : ref1_Lower_L1_D} {x : ref1_Lower_L1_X} (h : ref1_Lower_L1_R (pcL prog cfg) lpL (ref1_Lower_L1 (pcL prog cfg) lpL) d = some x) : ref1_Lower_L1 (pcL prog cfg) lpL d = some x := lpL_step (ref1_Lower_L1_ap (appL prog cfg)) h

noncomputable def ref1_Lower_B (pc : PC prog) (lp : LP) (a0 : List Int) : Option (List Int) :=
  ifd ((decide ((List.length a0) ≤ 140737488355328)) = true) (
    bnd (ref1_Lower_L1 pc lp (((), 0, ()), (a0, ()))) (fun (y4 : ((Unit × Unit) × ((List Int) × Unit))) =>
    some y4.2.1)) (
    none)
theorem ref1_Lower_eq (a0 : List Int) (pc : PC prog) (lp : LP) : got ref1_Lower_t (pcall prog (runO prog cfg (hand prog cfg lp pc 6 tbl 5) pc 6) 35 [(.c (.str a0))]) = ref1_Lower_B pc lp a0 := by kernel_rfl
theorem ref1_Lower_ap (E : AppE prog pcN pc lN lp) (a0 : List Int) : Approx (fun N => ref1_Lower_B (pcN N) (lN N) a0) (ref1_Lower_B pc lp a0) := by
  delta ref1_Lower_B
  exact (Approx.ifd (Approx.bnd (ref1_Lower_L1_a E) (fun y4 => (Approx.const _))) Approx.none)
theorem ref1_Lower_of {a0 : List Int} {y : (List Int)} (h : ref1_Lower_B (pcL prog cfg) lpL a0 = some y) : ref1_Lower_c (pcL prog cfg) a0 = some y := fn_of rfl (ref1_Lower_eq a0) (ref1_Lower_ap (appN prog cfg) a0) h

noncomputable def unicode_utf8_word_string__B (pc : PC prog) (lp : LP) (a0 : List Int) : Option Int :=
  ifd ((decide (((0 : Int) ≤ 0) ∧ ((0 : Int) < (((List.length a0) : Nat) : Int)))) = true) (
    ifd ((decide (((0 : Int) ≤ 1) ∧ ((1 : Int) < (((List.length a0) : Nat) : Int)))) = true) (
      ifd ((decide (((0 : Int) ≤ 2) ∧ ((2 : Int) < (((List.length a0) : Nat) : Int)))) = true) (
        ifd ((decide (((0 : Int) ≤ 3) ∧ ((3 : Int) < (((List.length a0) : Nat) : Int)))) = true) (
          ifd ((decide (((0 : Int) ≤ 4) ∧ ((4 : Int) < (((List.length a0) : Nat) : Int)))) = true) (
            ifd ((decide (((0 : Int) ≤ 5) ∧ ((5 : Int) < (((List.length a0) : Nat) : Int)))) = true) (
              ifd ((decide (((0 : Int) ≤ 6) ∧ ((6 : Int) < (((List.length a0) : Nat) : Int)))) = true) (
                ifd ((decide (((0 : Int) ≤ 7) ∧ ((7 : Int) < (((List.length a0) : Nat) : Int)))) = true) (
                  some (ibits .or .u64 (ibits .or .u64 (ibits .or .u64 (ibits .or .u64 (ibits .or .u64 (ibits .or .u64 (ibits .or .u64 (Go.IntKind.wrap .u64 (List.getD a0 (Int.toNat 0) 0)) (Go.IntKind.wrap .u64 ((Go.IntKind.wrap .u64 (List.getD a0 (Int.toNat 1) 0)) * ((2 : Int) ^ (min (Int.toNat 8) 64))))) (Go.IntKind.wrap .u64 ((Go.IntKind.wrap .u64 (List.getD a0 (Int.toNat 2) 0)) * ((2 : Int) ^ (min (Int.toNat 16) 64))))) (Go.IntKind.wrap .u64 ((Go.IntKind.wrap .u64 (List.getD a0 (Int.toNat 3) 0)) * ((2 : Int) ^ (min (Int.toNat 24) 64))))) (Go.IntKind.wrap .u64 ((Go.IntKind.wrap .u64 (List.getD a0 (Int.toNat 4) 0)) * ((2 : Int) ^ (min (Int.toNat 32) 64))))) (Go.IntKind.wrap .u64 ((Go.IntKind.wrap .u64 (List.getD a0 (Int.toNat 5) 0)) * ((2 : Int) ^ (min (Int.toNat 40) 64))))) (Go.IntKind.wrap .u64 ((Go.IntKind.wrap .u64 (List.getD a0 (Int.toNat 6) 0)) * ((2 : Int) ^ (min (Int.toNat 48) 64))))) (Go.IntKind.wrap .u64 ((Go.IntKind.wrap .u64 (List.getD a0 (Int.toNat 7) 0)) * ((2 : Int) ^ (min (Int.toNat 56) 64)))))) (
                  none)) (
                none)) (
              none)) (
            none)) (
          none)) (
        none)) (
      none)) (
    none)
theorem unicode_utf8_word_string__eq (a0 : List Int) (pc : PC prog) (lp : LP) : got unicode_utf8_word_string__t (pcall prog (runO prog cfg (hand prog cfg lp pc 6 tbl 5) pc 6) 36 [(.c (.str a0))]) = unicode_utf8_word_string__B pc lp a0 := by kernel_rfl
theorem unicode_utf8_word_string__ap (E : AppE prog pcN pc lN lp) (a0 : List Int) : Approx (fun N => unicode_utf8_word_string__B (pcN N) (lN N) a0) (unicode_utf8_word_string__B pc lp a0) := by
  delta unicode_utf8_word_string__B
  exact (Approx.ifd (Approx.ifd (Approx.ifd (Approx.ifd (Approx.ifd (Approx.ifd (Approx.ifd (Approx.ifd (Approx.const _) Approx.none) Approx.none) Approx.none) Approx.none) Approx.none) Approx.none) Approx.none) Approx.none)
theorem unicode_utf8_word_string__of {a0 : List Int} {y : Int} (h : unicode_utf8_word_string__B (pcL prog cfg) lpL a0 = some y) : unicode_utf8_word_string__c (pcL prog cfg) a0 = some y := fn_of rfl (unicode_utf8_word_string__eq a0) (unicode_utf8_word_string__ap (appN prog cfg) a0) h

end Go.Proofs.YtklllljgdabheaaDoorSim
