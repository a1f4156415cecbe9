/- The program's functions, as they compute. Printed by wip/gen. -/
import Derived.Test.YtagnebpehdonaaaDoorGen0
namespace Go.Proofs.YtagnebpehdonaaaDoorSim
open Go Go.Proofs
open Go.Proofs.Tryd (prog)
set_option linter.unusedVariables false
set_option linter.unusedSimpArgs false
set_option maxRecDepth 100000

variable {pcN : Nat → PC prog} {pc : PC prog} {lN : Nat → LP} {lp : LP}

noncomputable def law1_GraphemeSplitMatchesSpec_B (pc : PC prog) (lp : LP) (a0 : List Int) : Option Bool :=
  bnd (bnd (law1_graphemeExample_c pc ) fun (x0 : Bool) =>
  some x0) fun (x1 : Bool) =>
  ifd (x1 = true) (
    bnd (bnd (grapheme_Split_c pc a0) fun (x2 : (List (List Int))) =>
    some x2) fun (x3 : (List (List Int))) =>
    bnd (bnd (ref1_Pieces_c pc a0) fun (x4 : (List (List Int))) =>
    some x4) fun (x5 : (List (List Int))) =>
    bnd (bnd (ref1_Strings_c pc x3 x5) fun (x6 : Bool) =>
    some x6) fun (x7 : Bool) =>
    ifd (x1 = true) (
      some x7) (
      some false)) (
    ifd (x1 = true) (
      none) (
      some false))
theorem law1_GraphemeSplitMatchesSpec_eq (a0 : List Int) (pc : PC prog) (lp : LP) : got law1_GraphemeSplitMatchesSpec_t (pcall prog (runO prog cfg (hand prog cfg lp pc 6 tbl 5) pc 6) 3 [(.c (.str a0))]) = law1_GraphemeSplitMatchesSpec_B pc lp a0 := by kernel_rfl
theorem law1_GraphemeSplitMatchesSpec_ap (E : AppE prog pcN pc lN lp) (a0 : List Int) : Approx (fun N => law1_GraphemeSplitMatchesSpec_B (pcN N) (lN N) a0) (law1_GraphemeSplitMatchesSpec_B pc lp a0) := by
  delta law1_GraphemeSplitMatchesSpec_B
  exact (Approx.bnd (Approx.bnd (law1_graphemeExample_ca E) fun x0 => (Approx.const _)) fun x1 => (Approx.ifd (Approx.bnd (Approx.bnd (grapheme_Split_ca E) fun x2 => (Approx.const _)) fun x3 => (Approx.bnd (Approx.bnd (ref1_Pieces_ca E) fun x4 => (Approx.const _)) fun x5 => (Approx.bnd (Approx.bnd (ref1_Strings_ca E) fun x6 => (Approx.const _)) fun x7 => (Approx.ifd (Approx.const _) (Approx.const _))))) (Approx.ifd Approx.none (Approx.const _))))
theorem law1_GraphemeSplitMatchesSpec_of {a0 : List Int} {y : Bool} (h : law1_GraphemeSplitMatchesSpec_B (pcL prog cfg) lpL a0 = some y) : law1_GraphemeSplitMatchesSpec_c (pcL prog cfg) a0 = some y := fn_of rfl (law1_GraphemeSplitMatchesSpec_eq a0) (law1_GraphemeSplitMatchesSpec_ap (appN prog cfg) a0) h

-- law1_GraphemeJoins, loop 250
abbrev law1_GraphemeJoins_L1_D := (((List Int) × ((List (List Int)) × ((List Int) × (Int × Unit)))) × Unit)
abbrev law1_GraphemeJoins_L1_X := (((Bool × Unit) × Unit) ⊕ (((List Int) × ((List Int) × Unit)) × Unit))
noncomputable def law1_GraphemeJoins_L1_R (pc : PC prog) (lp : LP) (ψ : law1_GraphemeJoins_L1_D → Option law1_GraphemeJoins_L1_X) (d : law1_GraphemeJoins_L1_D) : Option law1_GraphemeJoins_L1_X :=
  ifd ((decide (d.1.2.2.2.1 < (((List.length d.1.2.1) : Nat) : Int))) = true) (
    ifd ((decide (((0 : Int) ≤ d.1.2.2.2.1) ∧ (d.1.2.2.2.1 < (((List.length d.1.2.1) : Nat) : Int)))) = true) (
      ifd (((List.getD d.1.2.1 (Int.toNat d.1.2.2.2.1) ([] : List Int)) == ([] : List Int)) = true) (
        some (Sum.inl ((false, ()), ()))) (
        ifd ((decide (((0 : Int) ≤ d.1.2.2.2.1) ∧ (d.1.2.2.2.1 < (((List.length d.1.2.1) : Nat) : Int)))) = true) (
          ifd ((decide (((List.length d.1.2.2.1) + (List.length (List.getD d.1.2.1 (Int.toNat d.1.2.2.2.1) ([] : List Int)))) ≤ 9223372036854775807)) = true) (
            ψ ((d.1.1, d.1.2.1, (d.1.2.2.1 ++ (List.getD d.1.2.1 (Int.toNat d.1.2.2.2.1) ([] : List Int))), (Go.IntKind.wrap .i64 (d.1.2.2.2.1 + 1)), ()), ())) (
            none)) (
          none))) (
      none)) (
    some (Sum.inr ((d.1.1, d.1.2.2.1, ()), ())))
noncomputable def law1_GraphemeJoins_L1 (pc : PC prog) (lp : LP) (d : law1_GraphemeJoins_L1_D) : Option law1_GraphemeJoins_L1_X := lp law1_GraphemeJoins_L1_D law1_GraphemeJoins_L1_X (law1_GraphemeJoins_L1_R pc lp) d
theorem law1_GraphemeJoins_L1_ap (E : AppE prog pcN pc lN lp) : ContR (fun N => law1_GraphemeJoins_L1_R (pcN N) (lN N)) (law1_GraphemeJoins_L1_R pc lp) := fun ψN ψ h d => by
  delta law1_GraphemeJoins_L1_R
  exact (Approx.ifd (Approx.ifd (Approx.ifd (Approx.const _) (Approx.ifd (Approx.ifd (h _) Approx.none) Approx.none)) Approx.none) (Approx.const _))
theorem law1_GraphemeJoins_L1_a (E : AppE prog pcN pc lN lp) {d : law1_GraphemeJoins_L1_D} : Approx (fun N => law1_GraphemeJoins_L1 (pcN N) (lN N) d) (law1_GraphemeJoins_L1 pc lp d) := E.loop (law1_GraphemeJoins_L1_ap E) d
theorem law1_GraphemeJoins_L1_of {d : law1_GraphemeJoins_L1_D} {x : law1_GraphemeJoins_L1_X} (h : law1_GraphemeJoins_L1_R (pcL prog cfg) lpL (law1_GraphemeJoins_L1 (pcL prog cfg) lpL) d = some x) : law1_GraphemeJoins_L1 (pcL prog cfg) lpL d = some x := lpL_step (law1_GraphemeJoins_L1_ap (appL prog cfg)) h

noncomputable def law1_GraphemeJoins_B (pc : PC prog) (lp : LP) (a0 : List Int) : Option Bool :=
  bnd (bnd (law1_graphemeExample_c pc ) fun (x0 : Bool) =>
  some x0) fun (x1 : Bool) =>
  ifd ((!x1) = true) (
    some false) (
    bnd (bnd (grapheme_Split_c pc a0) fun (x2 : (List (List Int))) =>
    some x2) fun (x3 : (List (List Int))) =>
    bnd (law1_GraphemeJoins_L1 pc lp ((a0, x3, ([] : List Int), 0, ()), ())) (Sum.elim (fun (y4 : ((Bool × Unit) × Unit)) =>
    some y4.1.1) (fun (y5 : (((List Int) × ((List Int) × Unit)) × Unit)) =>
    some (y5.1.2.1 == y5.1.1))))
theorem law1_GraphemeJoins_eq (a0 : List Int) (pc : PC prog) (lp : LP) : got law1_GraphemeJoins_t (pcall prog (runO prog cfg (hand prog cfg lp pc 6 tbl 5) pc 6) 4 [(.c (.str a0))]) = law1_GraphemeJoins_B pc lp a0 := by kernel_rfl
theorem law1_GraphemeJoins_ap (E : AppE prog pcN pc lN lp) (a0 : List Int) : Approx (fun N => law1_GraphemeJoins_B (pcN N) (lN N) a0) (law1_GraphemeJoins_B pc lp a0) := by
  delta law1_GraphemeJoins_B
  exact (Approx.bnd (Approx.bnd (law1_graphemeExample_ca E) fun x0 => (Approx.const _)) fun x1 => (Approx.ifd (Approx.const _) (Approx.bnd (Approx.bnd (grapheme_Split_ca E) fun x2 => (Approx.const _)) fun x3 => (Approx.bnd (law1_GraphemeJoins_L1_a E) (Approx.sum (fun y4 => (Approx.const _)) (fun y5 => (Approx.const _)))))))
theorem law1_GraphemeJoins_of {a0 : List Int} {y : Bool} (h : law1_GraphemeJoins_B (pcL prog cfg) lpL a0 = some y) : law1_GraphemeJoins_c (pcL prog cfg) a0 = some y := fn_of rfl (law1_GraphemeJoins_eq a0) (law1_GraphemeJoins_ap (appN prog cfg) a0) h

-- law1_GraphemeCutMatchesSpec, part 122
abbrev law1_GraphemeCutMatchesSpec_C1_D := (((List Int) × (Unit × Unit)) × ((Int × (Int × Unit)) × Unit))
abbrev law1_GraphemeCutMatchesSpec_C1_X := ((Bool × Unit) × ((Int × (Int × Unit)) × Unit))
noncomputable def law1_GraphemeCutMatchesSpec_C1 (pc : PC prog) (lp : LP) (d : law1_GraphemeCutMatchesSpec_C1_D) : Option law1_GraphemeCutMatchesSpec_C1_X :=
  bnd (bnd (ref1_At_c pc 1 (-1)) fun (x6 : (Int × (Int × Unit))) =>
  some (x6.1, (x6.2.1, ()))) fun (x7 : (Int × (Int × Unit))) =>
  ifd (((d.2.1.1 == x7.1) && ((d.2.1.2.1 == x7.2.1) && true)) = true) (
    ifd (((d.2.1.1 == x7.1) && ((d.2.1.2.1 == x7.2.1) && true)) = true) (
      some (((d.1.1 == ([] : List Int)), ()), ((d.2.1.1, d.2.1.2.1, ()), ()))) (
      some ((false, ()), ((d.2.1.1, d.2.1.2.1, ()), ())))) (
    ifd (((d.2.1.1 == x7.1) && ((d.2.1.2.1 == x7.2.1) && true)) = true) (
      none) (
      some ((false, ()), ((d.2.1.1, d.2.1.2.1, ()), ()))))
theorem law1_GraphemeCutMatchesSpec_C1_a (E : AppE prog pcN pc lN lp) {d : law1_GraphemeCutMatchesSpec_C1_D} : Approx (fun N => law1_GraphemeCutMatchesSpec_C1 (pcN N) (lN N) d) (law1_GraphemeCutMatchesSpec_C1 pc lp d) := by
  delta law1_GraphemeCutMatchesSpec_C1
  exact (Approx.bnd (Approx.bnd (ref1_At_ca E) fun x6 => (Approx.const _)) fun x7 => (Approx.ifd (Approx.ifd (Approx.const _) (Approx.const _)) (Approx.ifd Approx.none (Approx.const _))))

-- law1_GraphemeCutMatchesSpec, part 250
abbrev law1_GraphemeCutMatchesSpec_C2_D := (((List Int) × (Unit × Unit)) × ((Int × (Int × Unit)) × Unit))
abbrev law1_GraphemeCutMatchesSpec_C2_X := ((Bool × Unit) × ((Int × (Int × Unit)) × Unit))
noncomputable def law1_GraphemeCutMatchesSpec_C2 (pc : PC prog) (lp : LP) (d : law1_GraphemeCutMatchesSpec_C2_D) : Option law1_GraphemeCutMatchesSpec_C2_X :=
  bnd (bnd (ref1_At_c pc 3 (-2)) fun (x11 : (Int × (Int × Unit))) =>
  some (x11.1, (x11.2.1, ()))) fun (x12 : (Int × (Int × Unit))) =>
  ifd (((d.2.1.1 == x12.1) && ((d.2.1.2.1 == x12.2.1) && true)) = true) (
    ifd (((d.2.1.1 == x12.1) && ((d.2.1.2.1 == x12.2.1) && true)) = true) (
      some (((d.1.1 == ([] : List Int)), ()), ((d.2.1.1, d.2.1.2.1, ()), ()))) (
      some ((false, ()), ((d.2.1.1, d.2.1.2.1, ()), ())))) (
    ifd (((d.2.1.1 == x12.1) && ((d.2.1.2.1 == x12.2.1) && true)) = true) (
      none) (
      some ((false, ()), ((d.2.1.1, d.2.1.2.1, ()), ()))))
theorem law1_GraphemeCutMatchesSpec_C2_a (E : AppE prog pcN pc lN lp) {d : law1_GraphemeCutMatchesSpec_C2_D} : Approx (fun N => law1_GraphemeCutMatchesSpec_C2 (pcN N) (lN N) d) (law1_GraphemeCutMatchesSpec_C2 pc lp d) := by
  delta law1_GraphemeCutMatchesSpec_C2
  exact (Approx.bnd (Approx.bnd (ref1_At_ca E) fun x11 => (Approx.const _)) fun x12 => (Approx.ifd (Approx.ifd (Approx.const _) (Approx.const _)) (Approx.ifd Approx.none (Approx.const _))))

-- law1_GraphemeCutMatchesSpec, loop 2042
abbrev law1_GraphemeCutMatchesSpec_L3_D := ((Int × ((List Int) × (Unit × ((List (List Int)) × ((List Int) × (Int × Unit)))))) × ((Int × (Int × Unit)) × Unit))
abbrev law1_GraphemeCutMatchesSpec_L3_X := (((List Int) × (Unit × ((List Int) × Unit))) × ((Int × (Int × Unit)) × Unit))
noncomputable def law1_GraphemeCutMatchesSpec_L3_R (pc : PC prog) (lp : LP) (ψ : law1_GraphemeCutMatchesSpec_L3_D → Option law1_GraphemeCutMatchesSpec_L3_X) (d : law1_GraphemeCutMatchesSpec_L3_D) : Option law1_GraphemeCutMatchesSpec_L3_X :=
  ifd ((decide (d.1.2.2.2.2.2.1 < (((List.length d.1.2.2.2.1) : Nat) : Int))) = true) (
    ifd ((decide (((0 : Int) ≤ d.1.2.2.2.2.2.1) ∧ (d.1.2.2.2.2.2.1 < (((List.length d.1.2.2.2.1) : Nat) : Int)))) = true) (
      ifd ((decide (d.1.2.2.2.2.2.1 < (((List.length d.1.2.2.2.1) : Nat) : Int))) = true) (
        ifd ((decide ((Go.IntKind.wrap .i64 ((((List.length d.1.2.2.2.2.1) : Nat) : Int) + (((List.length (List.getD d.1.2.2.2.1 (Int.toNat d.1.2.2.2.2.2.1) ([] : List Int))) : Nat) : Int))) ≤ d.1.1)) = true) (
          ifd ((decide (((0 : Int) ≤ d.1.2.2.2.2.2.1) ∧ (d.1.2.2.2.2.2.1 < (((List.length d.1.2.2.2.1) : Nat) : Int)))) = true) (
            ifd ((decide (((List.length d.1.2.2.2.2.1) + (List.length (List.getD d.1.2.2.2.1 (Int.toNat d.1.2.2.2.2.2.1) ([] : List Int)))) ≤ 9223372036854775807)) = true) (
              ψ ((d.1.1, d.1.2.1, (), d.1.2.2.2.1, (d.1.2.2.2.2.1 ++ (List.getD d.1.2.2.2.1 (Int.toNat d.1.2.2.2.2.2.1) ([] : List Int))), (Go.IntKind.wrap .i64 (d.1.2.2.2.2.2.1 + 1)), ()), ((d.2.1.1, d.2.1.2.1, ()), ()))) (
              none)) (
            none)) (
          some ((d.1.2.1, (), d.1.2.2.2.2.1, ()), ((d.2.1.1, d.2.1.2.1, ()), ())))) (
        some ((d.1.2.1, (), d.1.2.2.2.2.1, ()), ((d.2.1.1, d.2.1.2.1, ()), ())))) (
      none)) (
    ifd ((decide (d.1.2.2.2.2.2.1 < (((List.length d.1.2.2.2.1) : Nat) : Int))) = true) (
      none) (
      some ((d.1.2.1, (), d.1.2.2.2.2.1, ()), ((d.2.1.1, d.2.1.2.1, ()), ()))))
noncomputable def law1_GraphemeCutMatchesSpec_L3 (pc : PC prog) (lp : LP) (d : law1_GraphemeCutMatchesSpec_L3_D) : Option law1_GraphemeCutMatchesSpec_L3_X := lp law1_GraphemeCutMatchesSpec_L3_D law1_GraphemeCutMatchesSpec_L3_X (law1_GraphemeCutMatchesSpec_L3_R pc lp) d
theorem law1_GraphemeCutMatchesSpec_L3_ap (E : AppE prog pcN pc lN lp) : ContR (fun N => law1_GraphemeCutMatchesSpec_L3_R (pcN N) (lN N)) (law1_GraphemeCutMatchesSpec_L3_R pc lp) := fun ψN ψ h d => by
  delta law1_GraphemeCutMatchesSpec_L3_R
  exact (Approx.ifd (Approx.ifd (Approx.ifd (Approx.ifd (Approx.ifd (Approx.ifd (h _) Approx.none) Approx.none) (Approx.const _)) (Approx.const _)) Approx.none) (Approx.ifd Approx.none (Approx.const _)))
theorem law1_GraphemeCutMatchesSpec_L3_a (E : AppE prog pcN pc lN lp) {d : law1_GraphemeCutMatchesSpec_L3_D} : Approx (fun N => law1_GraphemeCutMatchesSpec_L3 (pcN N) (lN N) d) (law1_GraphemeCutMatchesSpec_L3 pc lp d) := E.loop (law1_GraphemeCutMatchesSpec_L3_ap E) d
theorem law1_GraphemeCutMatchesSpec_L3_of {d : law1_GraphemeCutMatchesSpec_L3_D} {x : law1_GraphemeCutMatchesSpec_L3_X} (h : law1_GraphemeCutMatchesSpec_L3_R (pcL prog cfg) lpL (law1_GraphemeCutMatchesSpec_L3 (pcL prog cfg) lpL) d = some x) : law1_GraphemeCutMatchesSpec_L3 (pcL prog cfg) lpL d = some x := lpL_step (law1_GraphemeCutMatchesSpec_L3_ap (appL prog cfg)) h

noncomputable def law1_GraphemeCutMatchesSpec_B (pc : PC prog) (lp : LP) (a0 : List Int) (a1 : Int) : Option Bool :=
  bnd (bnd (law1_graphemeExample_c pc ) fun (x0 : Bool) =>
  some x0) fun (x1 : Bool) =>
  ifd ((!x1) = true) (
    some false) (
    bnd (bnd (grapheme_Cut_c pc a0 a1) fun (x2 : ((List Int) × ((Int × (Int × Unit)) × Unit))) =>
    some (x2.1, ((x2.2.1.1, (x2.2.1.2.1, ())), ()))) fun (x3 : ((List Int) × ((Int × (Int × Unit)) × Unit))) =>
    ifd ((decide ((((List.length a0) : Nat) : Int) > 12000)) = true) (
      bnd (law1_GraphemeCutMatchesSpec_C1 pc lp ((x3.1, (), ()), ((x3.2.1.1, x3.2.1.2.1, ()), ()))) (fun (y8 : ((Bool × Unit) × ((Int × (Int × Unit)) × Unit))) =>
      some y8.1.1)) (
      ifd ((decide (a1 < 0)) = true) (
        bnd (law1_GraphemeCutMatchesSpec_C2 pc lp ((x3.1, (), ()), ((x3.2.1.1, x3.2.1.2.1, ()), ()))) (fun (y13 : ((Bool × Unit) × ((Int × (Int × Unit)) × Unit))) =>
        some y13.1.1)) (
        bnd (bnd (ref1_Pieces_c pc a0) fun (x14 : (List (List Int))) =>
        some x14) fun (x15 : (List (List Int))) =>
        bnd (law1_GraphemeCutMatchesSpec_L3 pc lp ((a1, x3.1, (), x15, ([] : List Int), 0, ()), ((x3.2.1.1, x3.2.1.2.1, ()), ()))) (fun (y16 : (((List Int) × (Unit × ((List Int) × Unit))) × ((Int × (Int × Unit)) × Unit))) =>
        ifd ((y16.2.1.1 == 0) = true) (
          ifd ((y16.2.1.1 == 0) = true) (
            some (y16.1.1 == y16.1.2.2.1)) (
            some false)) (
          ifd ((y16.2.1.1 == 0) = true) (
            none) (
            some false))))))
theorem law1_GraphemeCutMatchesSpec_eq (a0 : List Int) (a1 : Int) (pc : PC prog) (lp : LP) : got law1_GraphemeCutMatchesSpec_t (pcall prog (runO prog cfg (hand prog cfg lp pc 6 tbl 5) pc 6) 5 [(.c (.str a0)), (.c (.int .i64 a1))]) = law1_GraphemeCutMatchesSpec_B pc lp a0 a1 := by kernel_rfl
theorem law1_GraphemeCutMatchesSpec_ap (E : AppE prog pcN pc lN lp) (a0 : List Int) (a1 : Int) : Approx (fun N => law1_GraphemeCutMatchesSpec_B (pcN N) (lN N) a0 a1) (law1_GraphemeCutMatchesSpec_B pc lp a0 a1) := by
  delta law1_GraphemeCutMatchesSpec_B
  exact (Approx.bnd (Approx.bnd (law1_graphemeExample_ca E) fun x0 => (Approx.const _)) fun x1 => (Approx.ifd (Approx.const _) (Approx.bnd (Approx.bnd (grapheme_Cut_ca E) fun x2 => (Approx.const _)) fun x3 => (Approx.ifd (Approx.bnd (law1_GraphemeCutMatchesSpec_C1_a E) (fun y8 => (Approx.const _))) (Approx.ifd (Approx.bnd (law1_GraphemeCutMatchesSpec_C2_a E) (fun y13 => (Approx.const _))) (Approx.bnd (Approx.bnd (ref1_Pieces_ca E) fun x14 => (Approx.const _)) fun x15 => (Approx.bnd (law1_GraphemeCutMatchesSpec_L3_a E) (fun y16 => (Approx.ifd (Approx.ifd (Approx.const _) (Approx.const _)) (Approx.ifd Approx.none (Approx.const _)))))))))))
theorem law1_GraphemeCutMatchesSpec_of {a0 : List Int} {a1 : Int} {y : Bool} (h : law1_GraphemeCutMatchesSpec_B (pcL prog cfg) lpL a0 a1 = some y) : law1_GraphemeCutMatchesSpec_c (pcL prog cfg) a0 a1 = some y := fn_of rfl (law1_GraphemeCutMatchesSpec_eq a0 a1) (law1_GraphemeCutMatchesSpec_ap (appN prog cfg) a0 a1) h

noncomputable def law1_GraphemeWidthMatchesSpec_B (pc : PC prog) (lp : LP) (a0 : List Int) : Option Bool :=
  bnd (bnd (law1_graphemeExample_c pc ) fun (x0 : Bool) =>
  some x0) fun (x1 : Bool) =>
  ifd (x1 = true) (
    bnd (bnd (grapheme_Width_c pc a0) fun (x2 : Int) =>
    some x2) fun (x3 : Int) =>
    bnd (bnd (ref1_Columns_c pc a0) fun (x4 : Int) =>
    some x4) fun (x5 : Int) =>
    ifd (x1 = true) (
      some (x3 == x5)) (
      some false)) (
    ifd (x1 = true) (
      none) (
      some false))
theorem law1_GraphemeWidthMatchesSpec_eq (a0 : List Int) (pc : PC prog) (lp : LP) : got law1_GraphemeWidthMatchesSpec_t (pcall prog (runO prog cfg (hand prog cfg lp pc 6 tbl 5) pc 6) 6 [(.c (.str a0))]) = law1_GraphemeWidthMatchesSpec_B pc lp a0 := by kernel_rfl
theorem law1_GraphemeWidthMatchesSpec_ap (E : AppE prog pcN pc lN lp) (a0 : List Int) : Approx (fun N => law1_GraphemeWidthMatchesSpec_B (pcN N) (lN N) a0) (law1_GraphemeWidthMatchesSpec_B pc lp a0) := by
  delta law1_GraphemeWidthMatchesSpec_B
  exact (Approx.bnd (Approx.bnd (law1_graphemeExample_ca E) fun x0 => (Approx.const _)) fun x1 => (Approx.ifd (Approx.bnd (Approx.bnd (grapheme_Width_ca E) fun x2 => (Approx.const _)) fun x3 => (Approx.bnd (Approx.bnd (ref1_Columns_ca E) fun x4 => (Approx.const _)) fun x5 => (Approx.ifd (Approx.const _) (Approx.const _)))) (Approx.ifd Approx.none (Approx.const _))))
theorem law1_GraphemeWidthMatchesSpec_of {a0 : List Int} {y : Bool} (h : law1_GraphemeWidthMatchesSpec_B (pcL prog cfg) lpL a0 = some y) : law1_GraphemeWidthMatchesSpec_c (pcL prog cfg) a0 = some y := fn_of rfl (law1_GraphemeWidthMatchesSpec_eq a0) (law1_GraphemeWidthMatchesSpec_ap (appN prog cfg) a0) h

-- law1_GraphemeCutTwice, part 62
abbrev law1_GraphemeCutTwice_C1_D := (((List Int) × ((List Int) × Unit)) × ((Int × (Int × Unit)) × Unit))
abbrev law1_GraphemeCutTwice_C1_X := (((List Int) × ((List Int) × (Bool × Unit))) × ((Int × (Int × Unit)) × Unit))
noncomputable def law1_GraphemeCutTwice_C1 (pc : PC prog) (lp : LP) (d : law1_GraphemeCutTwice_C1_D) : Option law1_GraphemeCutTwice_C1_X :=
  ifd ((decide ((((List.length d.1.2.1) : Nat) : Int) > (((List.length d.1.1) : Nat) : Int))) = true) (
    ifd ((decide ((((List.length d.1.2.1) : Nat) : Int) > (((List.length d.1.1) : Nat) : Int))) = true) (
      some ((d.1.1, d.1.2.1, true, ()), ((d.2.1.1, d.2.1.2.1, ()), ()))) (
      none)) (
    ifd ((decide (((0 : Int) ≤ 0) ∧ (((0 : Int) ≤ (((List.length d.1.2.1) : Nat) : Int)) ∧ ((((List.length d.1.2.1) : Nat) : Int) ≤ (((List.length d.1.1) : Nat) : Int))))) = true) (
      ifd ((decide ((((List.length d.1.2.1) : Nat) : Int) > (((List.length d.1.1) : Nat) : Int))) = true) (
        some ((d.1.1, d.1.2.1, true, ()), ((d.2.1.1, d.2.1.2.1, ()), ()))) (
        some ((d.1.1, d.1.2.1, (!((List.drop (Int.toNat 0) (List.take (Int.toNat (((List.length d.1.2.1) : Nat) : Int)) d.1.1)) == d.1.2.1)), ()), ((d.2.1.1, d.2.1.2.1, ()), ())))) (
      none))
theorem law1_GraphemeCutTwice_C1_a (E : AppE prog pcN pc lN lp) {d : law1_GraphemeCutTwice_C1_D} : Approx (fun N => law1_GraphemeCutTwice_C1 (pcN N) (lN N) d) (law1_GraphemeCutTwice_C1 pc lp d) := by
  delta law1_GraphemeCutTwice_C1
  exact (Approx.ifd (Approx.ifd (Approx.const _) Approx.none) (Approx.ifd (Approx.ifd (Approx.const _) (Approx.const _)) Approx.none))

noncomputable def law1_GraphemeCutTwice_B (pc : PC prog) (lp : LP) (a0 : List Int) (a1 : Int) : Option Bool :=
  bnd (bnd (law1_graphemeExample_c pc ) fun (x0 : Bool) =>
  some x0) fun (x1 : Bool) =>
  ifd ((!x1) = true) (
    some false) (
    bnd (bnd (grapheme_Cut_c pc a0 a1) fun (x2 : ((List Int) × ((Int × (Int × Unit)) × Unit))) =>
    some (x2.1, ((x2.2.1.1, (x2.2.1.2.1, ())), ()))) fun (x3 : ((List Int) × ((Int × (Int × Unit)) × Unit))) =>
    ifd ((x3.2.1.1 != 0) = true) (
      some (x3.1 == ([] : List Int))) (
      bnd (law1_GraphemeCutTwice_C1 pc lp ((a0, x3.1, ()), ((x3.2.1.1, x3.2.1.2.1, ()), ()))) (fun (y4 : (((List Int) × ((List Int) × (Bool × Unit))) × ((Int × (Int × Unit)) × Unit))) =>
      ifd (y4.1.2.2.1 = true) (
        some false) (
        ifd ((decide (((0 : Int) ≤ (((List.length y4.1.2.1) : Nat) : Int)) ∧ (((((List.length y4.1.2.1) : Nat) : Int) ≤ (((List.length y4.1.1) : Nat) : Int)) ∧ ((((List.length y4.1.1) : Nat) : Int) ≤ (((List.length y4.1.1) : Nat) : Int))))) = true) (
          bnd (bnd (grapheme_Split_c pc y4.1.2.1) fun (x5 : (List (List Int))) =>
          some x5) fun (x6 : (List (List Int))) =>
          ifd ((decide ((((List.length ([] : List (List Int))) + (List.length x6)) * 16) ≤ 140737488355328)) = true) (
            bnd (bnd (grapheme_Split_c pc (List.drop (Int.toNat (((List.length y4.1.2.1) : Nat) : Int)) (List.take (Int.toNat (((List.length y4.1.1) : Nat) : Int)) y4.1.1))) fun (x7 : (List (List Int))) =>
            some x7) fun (x8 : (List (List Int))) =>
            ifd ((decide ((((List.length (([] : List (List Int)) ++ x6)) + (List.length x8)) * 16) ≤ 140737488355328)) = true) (
              bnd (bnd (grapheme_Split_c pc y4.1.1) fun (x9 : (List (List Int))) =>
              some x9) fun (x10 : (List (List Int))) =>
              bnd (bnd (ref1_Strings_c pc ((([] : List (List Int)) ++ x6) ++ x8) x10) fun (x11 : Bool) =>
              some x11) fun (x12 : Bool) =>
              ifd (x12 = true) (
                bnd (bnd (grapheme_Width_c pc y4.1.2.1) fun (x13 : Int) =>
                some x13) fun (x14 : Int) =>
                bnd (bnd (grapheme_Width_c pc (List.drop (Int.toNat (((List.length y4.1.2.1) : Nat) : Int)) (List.take (Int.toNat (((List.length y4.1.1) : Nat) : Int)) y4.1.1))) fun (x15 : Int) =>
                some x15) fun (x16 : Int) =>
                bnd (bnd (grapheme_Width_c pc y4.1.1) fun (x17 : Int) =>
                some x17) fun (x18 : Int) =>
                ifd (x12 = true) (
                  some ((Go.IntKind.wrap .i64 (x14 + x16)) == x18)) (
                  some false)) (
                ifd (x12 = true) (
                  none) (
                  some false))) (
              none)) (
            none)) (
          none)))))
theorem law1_GraphemeCutTwice_eq (a0 : List Int) (a1 : Int) (pc : PC prog) (lp : LP) : got law1_GraphemeCutTwice_t (pcall prog (runO prog cfg (hand prog cfg lp pc 6 tbl 5) pc 6) 7 [(.c (.str a0)), (.c (.int .i64 a1))]) = law1_GraphemeCutTwice_B pc lp a0 a1 := by kernel_rfl
theorem law1_GraphemeCutTwice_ap (E : AppE prog pcN pc lN lp) (a0 : List Int) (a1 : Int) : Approx (fun N => law1_GraphemeCutTwice_B (pcN N) (lN N) a0 a1) (law1_GraphemeCutTwice_B pc lp a0 a1) := by
  delta law1_GraphemeCutTwice_B
  exact (Approx.bnd (Approx.bnd (law1_graphemeExample_ca E) fun x0 => (Approx.const _)) fun x1 => (Approx.ifd (Approx.const _) (Approx.bnd (Approx.bnd (grapheme_Cut_ca E) fun x2 => (Approx.const _)) fun x3 => (Approx.ifd (Approx.const _) (Approx.bnd (law1_GraphemeCutTwice_C1_a E) (fun y4 => (Approx.ifd (Approx.const _) (Approx.ifd (Approx.bnd (Approx.bnd (grapheme_Split_ca E) fun x5 => (Approx.const _)) fun x6 => (Approx.ifd (Approx.bnd (Approx.bnd (grapheme_Split_ca E) fun x7 => (Approx.const _)) fun x8 => (Approx.ifd (Approx.bnd (Approx.bnd (grapheme_Split_ca E) fun x9 => (Approx.const _)) fun x10 => (Approx.bnd (Approx.bnd (ref1_Strings_ca E) fun x11 => (Approx.const _)) fun x12 => (Approx.ifd (Approx.bnd (Approx.bnd (grapheme_Width_ca E) fun x13 => (Approx.const _)) fun x14 => (Approx.bnd (Approx.bnd (grapheme_Width_ca E) fun x15 => (Approx.const _)) fun x16 => (Approx.bnd (Approx.bnd (grapheme_Width_ca E) fun x17 => (Approx.const _)) fun x18 => (Approx.ifd (Approx.const _) (Approx.const _))))) (Approx.ifd Approx.none (Approx.const _))))) Approx.none)) Approx.none)) Approx.none))))))))
theorem law1_GraphemeCutTwice_of {a0 : List Int} {a1 : Int} {y : Bool} (h : law1_GraphemeCutTwice_B (pcL prog cfg) lpL a0 a1 = some y) : law1_GraphemeCutTwice_c (pcL prog cfg) a0 a1 = some y := fn_of rfl (law1_GraphemeCutTwice_eq a0 a1) (law1_GraphemeCutTwice_ap (appN prog cfg) a0 a1) h

noncomputable def law1_graphemeExample_B (pc : PC prog) (lp : LP)  : Option Bool :=
  bnd (bnd (grapheme_Split_c pc ([101, 204, 129, 120] : List Int)) fun (x0 : (List (List Int))) =>
  some x0) fun (x1 : (List (List Int))) =>
  bnd (bnd (grapheme_Cut_c pc ([101, 204, 129, 120] : List Int) 2) fun (x2 : ((List Int) × ((Int × (Int × Unit)) × Unit))) =>
  some (x2.1, ((x2.2.1.1, (x2.2.1.2.1, ())), ()))) fun (x3 : ((List Int) × ((Int × (Int × Unit)) × Unit))) =>
  ifd (((((List.length x1) : Nat) : Int) == 2) = true) (
    ifd ((decide (((0 : Int) ≤ 1) ∧ ((1 : Int) < (((List.length x1) : Nat) : Int)))) = true) (
      ifd (((((List.length x1) : Nat) : Int) == 2) = true) (
        ifd (((List.getD x1 (Int.toNat 1) ([] : List Int)) == ([120] : List Int)) = true) (
          ifd (((List.getD x1 (Int.toNat 1) ([] : List Int)) == ([120] : List Int)) = true) (
            ifd ((x3.2.1.1 == 0) = true) (
              ifd ((x3.2.1.1 == 0) = true) (
                ifd ((x3.1 == ([] : List Int)) = true) (
                  bnd (bnd (grapheme_Width_c pc ([97, 98] : List Int)) fun (x4 : Int) =>
                  some x4) fun (x5 : Int) =>
                  ifd ((x3.1 == ([] : List Int)) = true) (
                    some (x5 == 2)) (
                    some false)) (
                  ifd ((x3.1 == ([] : List Int)) = true) (
                    none) (
                    some false))) (
                some false)) (
              ifd ((x3.2.1.1 == 0) = true) (
                none) (
                some false))) (
            some false)) (
          ifd (((List.getD x1 (Int.toNat 1) ([] : List Int)) == ([120] : List Int)) = true) (
            none) (
            some false))) (
        some false)) (
      none)) (
    ifd (((((List.length x1) : Nat) : Int) == 2) = true) (
      none) (
      some false))
theorem law1_graphemeExample_eq  (pc : PC prog) (lp : LP) : got law1_graphemeExample_t (pcall prog (runO prog cfg (hand prog cfg lp pc 6 tbl 5) pc 6) 8 []) = law1_graphemeExample_B pc lp  := by kernel_rfl
theorem law1_graphemeExample_ap (E : AppE prog pcN pc lN lp)  : Approx (fun N => law1_graphemeExample_B (pcN N) (lN N) ) (law1_graphemeExample_B pc lp ) := by
  delta law1_graphemeExample_B
  exact (Approx.bnd (Approx.bnd (grapheme_Split_ca E) fun x0 => (Approx.const _)) fun x1 => (Approx.bnd (Approx.bnd (grapheme_Cut_ca E) fun x2 => (Approx.const _)) fun x3 => (Approx.ifd (Approx.ifd (Approx.ifd (Approx.ifd (Approx.ifd (Approx.ifd (Approx.ifd (Approx.ifd (Approx.bnd (Approx.bnd (grapheme_Width_ca E) fun x4 => (Approx.const _)) fun x5 => (Approx.ifd (Approx.const _) (Approx.const _))) (Approx.ifd Approx.none (Approx.const _))) (Approx.const _)) (Approx.ifd Approx.none (Approx.const _))) (Approx.const _)) (Approx.ifd Approx.none (Approx.const _))) (Approx.const _)) Approx.none) (Approx.ifd Approx.none (Approx.const _)))))
theorem law1_graphemeExample_of  {y : Bool} (h : law1_graphemeExample_B (pcL prog cfg) lpL  = some y) : law1_graphemeExample_c (pcL prog cfg)  = some y := fn_of rfl (law1_graphemeExample_eq ) (law1_graphemeExample_ap (appN prog cfg) ) h

-- grapheme_All_1, part 933
abbrev grapheme_Split_C1_D := ((Unit × (Unit × (Int × (Unit × (Int × (Int × (Int × Unit))))))) × ((Unit × Unit) × (((List Int) × Unit) × ((Unit × Unit) × ((Int × (Bool × (Int × Unit))) × Unit)))))
abbrev grapheme_Split_C1_X := ((Unit × (Unit × (Int × (Unit × (Int × (Int × (Int × (Bool × Unit)))))))) × ((Unit × Unit) × (((List Int) × Unit) × ((Unit × Unit) × ((Int × (Bool × (Int × Unit))) × Unit)))))
noncomputable def grapheme_Split_C1 (pc : PC prog) (lp : LP) (d : grapheme_Split_C1_D) : Option grapheme_Split_C1_X :=
  ifd ((d.1.2.2.2.2.2.1 == 65533) = true) (
    ifd ((d.1.2.2.2.2.2.1 == 65533) = true) (
      some (((), (), d.1.2.2.1, (), d.1.2.2.2.2.1, d.1.2.2.2.2.2.1, d.1.2.2.2.2.2.2.1, (d.1.2.2.2.2.2.2.1 == 1), ()), (((), ()), (d.2.2.1.1, ()), ((), ()), (d.2.2.2.2.1.1, d.2.2.2.2.1.2.1, d.2.2.2.2.1.2.2.1, ()), ()))) (
      some (((), (), d.1.2.2.1, (), d.1.2.2.2.2.1, d.1.2.2.2.2.2.1, d.1.2.2.2.2.2.2.1, false, ()), (((), ()), (d.2.2.1.1, ()), ((), ()), (d.2.2.2.2.1.1, d.2.2.2.2.1.2.1, d.2.2.2.2.1.2.2.1, ()), ())))) (
    ifd ((d.1.2.2.2.2.2.1 == 65533) = true) (
      none) (
      some (((), (), d.1.2.2.1, (), d.1.2.2.2.2.1, d.1.2.2.2.2.2.1, d.1.2.2.2.2.2.2.1, false, ()), (((), ()), (d.2.2.1.1, ()), ((), ()), (d.2.2.2.2.1.1, d.2.2.2.2.1.2.1, d.2.2.2.2.1.2.2.1, ()), ()))))
theorem grapheme_Split_C1_a (E : AppE prog pcN pc lN lp) {d : grapheme_Split_C1_D} : Approx (fun N => grapheme_Split_C1 (pcN N) (lN N) d) (grapheme_Split_C1 pc lp d) := by
  delta grapheme_Split_C1
  exact (Approx.ifd (Approx.ifd (Approx.const _) (Approx.const _)) (Approx.ifd Approx.none (Approx.const _)))

-- grapheme_All_1, part 7470
abbrev grapheme_Split_C2_D := ((Unit × (Unit × (Int × (Unit × (Int × (Int × (Bool × (Int × Unit)))))))) × ((Unit × Unit) × (((List Int) × Unit) × ((Unit × Unit) × ((Int × (Bool × (Int × Unit))) × Unit)))))
abbrev grapheme_Split_C2_X := ((Unit × (Unit × (Int × (Unit × (Int × (Int × (Bool × (Int × (Bool × Unit))))))))) × ((Unit × Unit) × (((List Int) × Unit) × ((Unit × Unit) × ((Int × (Bool × (Int × Unit))) × Unit)))))
noncomputable def grapheme_Split_C2 (pc : PC prog) (lp : LP) (d : grapheme_Split_C2_D) : Option grapheme_Split_C2_X :=
  ifd ((decide (d.1.2.2.2.2.1 > d.1.2.2.1)) = true) (
    ifd (d.1.2.2.2.2.2.2.1 = true) (
      ifd ((decide (d.1.2.2.2.2.1 > d.1.2.2.1)) = true) (
        ifd (d.1.2.2.2.2.2.2.1 = true) (
          ifd ((decide (d.1.2.2.2.2.1 > d.1.2.2.1)) = true) (
            some (((), (), d.1.2.2.1, (), d.1.2.2.2.2.1, d.1.2.2.2.2.2.1, d.1.2.2.2.2.2.2.1, d.1.2.2.2.2.2.2.2.1, true, ()), (((), ()), (d.2.2.1.1, ()), ((), ()), (d.2.2.2.2.1.1, d.2.2.2.2.1.2.1, d.2.2.2.2.1.2.2.1, ()), ()))) (
            some (((), (), d.1.2.2.1, (), d.1.2.2.2.2.1, d.1.2.2.2.2.2.1, d.1.2.2.2.2.2.2.1, d.1.2.2.2.2.2.2.2.1, false, ()), (((), ()), (d.2.2.1.1, ()), ((), ()), (d.2.2.2.2.1.1, d.2.2.2.2.1.2.1, d.2.2.2.2.1.2.2.1, ()), ())))) (
          ifd ((decide (d.1.2.2.2.2.1 > d.1.2.2.1)) = true) (
            none) (
            some (((), (), d.1.2.2.1, (), d.1.2.2.2.2.1, d.1.2.2.2.2.2.1, d.1.2.2.2.2.2.2.1, d.1.2.2.2.2.2.2.2.1, false, ()), (((), ()), (d.2.2.1.1, ()), ((), ()), (d.2.2.2.2.1.1, d.2.2.2.2.1.2.1, d.2.2.2.2.1.2.2.1, ()), ()))))) (
        ifd ((decide (d.1.2.2.2.2.1 > d.1.2.2.1)) = true) (
          none) (
          some (((), (), d.1.2.2.1, (), d.1.2.2.2.2.1, d.1.2.2.2.2.2.1, d.1.2.2.2.2.2.2.1, d.1.2.2.2.2.2.2.2.1, false, ()), (((), ()), (d.2.2.1.1, ()), ((), ()), (d.2.2.2.2.1.1, d.2.2.2.2.1.2.1, d.2.2.2.2.1.2.2.1, ()), ()))))) (
      bnd (bnd (grapheme_state_joins_c pc d.2.2.2.2.1.1 d.2.2.2.2.1.2.1 d.2.2.2.2.1.2.2.1 d.1.2.2.2.2.2.2.2.1) fun (x9 : Bool) =>
      some x9) fun (x10 : Bool) =>
      ifd ((decide (d.1.2.2.2.2.1 > d.1.2.2.1)) = true) (
        ifd (d.1.2.2.2.2.2.2.1 = true) (
          ifd ((decide (d.1.2.2.2.2.1 > d.1.2.2.1)) = true) (
            some (((), (), d.1.2.2.1, (), d.1.2.2.2.2.1, d.1.2.2.2.2.2.1, d.1.2.2.2.2.2.2.1, d.1.2.2.2.2.2.2.2.1, true, ()), (((), ()), (d.2.2.1.1, ()), ((), ()), (d.2.2.2.2.1.1, d.2.2.2.2.1.2.1, d.2.2.2.2.1.2.2.1, ()), ()))) (
            some (((), (), d.1.2.2.1, (), d.1.2.2.2.2.1, d.1.2.2.2.2.2.1, d.1.2.2.2.2.2.2.1, d.1.2.2.2.2.2.2.2.1, false, ()), (((), ()), (d.2.2.1.1, ()), ((), ()), (d.2.2.2.2.1.1, d.2.2.2.2.1.2.1, d.2.2.2.2.1.2.2.1, ()), ())))) (
          ifd ((decide (d.1.2.2.2.2.1 > d.1.2.2.1)) = true) (
            some (((), (), d.1.2.2.1, (), d.1.2.2.2.2.1, d.1.2.2.2.2.2.1, d.1.2.2.2.2.2.2.1, d.1.2.2.2.2.2.2.2.1, (!x10), ()), (((), ()), (d.2.2.1.1, ()), ((), ()), (d.2.2.2.2.1.1, d.2.2.2.2.1.2.1, d.2.2.2.2.1.2.2.1, ()), ()))) (
            some (((), (), d.1.2.2.1, (), d.1.2.2.2.2.1, d.1.2.2.2.2.2.1, d.1.2.2.2.2.2.2.1, d.1.2.2.2.2.2.2.2.1, false, ()), (((), ()), (d.2.2.1.1, ()), ((), ()), (d.2.2.2.2.1.1, d.2.2.2.2.1.2.1, d.2.2.2.2.1.2.2.1, ()), ()))))) (
        ifd ((decide (d.1.2.2.2.2.1 > d.1.2.2.1)) = true) (
          none) (
          some (((), (), d.1.2.2.1, (), d.1.2.2.2.2.1, d.1.2.2.2.2.2.1, d.1.2.2.2.2.2.2.1, d.1.2.2.2.2.2.2.2.1, false, ()), (((), ()), (d.2.2.1.1, ()), ((), ()), (d.2.2.2.2.1.1, d.2.2.2.2.1.2.1, d.2.2.2.2.1.2.2.1, ()), ())))))) (
    ifd ((decide (d.1.2.2.2.2.1 > d.1.2.2.1)) = true) (
      none) (
      ifd ((decide (d.1.2.2.2.2.1 > d.1.2.2.1)) = true) (
        none) (
        some (((), (), d.1.2.2.1, (), d.1.2.2.2.2.1, d.1.2.2.2.2.2.1, d.1.2.2.2.2.2.2.1, d.1.2.2.2.2.2.2.2.1, false, ()), (((), ()), (d.2.2.1.1, ()), ((), ()), (d.2.2.2.2.1.1, d.2.2.2.2.1.2.1, d.2.2.2.2.1.2.2.1, ()), ())))))
theorem grapheme_Split_C2_a (E : AppE prog pcN pc lN lp) {d : grapheme_Split_C2_D} : Approx (fun N => grapheme_Split_C2 (pcN N) (lN N) d) (grapheme_Split_C2 pc lp d) := by
  delta grapheme_Split_C2
  exact (Approx.ifd (Approx.ifd (Approx.ifd (Approx.ifd (Approx.ifd (Approx.const _) (Approx.const _)) (Approx.ifd Approx.none (Approx.const _))) (Approx.ifd Approx.none (Approx.const _))) (Approx.bnd (Approx.bnd (grapheme_state_joins_ca E) fun x9 => (Approx.const _)) fun x10 => (Approx.ifd (Approx.ifd (Approx.ifd (Approx.const _) (Approx.const _)) (Approx.ifd (Approx.const _) (Approx.const _))) (Approx.ifd Approx.none (Approx.const _))))) (Approx.ifd Approx.none (Approx.ifd Approx.none (Approx.const _))))

-- grapheme_All_1, part 3735
abbrev grapheme_Split_C3_D := ((Unit × (Unit × (Int × (Unit × (Int × (Int × (Bool × (Int × Unit)))))))) × ((Unit × Unit) × (((List Int) × Unit) × ((Unit × Unit) × ((Int × (Bool × (Int × Unit))) × Unit)))))
abbrev grapheme_Split_C3_X := ((Unit × (Unit × (Int × (Unit × (Int × (Int × (Bool × (Int × Unit)))))))) × (((List (List Int)) × Unit) × (((List Int) × Unit) × ((Unit × Unit) × ((Int × (Bool × (Int × Unit))) × Unit)))))
noncomputable def grapheme_Split_C3 (pc : PC prog) (lp : LP) (d : grapheme_Split_C3_D) : Option grapheme_Split_C3_X :=
  bnd (grapheme_Split_C2 pc lp (((), (), d.1.2.2.1, (), d.1.2.2.2.2.1, d.1.2.2.2.2.2.1, d.1.2.2.2.2.2.2.1, d.1.2.2.2.2.2.2.2.1, ()), (((), ()), (d.2.2.1.1, ()), ((), ()), (d.2.2.2.2.1.1, d.2.2.2.2.1.2.1, d.2.2.2.2.1.2.2.1, ()), ()))) (fun (y12 : ((Unit × (Unit × (Int × (Unit × (Int × (Int × (Bool × (Int × (Bool × Unit))))))))) × ((Unit × Unit) × (((List Int) × Unit) × ((Unit × Unit) × ((Int × (Bool × (Int × Unit))) × Unit)))))) =>
  ifd (y12.1.2.2.2.2.2.2.2.2.1 = true) (
    ifd ((decide (((0 : Int) ≤ y12.1.2.2.1) ∧ ((y12.1.2.2.1 ≤ y12.1.2.2.2.2.1) ∧ (y12.1.2.2.2.2.1 ≤ (((List.length y12.2.2.1.1) : Nat) : Int))))) = true) (
      ifd ((decide ((((List.length ([] : List (List Int))) + (List.length ([(List.drop (Int.toNat y12.1.2.2.1) (List.take (Int.toNat y12.1.2.2.2.2.1) y12.2.2.1.1))] : List (List Int)))) * 16) ≤ 140737488355328)) = true) (
        some (((), (), y12.1.2.2.2.2.1, (), y12.1.2.2.2.2.1, y12.1.2.2.2.2.2.1, y12.1.2.2.2.2.2.2.1, y12.1.2.2.2.2.2.2.2.1, ()), (((([] : List (List Int)) ++ ([(List.drop (Int.toNat y12.1.2.2.1) (List.take (Int.toNat y12.1.2.2.2.2.1) y12.2.2.1.1))] : List (List Int))), ()), (y12.2.2.1.1, ()), ((), ()), (0, false, 0, ()), ()))) (
        none)) (
      none)) (
    some (((), (), y12.1.2.2.1, (), y12.1.2.2.2.2.1, y12.1.2.2.2.2.2.1, y12.1.2.2.2.2.2.2.1, y12.1.2.2.2.2.2.2.2.1, ()), ((([] : List (List Int)), ()), (y12.2.2.1.1, ()), ((), ()), (y12.2.2.2.2.1.1, y12.2.2.2.2.1.2.1, y12.2.2.2.2.1.2.2.1, ()), ()))))
theorem grapheme_Split_C3_a (E : AppE prog pcN pc lN lp) {d : grapheme_Split_C3_D} : Approx (fun N => grapheme_Split_C3 (pcN N) (lN N) d) (grapheme_Split_C3 pc lp d) := by
  delta grapheme_Split_C3
  exact (Approx.bnd (grapheme_Split_C2_a E) (fun y12 => (Approx.ifd (Approx.ifd (Approx.ifd (Approx.const _) Approx.none) Approx.none) (Approx.const _))))

-- grapheme_All_1, part 933
abbrev grapheme_Split_C4_D := ((Unit × (Unit × (Int × (Unit × (Int × (Int × (Int × Unit))))))) × (((List (List Int)) × Unit) × (((List Int) × Unit) × ((Unit × Unit) × ((Int × (Bool × (Int × Unit))) × Unit)))))
abbrev grapheme_Split_C4_X := ((Unit × (Unit × (Int × (Unit × (Int × (Int × (Int × (Bool × Unit)))))))) × (((List (List Int)) × Unit) × (((List Int) × Unit) × ((Unit × Unit) × ((Int × (Bool × (Int × Unit))) × Unit)))))
noncomputable def grapheme_Split_C4 (pc : PC prog) (lp : LP) (d : grapheme_Split_C4_D) : Option grapheme_Split_C4_X :=
  ifd ((d.1.2.2.2.2.2.1 == 65533) = true) (
    ifd ((d.1.2.2.2.2.2.1 == 65533) = true) (
      some (((), (), d.1.2.2.1, (), d.1.2.2.2.2.1, d.1.2.2.2.2.2.1, d.1.2.2.2.2.2.2.1, (d.1.2.2.2.2.2.2.1 == 1), ()), ((d.2.1.1, ()), (d.2.2.1.1, ()), ((), ()), (d.2.2.2.2.1.1, d.2.2.2.2.1.2.1, d.2.2.2.2.1.2.2.1, ()), ()))) (
      some (((), (), d.1.2.2.1, (), d.1.2.2.2.2.1, d.1.2.2.2.2.2.1, d.1.2.2.2.2.2.2.1, false, ()), ((d.2.1.1, ()), (d.2.2.1.1, ()), ((), ()), (d.2.2.2.2.1.1, d.2.2.2.2.1.2.1, d.2.2.2.2.1.2.2.1, ()), ())))) (
    ifd ((d.1.2.2.2.2.2.1 == 65533) = true) (
      none) (
      some (((), (), d.1.2.2.1, (), d.1.2.2.2.2.1, d.1.2.2.2.2.2.1, d.1.2.2.2.2.2.2.1, false, ()), ((d.2.1.1, ()), (d.2.2.1.1, ()), ((), ()), (d.2.2.2.2.1.1, d.2.2.2.2.1.2.1, d.2.2.2.2.1.2.2.1, ()), ()))))
theorem grapheme_Split_C4_a (E : AppE prog pcN pc lN lp) {d : grapheme_Split_C4_D} : Approx (fun N => grapheme_Split_C4 (pcN N) (lN N) d) (grapheme_Split_C4 pc lp d) := by
  delta grapheme_Split_C4
  exact (Approx.ifd (Approx.ifd (Approx.const _) (Approx.const _)) (Approx.ifd Approx.none (Approx.const _)))

-- grapheme_All_1, part 7470
abbrev grapheme_Split_C5_D := ((Unit × (Unit × (Int × (Unit × (Int × (Int × (Bool × (Int × Unit)))))))) × (((List (List Int)) × Unit) × (((List Int) × Unit) × ((Unit × Unit) × ((Int × (Bool × (Int × Unit))) × Unit)))))
abbrev grapheme_Split_C5_X := ((Unit × (Unit × (Int × (Unit × (Int × (Int × (Bool × (Int × (Bool × Unit))))))))) × (((List (List Int)) × Unit) × (((List Int) × Unit) × ((Unit × Unit) × ((Int × (Bool × (Int × Unit))) × Unit)))))
noncomputable def grapheme_Split_C5 (pc : PC prog) (lp : LP) (d : grapheme_Split_C5_D) : Option grapheme_Split_C5_X :=
  ifd ((decide (d.1.2.2.2.2.1 > d.1.2.2.1)) = true) (
    ifd (d.1.2.2.2.2.2.2.1 = true) (
      ifd ((decide (d.1.2.2.2.2.1 > d.1.2.2.1)) = true) (
        ifd (d.1.2.2.2.2.2.2.1 = true) (
          ifd ((decide (d.1.2.2.2.2.1 > d.1.2.2.1)) = true) (
            some (((), (), d.1.2.2.1, (), d.1.2.2.2.2.1, d.1.2.2.2.2.2.1, d.1.2.2.2.2.2.2.1, d.1.2.2.2.2.2.2.2.1, true, ()), ((d.2.1.1, ()), (d.2.2.1.1, ()), ((), ()), (d.2.2.2.2.1.1, d.2.2.2.2.1.2.1, d.2.2.2.2.1.2.2.1, ()), ()))) (
            some (((), (), d.1.2.2.1, (), d.1.2.2.2.2.1, d.1.2.2.2.2.2.1, d.1.2.2.2.2.2.2.1, d.1.2.2.2.2.2.2.2.1, false, ()), ((d.2.1.1, ()), (d.2.2.1.1, ()), ((), ()), (d.2.2.2.2.1.1, d.2.2.2.2.1.2.1, d.2.2.2.2.1.2.2.1, ()), ())))) (
          ifd ((decide (d.1.2.2.2.2.1 > d.1.2.2.1)) = true) (
            none) (
            some (((), (), d.1.2.2.1, (), d.1.2.2.2.2.1, d.1.2.2.2.2.2.1, d.1.2.2.2.2.2.2.1, d.1.2.2.2.2.2.2.2.1, false, ()), ((d.2.1.1, ()), (d.2.2.1.1, ()), ((), ()), (d.2.2.2.2.1.1, d.2.2.2.2.1.2.1, d.2.2.2.2.1.2.2.1, ()), ()))))) (
        ifd ((decide (d.1.2.2.2.2.1 > d.1.2.2.1)) = true) (
          none) (
          some (((), (), d.1.2.2.1, (), d.1.2.2.2.2.1, d.1.2.2.2.2.2.1, d.1.2.2.2.2.2.2.1, d.1.2.2.2.2.2.2.2.1, false, ()), ((d.2.1.1, ()), (d.2.2.1.1, ()), ((), ()), (d.2.2.2.2.1.1, d.2.2.2.2.1.2.1, d.2.2.2.2.1.2.2.1, ()), ()))))) (
      bnd (bnd (grapheme_state_joins_c pc d.2.2.2.2.1.1 d.2.2.2.2.1.2.1 d.2.2.2.2.1.2.2.1 d.1.2.2.2.2.2.2.2.1) fun (x21 : Bool) =>
      some x21) fun (x22 : Bool) =>
      ifd ((decide (d.1.2.2.2.2.1 > d.1.2.2.1)) = true) (
        ifd (d.1.2.2.2.2.2.2.1 = true) (
          ifd ((decide (d.1.2.2.2.2.1 > d.1.2.2.1)) = true) (
            some (((), (), d.1.2.2.1, (), d.1.2.2.2.2.1, d.1.2.2.2.2.2.1, d.1.2.2.2.2.2.2.1, d.1.2.2.2.2.2.2.2.1, true, ()), ((d.2.1.1, ()), (d.2.2.1.1, ()), ((), ()), (d.2.2.2.2.1.1, d.2.2.2.2.1.2.1, d.2.2.2.2.1.2.2.1, ()), ()))) (
            some (((), (), d.1.2.2.1, (), d.1.2.2.2.2.1, d.1.2.2.2.2.2.1, d.1.2.2.2.2.2.2.1, d.1.2.2.2.2.2.2.2.1, false, ()), ((d.2.1.1, ()), (d.2.2.1.1, ()), ((), ()), (d.2.2.2.2.1.1, d.2.2.2.2.1.2.1, d.2.2.2.2.1.2.2.1, ()), ())))) (
          ifd ((decide (d.1.2.2.2.2.1 > d.1.2.2.1)) = true) (
            some (((), (), d.1.2.2.1, (), d.1.2.2.2.2.1, d.1.2.2.2.2.2.1, d.1.2.2.2.2.2.2.1, d.1.2.2.2.2.2.2.2.1, (!x22), ()), ((d.2.1.1, ()), (d.2.2.1.1, ()), ((), ()), (d.2.2.2.2.1.1, d.2.2.2.2.1.2.1, d.2.2.2.2.1.2.2.1, ()), ()))) (
            some (((), (), d.1.2.2.1, (), d.1.2.2.2.2.1, d.1.2.2.2.2.2.1, d.1.2.2.2.2.2.2.1, d.1.2.2.2.2.2.2.2.1, false, ()), ((d.2.1.1, ()), (d.2.2.1.1, ()), ((), ()), (d.2.2.2.2.1.1, d.2.2.2.2.1.2.1, d.2.2.2.2.1.2.2.1, ()), ()))))) (
        ifd ((decide (d.1.2.2.2.2.1 > d.1.2.2.1)) = true) (
          none) (
          some (((), (), d.1.2.2.1, (), d.1.2.2.2.2.1, d.1.2.2.2.2.2.1, d.1.2.2.2.2.2.2.1, d.1.2.2.2.2.2.2.2.1, false, ()), ((d.2.1.1, ()), (d.2.2.1.1, ()), ((), ()), (d.2.2.2.2.1.1, d.2.2.2.2.1.2.1, d.2.2.2.2.1.2.2.1, ()), ())))))) (
    ifd ((decide (d.1.2.2.2.2.1 > d.1.2.2.1)) = true) (
      none) (
      ifd ((decide (d.1.2.2.2.2.1 > d.1.2.2.1)) = true) (
        none) (
        some (((), (), d.1.2.2.1, (), d.1.2.2.2.2.1, d.1.2.2.2.2.2.1, d.1.2.2.2.2.2.2.1, d.1.2.2.2.2.2.2.2.1, false, ()), ((d.2.1.1, ()), (d.2.2.1.1, ()), ((), ()), (d.2.2.2.2.1.1, d.2.2.2.2.1.2.1, d.2.2.2.2.1.2.2.1, ()), ())))))
theorem grapheme_Split_C5_a (E : AppE prog pcN pc lN lp) {d : grapheme_Split_C5_D} : Approx (fun N => grapheme_Split_C5 (pcN N) (lN N) d) (grapheme_Split_C5 pc lp d) := by
  delta grapheme_Split_C5
  exact (Approx.ifd (Approx.ifd (Approx.ifd (Approx.ifd (Approx.ifd (Approx.const _) (Approx.const _)) (Approx.ifd Approx.none (Approx.const _))) (Approx.ifd Approx.none (Approx.const _))) (Approx.bnd (Approx.bnd (grapheme_state_joins_ca E) fun x21 => (Approx.const _)) fun x22 => (Approx.ifd (Approx.ifd (Approx.ifd (Approx.const _) (Approx.const _)) (Approx.ifd (Approx.const _) (Approx.const _))) (Approx.ifd Approx.none (Approx.const _))))) (Approx.ifd Approx.none (Approx.ifd Approx.none (Approx.const _))))

-- grapheme_All_1, part 3735
abbrev grapheme_Split_C6_D := ((Unit × (Unit × (Int × (Unit × (Int × (Int × (Bool × (Int × Unit)))))))) × (((List (List Int)) × Unit) × (((List Int) × Unit) × ((Unit × Unit) × ((Int × (Bool × (Int × Unit))) × Unit)))))
abbrev grapheme_Split_C6_X := ((Unit × (Unit × (Int × (Unit × (Int × (Int × (Bool × (Int × Unit)))))))) × (((List (List Int)) × Unit) × (((List Int) × Unit) × ((Unit × Unit) × ((Int × (Bool × (Int × Unit))) × Unit)))))
noncomputable def grapheme_Split_C6 (pc : PC prog) (lp : LP) (d : grapheme_Split_C6_D) : Option grapheme_Split_C6_X :=
  bnd (grapheme_Split_C5 pc lp (((), (), d.1.2.2.1, (), d.1.2.2.2.2.1, d.1.2.2.2.2.2.1, d.1.2.2.2.2.2.2.1, d.1.2.2.2.2.2.2.2.1, ()), ((d.2.1.1, ()), (d.2.2.1.1, ()), ((), ()), (d.2.2.2.2.1.1, d.2.2.2.2.1.2.1, d.2.2.2.2.1.2.2.1, ()), ()))) (fun (y24 : ((Unit × (Unit × (Int × (Unit × (Int × (Int × (Bool × (Int × (Bool × Unit))))))))) × (((List (List Int)) × Unit) × (((List Int) × Unit) × ((Unit × Unit) × ((Int × (Bool × (Int × Unit))) × Unit)))))) =>
  ifd (y24.1.2.2.2.2.2.2.2.2.1 = true) (
    ifd ((decide (((0 : Int) ≤ y24.1.2.2.1) ∧ ((y24.1.2.2.1 ≤ y24.1.2.2.2.2.1) ∧ (y24.1.2.2.2.2.1 ≤ (((List.length y24.2.2.1.1) : Nat) : Int))))) = true) (
      ifd ((decide ((((List.length y24.2.1.1) + (List.length ([(List.drop (Int.toNat y24.1.2.2.1) (List.take (Int.toNat y24.1.2.2.2.2.1) y24.2.2.1.1))] : List (List Int)))) * 16) ≤ 140737488355328)) = true) (
        some (((), (), y24.1.2.2.2.2.1, (), y24.1.2.2.2.2.1, y24.1.2.2.2.2.2.1, y24.1.2.2.2.2.2.2.1, y24.1.2.2.2.2.2.2.2.1, ()), (((y24.2.1.1 ++ ([(List.drop (Int.toNat y24.1.2.2.1) (List.take (Int.toNat y24.1.2.2.2.2.1) y24.2.2.1.1))] : List (List Int))), ()), (y24.2.2.1.1, ()), ((), ()), (0, false, 0, ()), ()))) (
        none)) (
      none)) (
    some (((), (), y24.1.2.2.1, (), y24.1.2.2.2.2.1, y24.1.2.2.2.2.2.1, y24.1.2.2.2.2.2.2.1, y24.1.2.2.2.2.2.2.2.1, ()), ((y24.2.1.1, ()), (y24.2.2.1.1, ()), ((), ()), (y24.2.2.2.2.1.1, y24.2.2.2.2.1.2.1, y24.2.2.2.2.1.2.2.1, ()), ()))))
theorem grapheme_Split_C6_a (E : AppE prog pcN pc lN lp) {d : grapheme_Split_C6_D} : Approx (fun N => grapheme_Split_C6 (pcN N) (lN N) d) (grapheme_Split_C6 pc lp d) := by
  delta grapheme_Split_C6
  exact (Approx.bnd (grapheme_Split_C5_a E) (fun y24 => (Approx.ifd (Approx.ifd (Approx.ifd (Approx.const _) Approx.none) Approx.none) (Approx.const _))))

-- grapheme_All_1, loop 58
abbrev grapheme_Split_L7_D := ((Unit × (Unit × (Int × (Unit × (Int × Unit))))) × (((List (List Int)) × Unit) × (((List Int) × Unit) × ((Unit × Unit) × ((Int × (Bool × (Int × Unit))) × Unit)))))
abbrev grapheme_Split_L7_X := ((Unit × (Unit × (Int × Unit))) × (((List (List Int)) × Unit) × (((List Int) × Unit) × ((Unit × Unit) × ((Int × (Bool × (Int × Unit))) × Unit)))))
noncomputable def grapheme_Split_L7_R (pc : PC prog) (lp : LP) (ψ : grapheme_Split_L7_D → Option grapheme_Split_L7_X) (d : grapheme_Split_L7_D) : Option grapheme_Split_L7_X :=
  ifd ((decide (d.1.2.2.2.2.1 < (((List.length d.2.2.1.1) : Nat) : Int))) = true) (
    ifd ((decide (((0 : Int) ≤ d.1.2.2.2.2.1) ∧ ((d.1.2.2.2.2.1 ≤ (((List.length d.2.2.1.1) : Nat) : Int)) ∧ ((((List.length d.2.2.1.1) : Nat) : Int) ≤ (((List.length d.2.2.1.1) : Nat) : Int))))) = true) (
      bnd (bnd (unicode_utf8_DecodeRuneInString_c pc (List.drop (Int.toNat d.1.2.2.2.2.1) (List.take (Int.toNat (((List.length d.2.2.1.1) : Nat) : Int)) d.2.2.1.1))) fun (x32 : (Int × (Int × Unit))) =>
      some (x32.1, (x32.2.1, ()))) fun (x33 : (Int × (Int × Unit))) =>
      bnd (grapheme_Split_C4 pc lp (((), (), d.1.2.2.1, (), d.1.2.2.2.2.1, x33.1, x33.2.1, ()), ((d.2.1.1, ()), (d.2.2.1.1, ()), ((), ()), (d.2.2.2.2.1.1, d.2.2.2.2.1.2.1, d.2.2.2.2.1.2.2.1, ()), ()))) (fun (y34 : ((Unit × (Unit × (Int × (Unit × (Int × (Int × (Int × (Bool × Unit)))))))) × (((List (List Int)) × Unit) × (((List Int) × Unit) × ((Unit × Unit) × ((Int × (Bool × (Int × Unit))) × Unit)))))) =>
      bnd (bnd (grapheme_class_c pc y34.1.2.2.2.2.2.1) fun (x35 : Int) =>
      some x35) fun (x36 : Int) =>
      bnd (grapheme_Split_C6 pc lp (((), (), y34.1.2.2.1, (), y34.1.2.2.2.2.1, y34.1.2.2.2.2.2.2.1, y34.1.2.2.2.2.2.2.2.1, x36, ()), ((y34.2.1.1, ()), (y34.2.2.1.1, ()), ((), ()), (y34.2.2.2.2.1.1, y34.2.2.2.2.1.2.1, y34.2.2.2.2.1.2.2.1, ()), ()))) (fun (y37 : ((Unit × (Unit × (Int × (Unit × (Int × (Int × (Bool × (Int × Unit)))))))) × (((List (List Int)) × Unit) × (((List Int) × Unit) × ((Unit × Unit) × ((Int × (Bool × (Int × Unit))) × Unit)))))) =>
      ifd ((y37.1.2.2.2.2.2.2.2.1 == 6) = true) (
        ψ (((), (), y37.1.2.2.1, (), (Go.IntKind.wrap .i64 (y37.1.2.2.2.2.1 + y37.1.2.2.2.2.2.1)), ()), ((y37.2.1.1, ()), (y37.2.2.1.1, ()), ((), ()), (y37.1.2.2.2.2.2.2.2.1, y37.1.2.2.2.2.2.2.1, (Go.IntKind.wrap .i64 (y37.2.2.2.2.1.2.2.1 + 1)), ()), ()))) (
        ψ (((), (), y37.1.2.2.1, (), (Go.IntKind.wrap .i64 (y37.1.2.2.2.2.1 + y37.1.2.2.2.2.2.1)), ()), ((y37.2.1.1, ()), (y37.2.2.1.1, ()), ((), ()), (y37.1.2.2.2.2.2.2.2.1, y37.1.2.2.2.2.2.2.1, 0, ()), ())))))) (
      none)) (
    some (((), (), d.1.2.2.1, ()), ((d.2.1.1, ()), (d.2.2.1.1, ()), ((), ()), (d.2.2.2.2.1.1, d.2.2.2.2.1.2.1, d.2.2.2.2.1.2.2.1, ()), ())))
noncomputable def grapheme_Split_L7 (pc : PC prog) (lp : LP) (d : grapheme_Split_L7_D) : Option grapheme_Split_L7_X := lp grapheme_Split_L7_D grapheme_Split_L7_X (grapheme_Split_L7_R pc lp) d
theorem grapheme_Split_L7_ap (E : AppE prog pcN pc lN lp) : ContR (fun N => grapheme_Split_L7_R (pcN N) (lN N)) (grapheme_Split_L7_R pc lp) := fun ψN ψ h d => by
  delta grapheme_Split_L7_R
  exact (Approx.ifd (Approx.ifd (Approx.bnd (Approx.bnd (unicode_utf8_DecodeRuneInString_ca E) fun x32 => (Approx.const _)) fun x33 => (Approx.bnd (grapheme_Split_C4_a E) (fun y34 => (Approx.bnd (Approx.bnd (grapheme_class_ca E) fun x35 => (Approx.const _)) fun x36 => (Approx.bnd (grapheme_Split_C6_a E) (fun y37 => (Approx.ifd (h _) (h _)))))))) Approx.none) (Approx.const _))
theorem grapheme_Split_L7_a (E : AppE prog pcN pc lN lp) {d : grapheme_Split_L7_D} : Approx (fun N => grapheme_Split_L7 (pcN N) (lN N) d) (grapheme_Split_L7 pc lp d) := E.loop (grapheme_Split_L7_ap E) d
theorem grapheme_Split_L7_of {d : grapheme_Split_L7_D} {x : grapheme_Split_L7_X} (h : grapheme_Split_L7_R (pcL prog cfg) lpL (grapheme_Split_L7 (pcL prog cfg) lpL) d = some x) : grapheme_Split_L7 (pcL prog cfg) lpL d = some x := lpL_step (grapheme_Split_L7_ap (appL prog cfg)) h

noncomputable def grapheme_Split_B (pc : PC prog) (lp : LP) (a0 : List Int) : Option (List (List Int)) :=
  bnd (grapheme_Split_L7 pc lp (((), (), 0, (), 0, ()), ((([] : List (List Int)), ()), (a0, ()), ((), ()), (0, false, 0, ()), ()))) (fun (y38 : ((Unit × (Unit × (Int × Unit))) × (((List (List Int)) × Unit) × (((List Int) × Unit) × ((Unit × Unit) × ((Int × (Bool × (Int × Unit))) × Unit)))))) =>
  ifd ((decide (y38.1.2.2.1 < (((List.length y38.2.2.1.1) : Nat) : Int))) = true) (
    ifd ((decide (((0 : Int) ≤ y38.1.2.2.1) ∧ ((y38.1.2.2.1 ≤ (((List.length y38.2.2.1.1) : Nat) : Int)) ∧ ((((List.length y38.2.2.1.1) : Nat) : Int) ≤ (((List.length y38.2.2.1.1) : Nat) : Int))))) = true) (
      ifd ((decide ((((List.length y38.2.1.1) + (List.length ([(List.drop (Int.toNat y38.1.2.2.1) (List.take (Int.toNat (((List.length y38.2.2.1.1) : Nat) : Int)) y38.2.2.1.1))] : List (List Int)))) * 16) ≤ 140737488355328)) = true) (
        some (y38.2.1.1 ++ ([(List.drop (Int.toNat y38.1.2.2.1) (List.take (Int.toNat (((List.length y38.2.2.1.1) : Nat) : Int)) y38.2.2.1.1))] : List (List Int)))) (
        none)) (
      none)) (
    some y38.2.1.1))
theorem grapheme_Split_eq (a0 : List Int) (pc : PC prog) (lp : LP) : got grapheme_Split_t (pcall prog (runO prog cfg (hand prog cfg lp pc 6 tbl 5) pc 6) 10 [(.c (.str a0))]) = grapheme_Split_B pc lp a0 := by kernel_rfl
theorem grapheme_Split_ap (E : AppE prog pcN pc lN lp) (a0 : List Int) : Approx (fun N => grapheme_Split_B (pcN N) (lN N) a0) (grapheme_Split_B pc lp a0) := by
  delta grapheme_Split_B
  exact (Approx.bnd (grapheme_Split_L7_a E) (fun y38 => (Approx.ifd (Approx.ifd (Approx.ifd (Approx.const _) Approx.none) Approx.none) (Approx.const _))))
theorem grapheme_Split_of {a0 : List Int} {y : (List (List Int))} (h : grapheme_Split_B (pcL prog cfg) lpL a0 = some y) : grapheme_Split_c (pcL prog cfg) a0 = some y := fn_of rfl (grapheme_Split_eq a0) (grapheme_Split_ap (appN prog cfg) a0) h

-- ref1_Pieces, part 64806
abbrev ref1_Pieces_C1_D := (((List Int) × ((List Int) × (Unit × (Int × (Int × (Int × (Int × ((List Int) × Unit)))))))) × Unit)
abbrev ref1_Pieces_C1_X := (((List Int) × ((List Int) × (Unit × (Int × (Int × (Int × (Int × ((List Int) × (Bool × Unit))))))))) × Unit)
noncomputable def ref1_Pieces_C1 (pc : PC prog) (lp : LP) (d : ref1_Pieces_C1_D) : Option ref1_Pieces_C1_X :=
  ifd ((decide (d.1.2.2.2.2.2.1 > 0)) = true) (
    bnd (bnd (ref1_Continues_c pc d.1.2.1 d.1.2.2.2.2.2.1 d.1.2.2.2.2.1) fun (x8 : Bool) =>
    some x8) fun (x9 : Bool) =>
    ifd ((decide (d.1.2.2.2.2.2.1 > 0)) = true) (
      some ((d.1.1, d.1.2.1, (), d.1.2.2.2.1, d.1.2.2.2.2.1, d.1.2.2.2.2.2.1, d.1.2.2.2.2.2.2.1, d.1.2.2.2.2.2.2.2.1, x9, ()), ())) (
      some ((d.1.1, d.1.2.1, (), d.1.2.2.2.1, d.1.2.2.2.2.1, d.1.2.2.2.2.2.1, d.1.2.2.2.2.2.2.1, d.1.2.2.2.2.2.2.2.1, false, ()), ()))) (
    ifd ((decide (d.1.2.2.2.2.2.1 > 0)) = true) (
      none) (
      some ((d.1.1, d.1.2.1, (), d.1.2.2.2.1, d.1.2.2.2.2.1, d.1.2.2.2.2.2.1, d.1.2.2.2.2.2.2.1, d.1.2.2.2.2.2.2.2.1, false, ()), ())))
theorem ref1_Pieces_C1_a (E : AppE prog pcN pc lN lp) {d : ref1_Pieces_C1_D} : Approx (fun N => ref1_Pieces_C1 (pcN N) (lN N) d) (ref1_Pieces_C1 pc lp d) := by
  delta ref1_Pieces_C1
  exact (Approx.ifd (Approx.bnd (Approx.bnd (ref1_Continues_ca E) fun x8 => (Approx.const _)) fun x9 => (Approx.ifd (Approx.const _) (Approx.const _))) (Approx.ifd Approx.none (Approx.const _)))

-- ref1_Pieces, part 32403
abbrev ref1_Pieces_C2_D := (((List Int) × ((List Int) × (Unit × (Int × (Int × (Int × (Int × ((List Int) × Unit)))))))) × Unit)
abbrev ref1_Pieces_C2_X := (((List Int) × ((List Int) × (Unit × (Int × (Int × (Int × (Int × Unit))))))) × (Unit × ((List (List Int)) × Unit)))
noncomputable def ref1_Pieces_C2 (pc : PC prog) (lp : LP) (d : ref1_Pieces_C2_D) : Option ref1_Pieces_C2_X :=
  bnd (ref1_Pieces_C1 pc lp ((d.1.1, d.1.2.1, (), d.1.2.2.2.1, d.1.2.2.2.2.1, d.1.2.2.2.2.2.1, d.1.2.2.2.2.2.2.1, d.1.2.2.2.2.2.2.2.1, ()), ())) (fun (y11 : (((List Int) × ((List Int) × (Unit × (Int × (Int × (Int × (Int × ((List Int) × (Bool × Unit))))))))) × Unit)) =>
  ifd (y11.1.2.2.2.2.2.2.2.2.1 = true) (
    none) (
    ifd ((decide ((((List.length ([] : List (List Int))) + (List.length ([y11.1.2.2.2.2.2.2.2.1] : List (List Int)))) * 16) ≤ 140737488355328)) = true) (
      some ((y11.1.1, y11.1.2.1, (), y11.1.2.2.2.1, 0, y11.1.2.2.2.2.2.1, y11.1.2.2.2.2.2.2.1, ()), ((), (([] : List (List Int)) ++ ([y11.1.2.2.2.2.2.2.2.1] : List (List Int))), ()))) (
      none)))
theorem ref1_Pieces_C2_a (E : AppE prog pcN pc lN lp) {d : ref1_Pieces_C2_D} : Approx (fun N => ref1_Pieces_C2 (pcN N) (lN N) d) (ref1_Pieces_C2 pc lp d) := by
  delta ref1_Pieces_C2
  exact (Approx.bnd (ref1_Pieces_C1_a E) (fun y11 => (Approx.ifd Approx.none (Approx.ifd (Approx.const _) Approx.none))))

-- ref1_Pieces, part 64806
abbrev ref1_Pieces_C3_D := (((List Int) × ((List Int) × (Unit × (Int × (Int × (Int × (Int × ((List Int) × Unit)))))))) × (Unit × (Unit × ((List (List Int)) × Unit))))
abbrev ref1_Pieces_C3_X := (((List Int) × ((List Int) × (Unit × (Int × (Int × (Int × (Int × ((List Int) × (Bool × Unit))))))))) × (Unit × (Unit × (Unit × ((List (List Int)) × Unit)))))
noncomputable def ref1_Pieces_C3 (pc : PC prog) (lp : LP) (d : ref1_Pieces_C3_D) : Option ref1_Pieces_C3_X :=
  ifd ((decide (d.1.2.2.2.2.2.1 > 0)) = true) (
    bnd (bnd (ref1_Continues_c pc d.1.2.1 d.1.2.2.2.2.2.1 d.1.2.2.2.2.1) fun (x21 : Bool) =>
    some x21) fun (x22 : Bool) =>
    ifd ((decide (d.1.2.2.2.2.2.1 > 0)) = true) (
      some ((d.1.1, d.1.2.1, (), d.1.2.2.2.1, d.1.2.2.2.2.1, d.1.2.2.2.2.2.1, d.1.2.2.2.2.2.2.1, d.1.2.2.2.2.2.2.2.1, x22, ()), ((), (), (), d.2.2.2.1, ()))) (
      some ((d.1.1, d.1.2.1, (), d.1.2.2.2.1, d.1.2.2.2.2.1, d.1.2.2.2.2.2.1, d.1.2.2.2.2.2.2.1, d.1.2.2.2.2.2.2.2.1, false, ()), ((), (), (), d.2.2.2.1, ())))) (
    ifd ((decide (d.1.2.2.2.2.2.1 > 0)) = true) (
      none) (
      some ((d.1.1, d.1.2.1, (), d.1.2.2.2.1, d.1.2.2.2.2.1, d.1.2.2.2.2.2.1, d.1.2.2.2.2.2.2.1, d.1.2.2.2.2.2.2.2.1, false, ()), ((), (), (), d.2.2.2.1, ()))))
theorem ref1_Pieces_C3_a (E : AppE prog pcN pc lN lp) {d : ref1_Pieces_C3_D} : Approx (fun N => ref1_Pieces_C3 (pcN N) (lN N) d) (ref1_Pieces_C3 pc lp d) := by
  delta ref1_Pieces_C3
  exact (Approx.ifd (Approx.bnd (Approx.bnd (ref1_Continues_ca E) fun x21 => (Approx.const _)) fun x22 => (Approx.ifd (Approx.const _) (Approx.const _))) (Approx.ifd Approx.none (Approx.const _)))

-- ref1_Pieces, part 32403
abbrev ref1_Pieces_C4_D := (((List Int) × ((List Int) × (Unit × (Int × (Int × (Int × (Int × ((List Int) × Unit)))))))) × (Unit × ((List (List Int)) × Unit)))
abbrev ref1_Pieces_C4_X := (((List Int) × ((List Int) × (Unit × (Int × (Int × (Int × (Int × Unit))))))) × (Unit × ((List (List Int)) × Unit)))
noncomputable def ref1_Pieces_C4 (pc : PC prog) (lp : LP) (d : ref1_Pieces_C4_D) : Option ref1_Pieces_C4_X :=
  bnd (ref1_Pieces_C3 pc lp ((d.1.1, d.1.2.1, (), d.1.2.2.2.1, d.1.2.2.2.2.1, d.1.2.2.2.2.2.1, d.1.2.2.2.2.2.2.1, d.1.2.2.2.2.2.2.2.1, ()), ((), (), d.2.2.1, ()))) (fun (y24 : (((List Int) × ((List Int) × (Unit × (Int × (Int × (Int × (Int × ((List Int) × (Bool × Unit))))))))) × (Unit × (Unit × (Unit × ((List (List Int)) × Unit)))))) =>
  ifd (y24.1.2.2.2.2.2.2.2.2.1 = true) (
    ifd ((decide (((0 : Int) ≤ (Go.IntKind.wrap .i64 ((((List.length y24.2.2.2.2.1) : Nat) : Int) - 1))) ∧ ((Go.IntKind.wrap .i64 ((((List.length y24.2.2.2.2.1) : Nat) : Int) - 1)) < (((List.length y24.2.2.2.2.1) : Nat) : Int)))) = true) (
      ifd ((decide ((Int.toNat (Go.IntKind.wrap .i64 ((((List.length y24.2.2.2.2.1) : Nat) : Int) - 1))) < (List.length y24.2.2.2.2.1))) = true) (
        ifd ((decide (((List.length (List.getD y24.2.2.2.2.1 (Int.toNat (Go.IntKind.wrap .i64 ((((List.length y24.2.2.2.2.1) : Nat) : Int) - 1))) ([] : List Int))) + (List.length y24.1.2.2.2.2.2.2.2.1)) ≤ 9223372036854775807)) = true) (
          ifd ((decide (((0 : Int) ≤ (Go.IntKind.wrap .i64 ((((List.length y24.2.2.2.2.1) : Nat) : Int) - 1))) ∧ ((Go.IntKind.wrap .i64 ((((List.length y24.2.2.2.2.1) : Nat) : Int) - 1)) < (((List.length y24.2.2.2.2.1) : Nat) : Int)))) = true) (
            ifd ((decide ((Int.toNat (Go.IntKind.wrap .i64 ((((List.length y24.2.2.2.2.1) : Nat) : Int) - 1))) < (List.length y24.2.2.2.2.1))) = true) (
              some ((y24.1.1, y24.1.2.1, (), y24.1.2.2.2.1, y24.1.2.2.2.2.1, y24.1.2.2.2.2.2.1, y24.1.2.2.2.2.2.2.1, ()), ((), (List.set y24.2.2.2.2.1 (Int.toNat (Go.IntKind.wrap .i64 ((((List.length y24.2.2.2.2.1) : Nat) : Int) - 1))) ((List.getD y24.2.2.2.2.1 (Int.toNat (Go.IntKind.wrap .i64 ((((List.length y24.2.2.2.2.1) : Nat) : Int) - 1))) ([] : List Int)) ++ y24.1.2.2.2.2.2.2.2.1)), ()))) (
              none)) (
            none)) (
          none)) (
        none)) (
      none)) (
    ifd ((decide ((((List.length y24.2.2.2.2.1) + (List.length ([y24.1.2.2.2.2.2.2.2.1] : List (List Int)))) * 16) ≤ 140737488355328)) = true) (
      some ((y24.1.1, y24.1.2.1, (), y24.1.2.2.2.1, 0, y24.1.2.2.2.2.2.1, y24.1.2.2.2.2.2.2.1, ()), ((), (y24.2.2.2.2.1 ++ ([y24.1.2.2.2.2.2.2.2.1] : List (List Int))), ()))) (
      none)))
theorem ref1_Pieces_C4_a (E : AppE prog pcN pc lN lp) {d : ref1_Pieces_C4_D} : Approx (fun N => ref1_Pieces_C4 (pcN N) (lN N) d) (ref1_Pieces_C4 pc lp d) := by
  delta ref1_Pieces_C4
  exact (Approx.bnd (ref1_Pieces_C3_a E) (fun y24 => (Approx.ifd (Approx.ifd (Approx.ifd (Approx.ifd (Approx.ifd (Approx.ifd (Approx.const _) Approx.none) Approx.none) Approx.none) Approx.none) Approx.none) (Approx.ifd (Approx.const _) Approx.none))))

-- ref1_Pieces, loop 506
abbrev ref1_Pieces_L5_D := (((List Int) × ((List Int) × (Unit × (Int × (Int × (Int × Unit)))))) × ((List (List Int)) × Unit))
abbrev ref1_Pieces_L5_X := ((Unit × Unit) × (Unit × ((List (List Int)) × Unit)))
noncomputable def ref1_Pieces_L5_R (pc : PC prog) (lp : LP) (ψ : ref1_Pieces_L5_D → Option ref1_Pieces_L5_X) (d : ref1_Pieces_L5_D) : Option ref1_Pieces_L5_X :=
  ifd ((decide (d.1.2.2.2.2.2.1 < (((List.length d.1.2.1) : Nat) : Int))) = true) (
    bnd (bnd (ref1_Rune_c pc d.1.1 d.1.2.2.2.1) fun (x28 : (Int × (Int × Unit))) =>
    some (x28.1, (x28.2.1, ()))) fun (x29 : (Int × (Int × Unit))) =>
    ifd ((decide (((0 : Int) ≤ d.1.2.2.2.1) ∧ ((d.1.2.2.2.1 ≤ (Go.IntKind.wrap .i64 (d.1.2.2.2.1 + x29.2.1))) ∧ ((Go.IntKind.wrap .i64 (d.1.2.2.2.1 + x29.2.1)) ≤ (((List.length d.1.1) : Nat) : Int))))) = true) (
      bnd (ref1_Pieces_C4 pc lp ((d.1.1, d.1.2.1, (), d.1.2.2.2.1, d.1.2.2.2.2.1, d.1.2.2.2.2.2.1, x29.2.1, (List.drop (Int.toNat d.1.2.2.2.1) (List.take (Int.toNat (Go.IntKind.wrap .i64 (d.1.2.2.2.1 + x29.2.1))) d.1.1)), ()), ((), d.2.1, ()))) (fun (y30 : (((List Int) × ((List Int) × (Unit × (Int × (Int × (Int × (Int × Unit))))))) × (Unit × ((List (List Int)) × Unit)))) =>
      ifd ((decide (((0 : Int) ≤ y30.1.2.2.2.2.2.1) ∧ (y30.1.2.2.2.2.2.1 < (((List.length y30.1.2.1) : Nat) : Int)))) = true) (
        ifd ((decide ((List.getD y30.1.2.1 (Int.toNat y30.1.2.2.2.2.2.1) 0) ≥ 0)) = true) (
          ifd ((decide (((0 : Int) ≤ y30.1.2.2.2.2.2.1) ∧ (y30.1.2.2.2.2.2.1 < (((List.length y30.1.2.1) : Nat) : Int)))) = true) (
            bnd (bnd (ref1_Class_c pc (List.getD y30.1.2.1 (Int.toNat y30.1.2.2.2.2.2.1) 0)) fun (x31 : Int) =>
            some x31) fun (x32 : Int) =>
            ifd ((decide ((List.getD y30.1.2.1 (Int.toNat y30.1.2.2.2.2.2.1) 0) ≥ 0)) = true) (
              ifd ((x32 == 6) = true) (
                ψ ((y30.1.1, y30.1.2.1, (), (Go.IntKind.wrap .i64 (y30.1.2.2.2.1 + y30.1.2.2.2.2.2.2.1)), (Go.IntKind.wrap .i64 (y30.1.2.2.2.2.1 + 1)), (Go.IntKind.wrap .i64 (y30.1.2.2.2.2.2.1 + 1)), ()), (y30.2.2.1, ()))) (
                ψ ((y30.1.1, y30.1.2.1, (), (Go.IntKind.wrap .i64 (y30.1.2.2.2.1 + y30.1.2.2.2.2.2.2.1)), 0, (Go.IntKind.wrap .i64 (y30.1.2.2.2.2.2.1 + 1)), ()), (y30.2.2.1, ())))) (
              ψ ((y30.1.1, y30.1.2.1, (), (Go.IntKind.wrap .i64 (y30.1.2.2.2.1 + y30.1.2.2.2.2.2.2.1)), 0, (Go.IntKind.wrap .i64 (y30.1.2.2.2.2.2.1 + 1)), ()), (y30.2.2.1, ())))) (
            none)) (
          ifd ((decide ((List.getD y30.1.2.1 (Int.toNat y30.1.2.2.2.2.2.1) 0) ≥ 0)) = true) (
            none) (
            ψ ((y30.1.1, y30.1.2.1, (), (Go.IntKind.wrap .i64 (y30.1.2.2.2.1 + y30.1.2.2.2.2.2.2.1)), 0, (Go.IntKind.wrap .i64 (y30.1.2.2.2.2.2.1 + 1)), ()), (y30.2.2.1, ()))))) (
        none))) (
      none)) (
    some (((), ()), ((), d.2.1, ())))
noncomputable def ref1_Pieces_L5 (pc : PC prog) (lp : LP) (d : ref1_Pieces_L5_D) : Option ref1_Pieces_L5_X := lp ref1_Pieces_L5_D ref1_Pieces_L5_X (ref1_Pieces_L5_R pc lp) d
theorem ref1_Pieces_L5_ap (E : AppE prog pcN pc lN lp) : ContR (fun N => ref1_Pieces_L5_R (pcN N) (lN N)) (ref1_Pieces_L5_R pc lp) := fun ψN ψ h d => by
  delta ref1_Pieces_L5_R
  exact (Approx.ifd (Approx.bnd (Approx.bnd (ref1_Rune_ca E) fun x28 => (Approx.const _)) fun x29 => (Approx.ifd (Approx.bnd (ref1_Pieces_C4_a E) (fun y30 => (Approx.ifd (Approx.ifd (Approx.ifd (Approx.bnd (Approx.bnd (ref1_Class_ca E) fun x31 => (Approx.const _)) fun x32 => (Approx.ifd (Approx.ifd (h _) (h _)) (h _))) Approx.none) (Approx.ifd Approx.none (h _))) Approx.none))) Approx.none)) (Approx.const _))
theorem ref1_Pieces_L5_a (E : AppE prog pcN pc lN lp) {d : ref1_Pieces_L5_D} : Approx (fun N => ref1_Pieces_L5 (pcN N) (lN N) d) (ref1_Pieces_L5 pc lp d) := E.loop (ref1_Pieces_L5_ap E) d
theorem ref1_Pieces_L5_of {d : ref1_Pieces_L5_D} {x : ref1_Pieces_L5_X} (h : ref1_Pieces_L5_R (pcL prog cfg) lpL (ref1_Pieces_L5 (pcL prog cfg) lpL) d = some x) : ref1_Pieces_L5 (pcL prog cfg) lpL d = some x := lpL_step (ref1_Pieces_L5_ap (appL prog cfg)) h

noncomputable def ref1_Pieces_B (pc : PC prog) (lp : LP) (a0 : List Int) : Option (List (List Int)) :=
  bnd (bnd (ref1_Runes_c pc a0) fun (x0 : (List Int)) =>
  some x0) fun (x1 : (List Int)) =>
  bnd (ref1_Pieces_L5 pc lp ((a0, x1, (), 0, 0, 0, ()), (([] : List (List Int)), ()))) (fun (y33 : ((Unit × Unit) × (Unit × ((List (List Int)) × Unit)))) =>
  some y33.2.2.1)
theorem ref1_Pieces_eq (a0 : List Int) (pc : PC prog) (lp : LP) : got ref1_Pieces_t (pcall prog (runO prog cfg (hand prog cfg lp pc 6 tbl 5) pc 6) 11 [(.c (.str a0))]) = ref1_Pieces_B pc lp a0 := by kernel_rfl
theorem ref1_Pieces_ap (E : AppE prog pcN pc lN lp) (a0 : List Int) : Approx (fun N => ref1_Pieces_B (pcN N) (lN N) a0) (ref1_Pieces_B pc lp a0) := by
  delta ref1_Pieces_B
  exact (Approx.bnd (Approx.bnd (ref1_Runes_ca E) fun x0 => (Approx.const _)) fun x1 => (Approx.bnd (ref1_Pieces_L5_a E) (fun y33 => (Approx.const _))))
theorem ref1_Pieces_of {a0 : List Int} {y : (List (List Int))} (h : ref1_Pieces_B (pcL prog cfg) lpL a0 = some y) : ref1_Pieces_c (pcL prog cfg) a0 = some y := fn_of rfl (ref1_Pieces_eq a0) (ref1_Pieces_ap (appN prog cfg) a0) h

-- ref1_Strings, loop 58
abbrev ref1_Strings_L1_D := (((List (List Int)) × ((List (List Int)) × (Int × Unit))) × Unit)
abbrev ref1_Strings_L1_X := (((Bool × Unit) × Unit) ⊕ (Unit × Unit))
noncomputable def ref1_Strings_L1_R (pc : PC prog) (lp : LP) (ψ : ref1_Strings_L1_D → Option ref1_Strings_L1_X) (d : ref1_Strings_L1_D) : Option ref1_Strings_L1_X :=
  ifd ((decide (d.1.2.2.1 < (((List.length d.1.1) : Nat) : Int))) = true) (
    ifd ((decide (((0 : Int) ≤ d.1.2.2.1) ∧ (d.1.2.2.1 < (((List.length d.1.1) : Nat) : Int)))) = true) (
      ifd ((decide (((0 : Int) ≤ d.1.2.2.1) ∧ (d.1.2.2.1 < (((List.length d.1.2.1) : Nat) : Int)))) = true) (
        ifd ((!((List.getD d.1.1 (Int.toNat d.1.2.2.1) ([] : List Int)) == (List.getD d.1.2.1 (Int.toNat d.1.2.2.1) ([] : List Int)))) = true) (
          some (Sum.inl ((false, ()), ()))) (
          ψ ((d.1.1, d.1.2.1, (Go.IntKind.wrap .i64 (d.1.2.2.1 + 1)), ()), ()))) (
        none)) (
      none)) (
    some (Sum.inr ((), ())))
noncomputable def ref1_Strings_L1 (pc : PC prog) (lp : LP) (d : ref1_Strings_L1_D) : Option ref1_Strings_L1_X := lp ref1_Strings_L1_D ref1_Strings_L1_X (ref1_Strings_L1_R pc lp) d
theorem ref1_Strings_L1_ap (E : AppE prog pcN pc lN lp) : ContR (fun N => ref1_Strings_L1_R (pcN N) (lN N)) (ref1_Strings_L1_R pc lp) := fun ψN ψ h d => by
  delta ref1_Strings_L1_R
  exact (Approx.ifd (Approx.ifd (Approx.ifd (Approx.ifd (Approx.const _) (h _)) Approx.none) Approx.none) (Approx.const _))
theorem ref1_Strings_L1_a (E : AppE prog pcN pc lN lp) {d : ref1_Strings_L1_D} : Approx (fun N => ref1_Strings_L1 (pcN N) (lN N) d) (ref1_Strings_L1 pc lp d) := E.loop (ref1_Strings_L1_ap E) d
theorem ref1_Strings_L1_of {d : ref1_Strings_L1_D} {x : ref1_Strings_L1_X} (h : ref1_Strings_L1_R (pcL prog cfg) lpL (ref1_Strings_L1 (pcL prog cfg) lpL) d = some x) : ref1_Strings_L1 (pcL prog cfg) lpL d = some x := lpL_step (ref1_Strings_L1_ap (appL prog cfg)) h

noncomputable def ref1_Strings_B (pc : PC prog) (lp : LP) (a0 : List (List Int)) (a1 : List (List Int)) : Option Bool :=
  ifd (((((List.length a0) : Nat) : Int) != (((List.length a1) : Nat) : Int)) = true) (
    some false) (
    bnd (ref1_Strings_L1 pc lp ((a0, a1, 0, ()), ())) (Sum.elim (fun (y0 : ((Bool × Unit) × Unit)) =>
    some y0.1.1) (fun (y1 : (Unit × Unit)) =>
    some true)))
theorem ref1_Strings_eq (a0 : List (List Int)) (a1 : List (List Int)) (pc : PC prog) (lp : LP) : got ref1_Strings_t (pcall prog (runO prog cfg (hand prog cfg lp pc 6 tbl 5) pc 6) 9 [(.c (.slice .ro .str a0)), (.c (.slice .ro .str a1))]) = ref1_Strings_B pc lp a0 a1 := by kernel_rfl
theorem ref1_Strings_ap (E : AppE prog pcN pc lN lp) (a0 : List (List Int)) (a1 : List (List Int)) : Approx (fun N => ref1_Strings_B (pcN N) (lN N) a0 a1) (ref1_Strings_B pc lp a0 a1) := by
  delta ref1_Strings_B
  exact (Approx.ifd (Approx.const _) (Approx.bnd (ref1_Strings_L1_a E) (Approx.sum (fun y0 => (Approx.const _)) (fun y1 => (Approx.const _)))))
theorem ref1_Strings_of {a0 : List (List Int)} {a1 : List (List Int)} {y : Bool} (h : ref1_Strings_B (pcL prog cfg) lpL a0 a1 = some y) : ref1_Strings_c (pcL prog cfg) a0 a1 = some y := fn_of rfl (ref1_Strings_eq a0 a1) (ref1_Strings_ap (appN prog cfg) a0 a1) h

-- grapheme_All_1, part 933
abbrev grapheme_Cut_C1_D := ((Unit × (Unit × (Int × (Unit × (Int × (Int × (Int × Unit))))))) × ((Int × Unit) × ((Int × (Int × Unit)) × ((Int × Unit) × (((List Int) × Unit) × ((Unit × (Unit × Unit)) × ((Int × (Bool × (Int × Unit))) × Unit)))))))
abbrev grapheme_Cut_C1_X := ((Unit × (Unit × (Int × (Unit × (Int × (Int × (Int × (Bool × Unit)))))))) × ((Int × Unit) × ((Int × (Int × Unit)) × ((Int × Unit) × (((List Int) × Unit) × ((Unit × (Unit × Unit)) × ((Int × (Bool × (Int × Unit))) × Unit)))))))
noncomputable def grapheme_Cut_C1 (pc : PC prog) (lp : LP) (d : grapheme_Cut_C1_D) : Option grapheme_Cut_C1_X :=
  ifd ((d.1.2.2.2.2.2.1 == 65533) = true) (
    ifd ((d.1.2.2.2.2.2.1 == 65533) = true) (
      some (((), (), d.1.2.2.1, (), d.1.2.2.2.2.1, d.1.2.2.2.2.2.1, d.1.2.2.2.2.2.2.1, (d.1.2.2.2.2.2.2.1 == 1), ()), ((d.2.1.1, ()), (d.2.2.1.1, d.2.2.1.2.1, ()), (d.2.2.2.1.1, ()), (d.2.2.2.2.1.1, ()), ((), (), ()), (d.2.2.2.2.2.2.1.1, d.2.2.2.2.2.2.1.2.1, d.2.2.2.2.2.2.1.2.2.1, ()), ()))) (
      some (((), (), d.1.2.2.1, (), d.1.2.2.2.2.1, d.1.2.2.2.2.2.1, d.1.2.2.2.2.2.2.1, false, ()), ((d.2.1.1, ()), (d.2.2.1.1, d.2.2.1.2.1, ()), (d.2.2.2.1.1, ()), (d.2.2.2.2.1.1, ()), ((), (), ()), (d.2.2.2.2.2.2.1.1, d.2.2.2.2.2.2.1.2.1, d.2.2.2.2.2.2.1.2.2.1, ()), ())))) (
    ifd ((d.1.2.2.2.2.2.1 == 65533) = true) (
      none) (
      some (((), (), d.1.2.2.1, (), d.1.2.2.2.2.1, d.1.2.2.2.2.2.1, d.1.2.2.2.2.2.2.1, false, ()), ((d.2.1.1, ()), (d.2.2.1.1, d.2.2.1.2.1, ()), (d.2.2.2.1.1, ()), (d.2.2.2.2.1.1, ()), ((), (), ()), (d.2.2.2.2.2.2.1.1, d.2.2.2.2.2.2.1.2.1, d.2.2.2.2.2.2.1.2.2.1, ()), ()))))
theorem grapheme_Cut_C1_a (E : AppE prog pcN pc lN lp) {d : grapheme_Cut_C1_D} : Approx (fun N => grapheme_Cut_C1 (pcN N) (lN N) d) (grapheme_Cut_C1 pc lp d) := by
  delta grapheme_Cut_C1
  exact (Approx.ifd (Approx.ifd (Approx.const _) (Approx.const _)) (Approx.ifd Approx.none (Approx.const _)))

-- grapheme_All_1, part 7470
abbrev grapheme_Cut_C2_D := ((Unit × (Unit × (Int × (Unit × (Int × (Int × (Bool × (Int × Unit)))))))) × ((Int × Unit) × ((Int × (Int × Unit)) × ((Int × Unit) × (((List Int) × Unit) × ((Unit × (Unit × Unit)) × ((Int × (Bool × (Int × Unit))) × Unit)))))))
abbrev grapheme_Cut_C2_X := ((Unit × (Unit × (Int × (Unit × (Int × (Int × (Bool × (Int × (Bool × Unit))))))))) × ((Int × Unit) × ((Int × (Int × Unit)) × ((Int × Unit) × (((List Int) × Unit) × ((Unit × (Unit × Unit)) × ((Int × (Bool × (Int × Unit))) × Unit)))))))
noncomputable def grapheme_Cut_C2 (pc : PC prog) (lp : LP) (d : grapheme_Cut_C2_D) : Option grapheme_Cut_C2_X :=
  ifd ((decide (d.1.2.2.2.2.1 > d.1.2.2.1)) = true) (
    ifd (d.1.2.2.2.2.2.2.1 = true) (
      ifd ((decide (d.1.2.2.2.2.1 > d.1.2.2.1)) = true) (
        ifd (d.1.2.2.2.2.2.2.1 = true) (
          ifd ((decide (d.1.2.2.2.2.1 > d.1.2.2.1)) = true) (
            some (((), (), d.1.2.2.1, (), d.1.2.2.2.2.1, d.1.2.2.2.2.2.1, d.1.2.2.2.2.2.2.1, d.1.2.2.2.2.2.2.2.1, true, ()), ((d.2.1.1, ()), (d.2.2.1.1, d.2.2.1.2.1, ()), (d.2.2.2.1.1, ()), (d.2.2.2.2.1.1, ()), ((), (), ()), (d.2.2.2.2.2.2.1.1, d.2.2.2.2.2.2.1.2.1, d.2.2.2.2.2.2.1.2.2.1, ()), ()))) (
            some (((), (), d.1.2.2.1, (), d.1.2.2.2.2.1, d.1.2.2.2.2.2.1, d.1.2.2.2.2.2.2.1, d.1.2.2.2.2.2.2.2.1, false, ()), ((d.2.1.1, ()), (d.2.2.1.1, d.2.2.1.2.1, ()), (d.2.2.2.1.1, ()), (d.2.2.2.2.1.1, ()), ((), (), ()), (d.2.2.2.2.2.2.1.1, d.2.2.2.2.2.2.1.2.1, d.2.2.2.2.2.2.1.2.2.1, ()), ())))) (
          ifd ((decide (d.1.2.2.2.2.1 > d.1.2.2.1)) = true) (
            none) (
            some (((), (), d.1.2.2.1, (), d.1.2.2.2.2.1, d.1.2.2.2.2.2.1, d.1.2.2.2.2.2.2.1, d.1.2.2.2.2.2.2.2.1, false, ()), ((d.2.1.1, ()), (d.2.2.1.1, d.2.2.1.2.1, ()), (d.2.2.2.1.1, ()), (d.2.2.2.2.1.1, ()), ((), (), ()), (d.2.2.2.2.2.2.1.1, d.2.2.2.2.2.2.1.2.1, d.2.2.2.2.2.2.1.2.2.1, ()), ()))))) (
        ifd ((decide (d.1.2.2.2.2.1 > d.1.2.2.1)) = true) (
          none) (
          some (((), (), d.1.2.2.1, (), d.1.2.2.2.2.1, d.1.2.2.2.2.2.1, d.1.2.2.2.2.2.2.1, d.1.2.2.2.2.2.2.2.1, false, ()), ((d.2.1.1, ()), (d.2.2.1.1, d.2.2.1.2.1, ()), (d.2.2.2.1.1, ()), (d.2.2.2.2.1.1, ()), ((), (), ()), (d.2.2.2.2.2.2.1.1, d.2.2.2.2.2.2.1.2.1, d.2.2.2.2.2.2.1.2.2.1, ()), ()))))) (
      bnd (bnd (grapheme_state_joins_c pc d.2.2.2.2.2.2.1.1 d.2.2.2.2.2.2.1.2.1 d.2.2.2.2.2.2.1.2.2.1 d.1.2.2.2.2.2.2.2.1) fun (x9 : Bool) =>
      some x9) fun (x10 : Bool) =>
      ifd ((decide (d.1.2.2.2.2.1 > d.1.2.2.1)) = true) (
        ifd (d.1.2.2.2.2.2.2.1 = true) (
          ifd ((decide (d.1.2.2.2.2.1 > d.1.2.2.1)) = true) (
            some (((), (), d.1.2.2.1, (), d.1.2.2.2.2.1, d.1.2.2.2.2.2.1, d.1.2.2.2.2.2.2.1, d.1.2.2.2.2.2.2.2.1, true, ()), ((d.2.1.1, ()), (d.2.2.1.1, d.2.2.1.2.1, ()), (d.2.2.2.1.1, ()), (d.2.2.2.2.1.1, ()), ((), (), ()), (d.2.2.2.2.2.2.1.1, d.2.2.2.2.2.2.1.2.1, d.2.2.2.2.2.2.1.2.2.1, ()), ()))) (
            some (((), (), d.1.2.2.1, (), d.1.2.2.2.2.1, d.1.2.2.2.2.2.1, d.1.2.2.2.2.2.2.1, d.1.2.2.2.2.2.2.2.1, false, ()), ((d.2.1.1, ()), (d.2.2.1.1, d.2.2.1.2.1, ()), (d.2.2.2.1.1, ()), (d.2.2.2.2.1.1, ()), ((), (), ()), (d.2.2.2.2.2.2.1.1, d.2.2.2.2.2.2.1.2.1, d.2.2.2.2.2.2.1.2.2.1, ()), ())))) (
          ifd ((decide (d.1.2.2.2.2.1 > d.1.2.2.1)) = true) (
            some (((), (), d.1.2.2.1, (), d.1.2.2.2.2.1, d.1.2.2.2.2.2.1, d.1.2.2.2.2.2.2.1, d.1.2.2.2.2.2.2.2.1, (!x10), ()), ((d.2.1.1, ()), (d.2.2.1.1, d.2.2.1.2.1, ()), (d.2.2.2.1.1, ()), (d.2.2.2.2.1.1, ()), ((), (), ()), (d.2.2.2.2.2.2.1.1, d.2.2.2.2.2.2.1.2.1, d.2.2.2.2.2.2.1.2.2.1, ()), ()))) (
            some (((), (), d.1.2.2.1, (), d.1.2.2.2.2.1, d.1.2.2.2.2.2.1, d.1.2.2.2.2.2.2.1, d.1.2.2.2.2.2.2.2.1, false, ()), ((d.2.1.1, ()), (d.2.2.1.1, d.2.2.1.2.1, ()), (d.2.2.2.1.1, ()), (d.2.2.2.2.1.1, ()), ((), (), ()), (d.2.2.2.2.2.2.1.1, d.2.2.2.2.2.2.1.2.1, d.2.2.2.2.2.2.1.2.2.1, ()), ()))))) (
        ifd ((decide (d.1.2.2.2.2.1 > d.1.2.2.1)) = true) (
          none) (
          some (((), (), d.1.2.2.1, (), d.1.2.2.2.2.1, d.1.2.2.2.2.2.1, d.1.2.2.2.2.2.2.1, d.1.2.2.2.2.2.2.2.1, false, ()), ((d.2.1.1, ()), (d.2.2.1.1, d.2.2.1.2.1, ()), (d.2.2.2.1.1, ()), (d.2.2.2.2.1.1, ()), ((), (), ()), (d.2.2.2.2.2.2.1.1, d.2.2.2.2.2.2.1.2.1, d.2.2.2.2.2.2.1.2.2.1, ()), ())))))) (
    ifd ((decide (d.1.2.2.2.2.1 > d.1.2.2.1)) = true) (
      none) (
      ifd ((decide (d.1.2.2.2.2.1 > d.1.2.2.1)) = true) (
        none) (
        some (((), (), d.1.2.2.1, (), d.1.2.2.2.2.1, d.1.2.2.2.2.2.1, d.1.2.2.2.2.2.2.1, d.1.2.2.2.2.2.2.2.1, false, ()), ((d.2.1.1, ()), (d.2.2.1.1, d.2.2.1.2.1, ()), (d.2.2.2.1.1, ()), (d.2.2.2.2.1.1, ()), ((), (), ()), (d.2.2.2.2.2.2.1.1, d.2.2.2.2.2.2.1.2.1, d.2.2.2.2.2.2.1.2.2.1, ()), ())))))
theorem grapheme_Cut_C2_a (E : AppE prog pcN pc lN lp) {d : grapheme_Cut_C2_D} : Approx (fun N => grapheme_Cut_C2 (pcN N) (lN N) d) (grapheme_Cut_C2 pc lp d) := by
  delta grapheme_Cut_C2
  exact (Approx.ifd (Approx.ifd (Approx.ifd (Approx.ifd (Approx.ifd (Approx.const _) (Approx.const _)) (Approx.ifd Approx.none (Approx.const _))) (Approx.ifd Approx.none (Approx.const _))) (Approx.bnd (Approx.bnd (grapheme_state_joins_ca E) fun x9 => (Approx.const _)) fun x10 => (Approx.ifd (Approx.ifd (Approx.ifd (Approx.const _) (Approx.const _)) (Approx.ifd (Approx.const _) (Approx.const _))) (Approx.ifd Approx.none (Approx.const _))))) (Approx.ifd Approx.none (Approx.ifd Approx.none (Approx.const _))))

-- grapheme_All_1, part 3735
abbrev grapheme_Cut_C3_D := ((Unit × (Unit × (Int × (Unit × (Int × (Int × (Bool × (Int × Unit)))))))) × ((Int × Unit) × ((Int × (Int × Unit)) × ((Int × Unit) × (((List Int) × Unit) × ((Unit × (Unit × Unit)) × ((Int × (Bool × (Int × Unit))) × Unit)))))))
abbrev grapheme_Cut_C3_X := ((Unit × ((Int × Unit) × ((Int × (Int × Unit)) × ((Int × Unit) × (((List Int) × Unit) × ((Unit × (Unit × Unit)) × ((Int × (Bool × (Int × Unit))) × Unit))))))) ⊕ ((Unit × (Unit × (Int × (Unit × (Int × (Int × (Bool × (Int × Unit)))))))) × ((Int × Unit) × ((Int × (Int × Unit)) × ((Int × Unit) × (((List Int) × Unit) × ((Unit × (Unit × Unit)) × ((Int × (Bool × (Int × Unit))) × Unit))))))))
noncomputable def grapheme_Cut_C3 (pc : PC prog) (lp : LP) (d : grapheme_Cut_C3_D) : Option grapheme_Cut_C3_X :=
  bnd (grapheme_Cut_C2 pc lp (((), (), d.1.2.2.1, (), d.1.2.2.2.2.1, d.1.2.2.2.2.2.1, d.1.2.2.2.2.2.2.1, d.1.2.2.2.2.2.2.2.1, ()), ((d.2.1.1, ()), (d.2.2.1.1, d.2.2.1.2.1, ()), (d.2.2.2.1.1, ()), (d.2.2.2.2.1.1, ()), ((), (), ()), (d.2.2.2.2.2.2.1.1, d.2.2.2.2.2.2.1.2.1, d.2.2.2.2.2.2.1.2.2.1, ()), ()))) (fun (y12 : ((Unit × (Unit × (Int × (Unit × (Int × (Int × (Bool × (Int × (Bool × Unit))))))))) × ((Int × Unit) × ((Int × (Int × Unit)) × ((Int × Unit) × (((List Int) × Unit) × ((Unit × (Unit × Unit)) × ((Int × (Bool × (Int × Unit))) × Unit)))))))) =>
  ifd (y12.1.2.2.2.2.2.2.2.2.1 = true) (
    ifd ((decide (((0 : Int) ≤ y12.1.2.2.1) ∧ ((y12.1.2.2.1 ≤ y12.1.2.2.2.2.1) ∧ (y12.1.2.2.2.2.1 ≤ (((List.length y12.2.2.2.2.1.1) : Nat) : Int))))) = true) (
      ifd ((decide ((Go.IntKind.wrap .i64 (y12.2.2.2.1.1 + (((List.length (List.drop (Int.toNat y12.1.2.2.1) (List.take (Int.toNat y12.1.2.2.2.2.1) y12.2.2.2.2.1.1))) : Nat) : Int))) > y12.2.1.1)) = true) (
        some (Sum.inl ((), ((y12.2.1.1, ()), (y12.2.2.1.1, y12.2.2.1.2.1, ()), (y12.2.2.2.1.1, ()), (y12.2.2.2.2.1.1, ()), ((), (), ()), (y12.2.2.2.2.2.2.1.1, y12.2.2.2.2.2.2.1.2.1, y12.2.2.2.2.2.2.1.2.2.1, ()), ())))) (
        some (Sum.inr (((), (), y12.1.2.2.2.2.1, (), y12.1.2.2.2.2.1, y12.1.2.2.2.2.2.1, y12.1.2.2.2.2.2.2.1, y12.1.2.2.2.2.2.2.2.1, ()), ((y12.2.1.1, ()), (y12.2.2.1.1, y12.2.2.1.2.1, ()), ((Go.IntKind.wrap .i64 (y12.2.2.2.1.1 + (((List.length (List.drop (Int.toNat y12.1.2.2.1) (List.take (Int.toNat y12.1.2.2.2.2.1) y12.2.2.2.2.1.1))) : Nat) : Int))), ()), (y12.2.2.2.2.1.1, ()), ((), (), ()), (0, false, 0, ()), ()))))) (
      none)) (
    some (Sum.inr (((), (), y12.1.2.2.1, (), y12.1.2.2.2.2.1, y12.1.2.2.2.2.2.1, y12.1.2.2.2.2.2.2.1, y12.1.2.2.2.2.2.2.2.1, ()), ((y12.2.1.1, ()), (y12.2.2.1.1, y12.2.2.1.2.1, ()), (y12.2.2.2.1.1, ()), (y12.2.2.2.2.1.1, ()), ((), (), ()), (y12.2.2.2.2.2.2.1.1, y12.2.2.2.2.2.2.1.2.1, y12.2.2.2.2.2.2.1.2.2.1, ()), ())))))
theorem grapheme_Cut_C3_a (E : AppE prog pcN pc lN lp) {d : grapheme_Cut_C3_D} : Approx (fun N => grapheme_Cut_C3 (pcN N) (lN N) d) (grapheme_Cut_C3 pc lp d) := by
  delta grapheme_Cut_C3
  exact (Approx.bnd (grapheme_Cut_C2_a E) (fun y12 => (Approx.ifd (Approx.ifd (Approx.ifd (Approx.const _) (Approx.const _)) Approx.none) (Approx.const _))))

-- grapheme_All_1, loop 58
abbrev grapheme_Cut_L4_D := ((Unit × (Unit × (Int × (Unit × (Int × Unit))))) × ((Int × Unit) × ((Int × (Int × Unit)) × ((Int × Unit) × (((List Int) × Unit) × ((Unit × (Unit × Unit)) × ((Int × (Bool × (Int × Unit))) × Unit)))))))
abbrev grapheme_Cut_L4_X := ((Unit × ((Int × Unit) × ((Int × (Int × Unit)) × ((Int × Unit) × (((List Int) × Unit) × ((Unit × (Unit × Unit)) × ((Int × (Bool × (Int × Unit))) × Unit))))))) ⊕ ((Unit × (Unit × (Int × Unit))) × ((Int × Unit) × ((Int × (Int × Unit)) × ((Int × Unit) × (((List Int) × Unit) × ((Unit × (Unit × Unit)) × ((Int × (Bool × (Int × Unit))) × Unit))))))))
noncomputable def grapheme_Cut_L4_R (pc : PC prog) (lp : LP) (ψ : grapheme_Cut_L4_D → Option grapheme_Cut_L4_X) (d : grapheme_Cut_L4_D) : Option grapheme_Cut_L4_X :=
  ifd ((decide (d.1.2.2.2.2.1 < (((List.length d.2.2.2.2.1.1) : Nat) : Int))) = true) (
    ifd ((decide (((0 : Int) ≤ d.1.2.2.2.2.1) ∧ ((d.1.2.2.2.2.1 ≤ (((List.length d.2.2.2.2.1.1) : Nat) : Int)) ∧ ((((List.length d.2.2.2.2.1.1) : Nat) : Int) ≤ (((List.length d.2.2.2.2.1.1) : Nat) : Int))))) = true) (
      bnd (bnd (unicode_utf8_DecodeRuneInString_c pc (List.drop (Int.toNat d.1.2.2.2.2.1) (List.take (Int.toNat (((List.length d.2.2.2.2.1.1) : Nat) : Int)) d.2.2.2.2.1.1))) fun (x15 : (Int × (Int × Unit))) =>
      some (x15.1, (x15.2.1, ()))) fun (x16 : (Int × (Int × Unit))) =>
      bnd (grapheme_Cut_C1 pc lp (((), (), d.1.2.2.1, (), d.1.2.2.2.2.1, x16.1, x16.2.1, ()), ((d.2.1.1, ()), (d.2.2.1.1, d.2.2.1.2.1, ()), (d.2.2.2.1.1, ()), (d.2.2.2.2.1.1, ()), ((), (), ()), (d.2.2.2.2.2.2.1.1, d.2.2.2.2.2.2.1.2.1, d.2.2.2.2.2.2.1.2.2.1, ()), ()))) (fun (y17 : ((Unit × (Unit × (Int × (Unit × (Int × (Int × (Int × (Bool × Unit)))))))) × ((Int × Unit) × ((Int × (Int × Unit)) × ((Int × Unit) × (((List Int) × Unit) × ((Unit × (Unit × Unit)) × ((Int × (Bool × (Int × Unit))) × Unit)))))))) =>
      bnd (bnd (grapheme_class_c pc y17.1.2.2.2.2.2.1) fun (x18 : Int) =>
      some x18) fun (x19 : Int) =>
      bnd (grapheme_Cut_C3 pc lp (((), (), y17.1.2.2.1, (), y17.1.2.2.2.2.1, y17.1.2.2.2.2.2.2.1, y17.1.2.2.2.2.2.2.2.1, x19, ()), ((y17.2.1.1, ()), (y17.2.2.1.1, y17.2.2.1.2.1, ()), (y17.2.2.2.1.1, ()), (y17.2.2.2.2.1.1, ()), ((), (), ()), (y17.2.2.2.2.2.2.1.1, y17.2.2.2.2.2.2.1.2.1, y17.2.2.2.2.2.2.1.2.2.1, ()), ()))) (Sum.elim (fun (y20 : (Unit × ((Int × Unit) × ((Int × (Int × Unit)) × ((Int × Unit) × (((List Int) × Unit) × ((Unit × (Unit × Unit)) × ((Int × (Bool × (Int × Unit))) × Unit)))))))) =>
      some (Sum.inl ((), ((y20.2.1.1, ()), (y20.2.2.1.1, y20.2.2.1.2.1, ()), (y20.2.2.2.1.1, ()), (y20.2.2.2.2.1.1, ()), ((), (), ()), (y20.2.2.2.2.2.2.1.1, y20.2.2.2.2.2.2.1.2.1, y20.2.2.2.2.2.2.1.2.2.1, ()), ())))) (fun (y21 : ((Unit × (Unit × (Int × (Unit × (Int × (Int × (Bool × (Int × Unit)))))))) × ((Int × Unit) × ((Int × (Int × Unit)) × ((Int × Unit) × (((List Int) × Unit) × ((Unit × (Unit × Unit)) × ((Int × (Bool × (Int × Unit))) × Unit)))))))) =>
      ifd ((y21.1.2.2.2.2.2.2.2.1 == 6) = true) (
        ψ (((), (), y21.1.2.2.1, (), (Go.IntKind.wrap .i64 (y21.1.2.2.2.2.1 + y21.1.2.2.2.2.2.1)), ()), ((y21.2.1.1, ()), (y21.2.2.1.1, y21.2.2.1.2.1, ()), (y21.2.2.2.1.1, ()), (y21.2.2.2.2.1.1, ()), ((), (), ()), (y21.1.2.2.2.2.2.2.2.1, y21.1.2.2.2.2.2.2.1, (Go.IntKind.wrap .i64 (y21.2.2.2.2.2.2.1.2.2.1 + 1)), ()), ()))) (
        ψ (((), (), y21.1.2.2.1, (), (Go.IntKind.wrap .i64 (y21.1.2.2.2.2.1 + y21.1.2.2.2.2.2.1)), ()), ((y21.2.1.1, ()), (y21.2.2.1.1, y21.2.2.1.2.1, ()), (y21.2.2.2.1.1, ()), (y21.2.2.2.2.1.1, ()), ((), (), ()), (y21.1.2.2.2.2.2.2.2.1, y21.1.2.2.2.2.2.2.1, 0, ()), ()))))))) (
      none)) (
    some (Sum.inr (((), (), d.1.2.2.1, ()), ((d.2.1.1, ()), (d.2.2.1.1, d.2.2.1.2.1, ()), (d.2.2.2.1.1, ()), (d.2.2.2.2.1.1, ()), ((), (), ()), (d.2.2.2.2.2.2.1.1, d.2.2.2.2.2.2.1.2.1, d.2.2.2.2.2.2.1.2.2.1, ()), ()))))
noncomputable def grapheme_Cut_L4 (pc : PC prog) (lp : LP) (d : grapheme_Cut_L4_D) : Option grapheme_Cut_L4_X := lp grapheme_Cut_L4_D grapheme_Cut_L4_X (grapheme_Cut_L4_R pc lp) d
theorem grapheme_Cut_L4_ap (E : AppE prog pcN pc lN lp) : ContR (fun N => grapheme_Cut_L4_R (pcN N) (lN N)) (grapheme_Cut_L4_R pc lp) := fun ψN ψ h d => by
  delta grapheme_Cut_L4_R
  exact (Approx.ifd (Approx.ifd (Approx.bnd (Approx.bnd (unicode_utf8_DecodeRuneInString_ca E) fun x15 => (Approx.const _)) fun x16 => (Approx.bnd (grapheme_Cut_C1_a E) (fun y17 => (Approx.bnd (Approx.bnd (grapheme_class_ca E) fun x18 => (Approx.const _)) fun x19 => (Approx.bnd (grapheme_Cut_C3_a E) (Approx.sum (fun y20 => (Approx.const _)) (fun y21 => (Approx.ifd (h _) (h _))))))))) Approx.none) (Approx.const _))
theorem grapheme_Cut_L4_a (E : AppE prog pcN pc lN lp) {d : grapheme_Cut_L4_D} : Approx (fun N => grapheme_Cut_L4 (pcN N) (lN N) d) (grapheme_Cut_L4 pc lp d) := E.loop (grapheme_Cut_L4_ap E) d
theorem grapheme_Cut_L4_of {d : grapheme_Cut_L4_D} {x : grapheme_Cut_L4_X} (h : grapheme_Cut_L4_R (pcL prog cfg) lpL (grapheme_Cut_L4 (pcL prog cfg) lpL) d = some x) : grapheme_Cut_L4 (pcL prog cfg) lpL d = some x := lpL_step (grapheme_Cut_L4_ap (appL prog cfg)) h

noncomputable def grapheme_Cut_B (pc : PC prog) (lp : LP) (a0 : List Int) (a1 : Int) : Option ((List Int) × ((Int × (Int × Unit)) × Unit)) :=
  ifd ((decide ((((List.length a0) : Nat) : Int) > 12000)) = true) (
    some (([] : List Int), ((1, ((-1), ())), ()))) (
    ifd ((decide (a1 < 0)) = true) (
      some (([] : List Int), ((3, ((-2), ())), ()))) (
      bnd (grapheme_Cut_L4 pc lp (((), (), 0, (), 0, ()), ((a1, ()), (0, 0, ()), (0, ()), (a0, ()), ((), (), ()), (0, false, 0, ()), ()))) (Sum.elim (fun (y22 : (Unit × ((Int × Unit) × ((Int × (Int × Unit)) × ((Int × Unit) × (((List Int) × Unit) × ((Unit × (Unit × Unit)) × ((Int × (Bool × (Int × Unit))) × Unit)))))))) =>
      ifd ((decide (((0 : Int) ≤ 0) ∧ (((0 : Int) ≤ y22.2.2.2.1.1) ∧ (y22.2.2.2.1.1 ≤ (((List.length a0) : Nat) : Int))))) = true) (
        some ((List.drop (Int.toNat 0) (List.take (Int.toNat y22.2.2.2.1.1) a0)), ((0, (0, ())), ()))) (
        none)) (fun (y23 : ((Unit × (Unit × (Int × Unit))) × ((Int × Unit) × ((Int × (Int × Unit)) × ((Int × Unit) × (((List Int) × Unit) × ((Unit × (Unit × Unit)) × ((Int × (Bool × (Int × Unit))) × Unit)))))))) =>
      ifd ((decide (y23.1.2.2.1 < (((List.length y23.2.2.2.2.1.1) : Nat) : Int))) = true) (
        ifd ((decide (((0 : Int) ≤ y23.1.2.2.1) ∧ ((y23.1.2.2.1 ≤ (((List.length y23.2.2.2.2.1.1) : Nat) : Int)) ∧ ((((List.length y23.2.2.2.2.1.1) : Nat) : Int) ≤ (((List.length y23.2.2.2.2.1.1) : Nat) : Int))))) = true) (
          ifd ((decide ((Go.IntKind.wrap .i64 (y23.2.2.2.1.1 + (((List.length (List.drop (Int.toNat y23.1.2.2.1) (List.take (Int.toNat (((List.length y23.2.2.2.2.1.1) : Nat) : Int)) y23.2.2.2.2.1.1))) : Nat) : Int))) > y23.2.1.1)) = true) (
            ifd ((decide (((0 : Int) ≤ 0) ∧ (((0 : Int) ≤ y23.2.2.2.1.1) ∧ (y23.2.2.2.1.1 ≤ (((List.length a0) : Nat) : Int))))) = true) (
              some ((List.drop (Int.toNat 0) (List.take (Int.toNat y23.2.2.2.1.1) a0)), ((0, (0, ())), ()))) (
              none)) (
            ifd ((decide (((0 : Int) ≤ 0) ∧ (((0 : Int) ≤ (Go.IntKind.wrap .i64 (y23.2.2.2.1.1 + (((List.length (List.drop (Int.toNat y23.1.2.2.1) (List.take (Int.toNat (((List.length y23.2.2.2.2.1.1) : Nat) : Int)) y23.2.2.2.2.1.1))) : Nat) : Int)))) ∧ ((Go.IntKind.wrap .i64 (y23.2.2.2.1.1 + (((List.length (List.drop (Int.toNat y23.1.2.2.1) (List.take (Int.toNat (((List.length y23.2.2.2.2.1.1) : Nat) : Int)) y23.2.2.2.2.1.1))) : Nat) : Int))) ≤ (((List.length a0) : Nat) : Int))))) = true) (
              some ((List.drop (Int.toNat 0) (List.take (Int.toNat (Go.IntKind.wrap .i64 (y23.2.2.2.1.1 + (((List.length (List.drop (Int.toNat y23.1.2.2.1) (List.take (Int.toNat (((List.length y23.2.2.2.2.1.1) : Nat) : Int)) y23.2.2.2.2.1.1))) : Nat) : Int)))) a0)), ((0, (0, ())), ()))) (
              none))) (
          none)) (
        ifd ((decide (((0 : Int) ≤ 0) ∧ (((0 : Int) ≤ y23.2.2.2.1.1) ∧ (y23.2.2.2.1.1 ≤ (((List.length a0) : Nat) : Int))))) = true) (
          some ((List.drop (Int.toNat 0) (List.take (Int.toNat y23.2.2.2.1.1) a0)), ((0, (0, ())), ()))) (
          none))))))
theorem grapheme_Cut_eq (a0 : List Int) (a1 : Int) (pc : PC prog) (lp : LP) : got grapheme_Cut_t (pcall prog (runO prog cfg (hand prog cfg lp pc 6 tbl 5) pc 6) 12 [(.c (.str a0)), (.c (.int .i64 a1))]) = grapheme_Cut_B pc lp a0 a1 := by kernel_rfl
theorem grapheme_Cut_ap (E : AppE prog pcN pc lN lp) (a0 : List Int) (a1 : Int) : Approx (fun N => grapheme_Cut_B (pcN N) (lN N) a0 a1) (grapheme_Cut_B pc lp a0 a1) := by
  delta grapheme_Cut_B
  exact (Approx.ifd (Approx.const _) (Approx.ifd (Approx.const _) (Approx.bnd (grapheme_Cut_L4_a E) (Approx.sum (fun y22 => (Approx.ifd (Approx.const _) Approx.none)) (fun y23 => (Approx.ifd (Approx.ifd (Approx.ifd (Approx.ifd (Approx.const _) Approx.none) (Approx.ifd (Approx.const _) Approx.none)) Approx.none) (Approx.ifd (Approx.const _) Approx.none)))))))
theorem grapheme_Cut_of {a0 : List Int} {a1 : Int} {y : ((List Int) × ((Int × (Int × Unit)) × Unit))} (h : grapheme_Cut_B (pcL prog cfg) lpL a0 a1 = some y) : grapheme_Cut_c (pcL prog cfg) a0 a1 = some y := fn_of rfl (grapheme_Cut_eq a0 a1) (grapheme_Cut_ap (appN prog cfg) a0 a1) h

noncomputable def ref1_At_B (pc : PC prog) (lp : LP) (a0 : Int) (a1 : Int) : Option (Int × (Int × Unit)) :=
  some (a0, (a1, ()))
theorem ref1_At_eq (a0 : Int) (a1 : Int) (pc : PC prog) (lp : LP) : got ref1_At_t (pcall prog (runO prog cfg (hand prog cfg lp pc 6 tbl 5) pc 6) 13 [(.c (.int .i64 a0)), (.c (.int .i64 a1))]) = ref1_At_B pc lp a0 a1 := by kernel_rfl
theorem ref1_At_ap (E : AppE prog pcN pc lN lp) (a0 : Int) (a1 : Int) : Approx (fun N => ref1_At_B (pcN N) (lN N) a0 a1) (ref1_At_B pc lp a0 a1) := by
  delta ref1_At_B
  exact (Approx.const _)
theorem ref1_At_of {a0 : Int} {a1 : Int} {y : (Int × (Int × Unit))} (h : ref1_At_B (pcL prog cfg) lpL a0 a1 = some y) : ref1_At_c (pcL prog cfg) a0 a1 = some y := fn_of rfl (ref1_At_eq a0 a1) (ref1_At_ap (appN prog cfg) a0 a1) h

-- grapheme_All_1, part 933
abbrev grapheme_Width_C1_D := ((Unit × (Unit × (Int × (Unit × (Int × (Int × (Int × Unit))))))) × ((Int × Unit) × (((List Int) × Unit) × ((Unit × Unit) × ((Int × (Bool × (Int × Unit))) × Unit)))))
abbrev grapheme_Width_C1_X := ((Unit × (Unit × (Int × (Unit × (Int × (Int × (Int × (Bool × Unit)))))))) × ((Int × Unit) × (((List Int) × Unit) × ((Unit × Unit) × ((Int × (Bool × (Int × Unit))) × Unit)))))
noncomputable def grapheme_Width_C1 (pc : PC prog) (lp : LP) (d : grapheme_Width_C1_D) : Option grapheme_Width_C1_X :=
  ifd ((d.1.2.2.2.2.2.1 == 65533) = true) (
    ifd ((d.1.2.2.2.2.2.1 == 65533) = true) (
      some (((), (), d.1.2.2.1, (), d.1.2.2.2.2.1, d.1.2.2.2.2.2.1, d.1.2.2.2.2.2.2.1, (d.1.2.2.2.2.2.2.1 == 1), ()), ((d.2.1.1, ()), (d.2.2.1.1, ()), ((), ()), (d.2.2.2.2.1.1, d.2.2.2.2.1.2.1, d.2.2.2.2.1.2.2.1, ()), ()))) (
      some (((), (), d.1.2.2.1, (), d.1.2.2.2.2.1, d.1.2.2.2.2.2.1, d.1.2.2.2.2.2.2.1, false, ()), ((d.2.1.1, ()), (d.2.2.1.1, ()), ((), ()), (d.2.2.2.2.1.1, d.2.2.2.2.1.2.1, d.2.2.2.2.1.2.2.1, ()), ())))) (
    ifd ((d.1.2.2.2.2.2.1 == 65533) = true) (
      none) (
      some (((), (), d.1.2.2.1, (), d.1.2.2.2.2.1, d.1.2.2.2.2.2.1, d.1.2.2.2.2.2.2.1, false, ()), ((d.2.1.1, ()), (d.2.2.1.1, ()), ((), ()), (d.2.2.2.2.1.1, d.2.2.2.2.1.2.1, d.2.2.2.2.1.2.2.1, ()), ()))))
theorem grapheme_Width_C1_a (E : AppE prog pcN pc lN lp) {d : grapheme_Width_C1_D} : Approx (fun N => grapheme_Width_C1 (pcN N) (lN N) d) (grapheme_Width_C1 pc lp d) := by
  delta grapheme_Width_C1
  exact (Approx.ifd (Approx.ifd (Approx.const _) (Approx.const _)) (Approx.ifd Approx.none (Approx.const _)))

-- grapheme_All_1, part 7470
abbrev grapheme_Width_C2_D := ((Unit × (Unit × (Int × (Unit × (Int × (Int × (Bool × (Int × Unit)))))))) × ((Int × Unit) × (((List Int) × Unit) × ((Unit × Unit) × ((Int × (Bool × (Int × Unit))) × Unit)))))
abbrev grapheme_Width_C2_X := ((Unit × (Unit × (Int × (Unit × (Int × (Int × (Bool × (Int × (Bool × Unit))))))))) × ((Int × Unit) × (((List Int) × Unit) × ((Unit × Unit) × ((Int × (Bool × (Int × Unit))) × Unit)))))
noncomputable def grapheme_Width_C2 (pc : PC prog) (lp : LP) (d : grapheme_Width_C2_D) : Option grapheme_Width_C2_X :=
  ifd ((decide (d.1.2.2.2.2.1 > d.1.2.2.1)) = true) (
    ifd (d.1.2.2.2.2.2.2.1 = true) (
      ifd ((decide (d.1.2.2.2.2.1 > d.1.2.2.1)) = true) (
        ifd (d.1.2.2.2.2.2.2.1 = true) (
          ifd ((decide (d.1.2.2.2.2.1 > d.1.2.2.1)) = true) (
            some (((), (), d.1.2.2.1, (), d.1.2.2.2.2.1, d.1.2.2.2.2.2.1, d.1.2.2.2.2.2.2.1, d.1.2.2.2.2.2.2.2.1, true, ()), ((d.2.1.1, ()), (d.2.2.1.1, ()), ((), ()), (d.2.2.2.2.1.1, d.2.2.2.2.1.2.1, d.2.2.2.2.1.2.2.1, ()), ()))) (
            some (((), (), d.1.2.2.1, (), d.1.2.2.2.2.1, d.1.2.2.2.2.2.1, d.1.2.2.2.2.2.2.1, d.1.2.2.2.2.2.2.2.1, false, ()), ((d.2.1.1, ()), (d.2.2.1.1, ()), ((), ()), (d.2.2.2.2.1.1, d.2.2.2.2.1.2.1, d.2.2.2.2.1.2.2.1, ()), ())))) (
          ifd ((decide (d.1.2.2.2.2.1 > d.1.2.2.1)) = true) (
            none) (
            some (((), (), d.1.2.2.1, (), d.1.2.2.2.2.1, d.1.2.2.2.2.2.1, d.1.2.2.2.2.2.2.1, d.1.2.2.2.2.2.2.2.1, false, ()), ((d.2.1.1, ()), (d.2.2.1.1, ()), ((), ()), (d.2.2.2.2.1.1, d.2.2.2.2.1.2.1, d.2.2.2.2.1.2.2.1, ()), ()))))) (
        ifd ((decide (d.1.2.2.2.2.1 > d.1.2.2.1)) = true) (
          none) (
          some (((), (), d.1.2.2.1, (), d.1.2.2.2.2.1, d.1.2.2.2.2.2.1, d.1.2.2.2.2.2.2.1, d.1.2.2.2.2.2.2.2.1, false, ()), ((d.2.1.1, ()), (d.2.2.1.1, ()), ((), ()), (d.2.2.2.2.1.1, d.2.2.2.2.1.2.1, d.2.2.2.2.1.2.2.1, ()), ()))))) (
      bnd (bnd (grapheme_state_joins_c pc d.2.2.2.2.1.1 d.2.2.2.2.1.2.1 d.2.2.2.2.1.2.2.1 d.1.2.2.2.2.2.2.2.1) fun (x9 : Bool) =>
      some x9) fun (x10 : Bool) =>
      ifd ((decide (d.1.2.2.2.2.1 > d.1.2.2.1)) = true) (
        ifd (d.1.2.2.2.2.2.2.1 = true) (
          ifd ((decide (d.1.2.2.2.2.1 > d.1.2.2.1)) = true) (
            some (((), (), d.1.2.2.1, (), d.1.2.2.2.2.1, d.1.2.2.2.2.2.1, d.1.2.2.2.2.2.2.1, d.1.2.2.2.2.2.2.2.1, true, ()), ((d.2.1.1, ()), (d.2.2.1.1, ()), ((), ()), (d.2.2.2.2.1.1, d.2.2.2.2.1.2.1, d.2.2.2.2.1.2.2.1, ()), ()))) (
            some (((), (), d.1.2.2.1, (), d.1.2.2.2.2.1, d.1.2.2.2.2.2.1, d.1.2.2.2.2.2.2.1, d.1.2.2.2.2.2.2.2.1, false, ()), ((d.2.1.1, ()), (d.2.2.1.1, ()), ((), ()), (d.2.2.2.2.1.1, d.2.2.2.2.1.2.1, d.2.2.2.2.1.2.2.1, ()), ())))) (
          ifd ((decide (d.1.2.2.2.2.1 > d.1.2.2.1)) = true) (
            some (((), (), d.1.2.2.1, (), d.1.2.2.2.2.1, d.1.2.2.2.2.2.1, d.1.2.2.2.2.2.2.1, d.1.2.2.2.2.2.2.2.1, (!x10), ()), ((d.2.1.1, ()), (d.2.2.1.1, ()), ((), ()), (d.2.2.2.2.1.1, d.2.2.2.2.1.2.1, d.2.2.2.2.1.2.2.1, ()), ()))) (
            some (((), (), d.1.2.2.1, (), d.1.2.2.2.2.1, d.1.2.2.2.2.2.1, d.1.2.2.2.2.2.2.1, d.1.2.2.2.2.2.2.2.1, false, ()), ((d.2.1.1, ()), (d.2.2.1.1, ()), ((), ()), (d.2.2.2.2.1.1, d.2.2.2.2.1.2.1, d.2.2.2.2.1.2.2.1, ()), ()))))) (
        ifd ((decide (d.1.2.2.2.2.1 > d.1.2.2.1)) = true) (
          none) (
          some (((), (), d.1.2.2.1, (), d.1.2.2.2.2.1, d.1.2.2.2.2.2.1, d.1.2.2.2.2.2.2.1, d.1.2.2.2.2.2.2.2.1, false, ()), ((d.2.1.1, ()), (d.2.2.1.1, ()), ((), ()), (d.2.2.2.2.1.1, d.2.2.2.2.1.2.1, d.2.2.2.2.1.2.2.1, ()), ())))))) (
    ifd ((decide (d.1.2.2.2.2.1 > d.1.2.2.1)) = true) (
      none) (
      ifd ((decide (d.1.2.2.2.2.1 > d.1.2.2.1)) = true) (
        none) (
        some (((), (), d.1.2.2.1, (), d.1.2.2.2.2.1, d.1.2.2.2.2.2.1, d.1.2.2.2.2.2.2.1, d.1.2.2.2.2.2.2.2.1, false, ()), ((d.2.1.1, ()), (d.2.2.1.1, ()), ((), ()), (d.2.2.2.2.1.1, d.2.2.2.2.1.2.1, d.2.2.2.2.1.2.2.1, ()), ())))))
theorem grapheme_Width_C2_a (E : AppE prog pcN pc lN lp) {d : grapheme_Width_C2_D} : Approx (fun N => grapheme_Width_C2 (pcN N) (lN N) d) (grapheme_Width_C2 pc lp d) := by
  delta grapheme_Width_C2
  exact (Approx.ifd (Approx.ifd (Approx.ifd (Approx.ifd (Approx.ifd (Approx.const _) (Approx.const _)) (Approx.ifd Approx.none (Approx.const _))) (Approx.ifd Approx.none (Approx.const _))) (Approx.bnd (Approx.bnd (grapheme_state_joins_ca E) fun x9 => (Approx.const _)) fun x10 => (Approx.ifd (Approx.ifd (Approx.ifd (Approx.const _) (Approx.const _)) (Approx.ifd (Approx.const _) (Approx.const _))) (Approx.ifd Approx.none (Approx.const _))))) (Approx.ifd Approx.none (Approx.ifd Approx.none (Approx.const _))))

-- grapheme_All_1, part 3735
abbrev grapheme_Width_C3_D := ((Unit × (Unit × (Int × (Unit × (Int × (Int × (Bool × (Int × Unit)))))))) × ((Int × Unit) × (((List Int) × Unit) × ((Unit × Unit) × ((Int × (Bool × (Int × Unit))) × Unit)))))
abbrev grapheme_Width_C3_X := ((Unit × (Unit × (Int × (Unit × (Int × (Int × (Bool × (Int × Unit)))))))) × ((Int × Unit) × (((List Int) × Unit) × ((Unit × Unit) × ((Int × (Bool × (Int × Unit))) × Unit)))))
noncomputable def grapheme_Width_C3 (pc : PC prog) (lp : LP) (d : grapheme_Width_C3_D) : Option grapheme_Width_C3_X :=
  bnd (grapheme_Width_C2 pc lp (((), (), d.1.2.2.1, (), d.1.2.2.2.2.1, d.1.2.2.2.2.2.1, d.1.2.2.2.2.2.2.1, d.1.2.2.2.2.2.2.2.1, ()), ((d.2.1.1, ()), (d.2.2.1.1, ()), ((), ()), (d.2.2.2.2.1.1, d.2.2.2.2.1.2.1, d.2.2.2.2.1.2.2.1, ()), ()))) (fun (y14 : ((Unit × (Unit × (Int × (Unit × (Int × (Int × (Bool × (Int × (Bool × Unit))))))))) × ((Int × Unit) × (((List Int) × Unit) × ((Unit × Unit) × ((Int × (Bool × (Int × Unit))) × Unit)))))) =>
  ifd (y14.1.2.2.2.2.2.2.2.2.1 = true) (
    ifd ((decide (((0 : Int) ≤ y14.1.2.2.1) ∧ ((y14.1.2.2.1 ≤ y14.1.2.2.2.2.1) ∧ (y14.1.2.2.2.2.1 ≤ (((List.length y14.2.2.1.1) : Nat) : Int))))) = true) (
      bnd (bnd (grapheme_width_c pc (List.drop (Int.toNat y14.1.2.2.1) (List.take (Int.toNat y14.1.2.2.2.2.1) y14.2.2.1.1))) fun (x15 : Int) =>
      some x15) fun (x16 : Int) =>
      some (((), (), y14.1.2.2.2.2.1, (), y14.1.2.2.2.2.1, y14.1.2.2.2.2.2.1, y14.1.2.2.2.2.2.2.1, y14.1.2.2.2.2.2.2.2.1, ()), (((Go.IntKind.wrap .i64 (y14.2.1.1 + x16)), ()), (y14.2.2.1.1, ()), ((), ()), (0, false, 0, ()), ()))) (
      none)) (
    some (((), (), y14.1.2.2.1, (), y14.1.2.2.2.2.1, y14.1.2.2.2.2.2.1, y14.1.2.2.2.2.2.2.1, y14.1.2.2.2.2.2.2.2.1, ()), ((y14.2.1.1, ()), (y14.2.2.1.1, ()), ((), ()), (y14.2.2.2.2.1.1, y14.2.2.2.2.1.2.1, y14.2.2.2.2.1.2.2.1, ()), ()))))
theorem grapheme_Width_C3_a (E : AppE prog pcN pc lN lp) {d : grapheme_Width_C3_D} : Approx (fun N => grapheme_Width_C3 (pcN N) (lN N) d) (grapheme_Width_C3 pc lp d) := by
  delta grapheme_Width_C3
  exact (Approx.bnd (grapheme_Width_C2_a E) (fun y14 => (Approx.ifd (Approx.ifd (Approx.bnd (Approx.bnd (grapheme_width_ca E) fun x15 => (Approx.const _)) fun x16 => (Approx.const _)) Approx.none) (Approx.const _))))

-- grapheme_All_1, loop 58
abbrev grapheme_Width_L4_D := ((Unit × (Unit × (Int × (Unit × (Int × Unit))))) × ((Int × Unit) × (((List Int) × Unit) × ((Unit × Unit) × ((Int × (Bool × (Int × Unit))) × Unit)))))
abbrev grapheme_Width_L4_X := ((Unit × (Unit × (Int × Unit))) × ((Int × Unit) × (((List Int) × Unit) × ((Unit × Unit) × ((Int × (Bool × (Int × Unit))) × Unit)))))
noncomputable def grapheme_Width_L4_R (pc : PC prog) (lp : LP) (ψ : grapheme_Width_L4_D → Option grapheme_Width_L4_X) (d : grapheme_Width_L4_D) : Option grapheme_Width_L4_X :=
  ifd ((decide (d.1.2.2.2.2.1 < (((List.length d.2.2.1.1) : Nat) : Int))) = true) (
    ifd ((decide (((0 : Int) ≤ d.1.2.2.2.2.1) ∧ ((d.1.2.2.2.2.1 ≤ (((List.length d.2.2.1.1) : Nat) : Int)) ∧ ((((List.length d.2.2.1.1) : Nat) : Int) ≤ (((List.length d.2.2.1.1) : Nat) : Int))))) = true) (
      bnd (bnd (unicode_utf8_DecodeRuneInString_c pc (List.drop (Int.toNat d.1.2.2.2.2.1) (List.take (Int.toNat (((List.length d.2.2.1.1) : Nat) : Int)) d.2.2.1.1))) fun (x18 : (Int × (Int × Unit))) =>
      some (x18.1, (x18.2.1, ()))) fun (x19 : (Int × (Int × Unit))) =>
      bnd (grapheme_Width_C1 pc lp (((), (), d.1.2.2.1, (), d.1.2.2.2.2.1, x19.1, x19.2.1, ()), ((d.2.1.1, ()), (d.2.2.1.1, ()), ((), ()), (d.2.2.2.2.1.1, d.2.2.2.2.1.2.1, d.2.2.2.2.1.2.2.1, ()), ()))) (fun (y20 : ((Unit × (Unit × (Int × (Unit × (Int × (Int × (Int × (Bool × Unit)))))))) × ((Int × Unit) × (((List Int) × Unit) × ((Unit × Unit) × ((Int × (Bool × (Int × Unit))) × Unit)))))) =>
      bnd (bnd (grapheme_class_c pc y20.1.2.2.2.2.2.1) fun (x21 : Int) =>
      some x21) fun (x22 : Int) =>
      bnd (grapheme_Width_C3 pc lp (((), (), y20.1.2.2.1, (), y20.1.2.2.2.2.1, y20.1.2.2.2.2.2.2.1, y20.1.2.2.2.2.2.2.2.1, x22, ()), ((y20.2.1.1, ()), (y20.2.2.1.1, ()), ((), ()), (y20.2.2.2.2.1.1, y20.2.2.2.2.1.2.1, y20.2.2.2.2.1.2.2.1, ()), ()))) (fun (y23 : ((Unit × (Unit × (Int × (Unit × (Int × (Int × (Bool × (Int × Unit)))))))) × ((Int × Unit) × (((List Int) × Unit) × ((Unit × Unit) × ((Int × (Bool × (Int × Unit))) × Unit)))))) =>
      ifd ((y23.1.2.2.2.2.2.2.2.1 == 6) = true) (
        ψ (((), (), y23.1.2.2.1, (), (Go.IntKind.wrap .i64 (y23.1.2.2.2.2.1 + y23.1.2.2.2.2.2.1)), ()), ((y23.2.1.1, ()), (y23.2.2.1.1, ()), ((), ()), (y23.1.2.2.2.2.2.2.2.1, y23.1.2.2.2.2.2.2.1, (Go.IntKind.wrap .i64 (y23.2.2.2.2.1.2.2.1 + 1)), ()), ()))) (
        ψ (((), (), y23.1.2.2.1, (), (Go.IntKind.wrap .i64 (y23.1.2.2.2.2.1 + y23.1.2.2.2.2.2.1)), ()), ((y23.2.1.1, ()), (y23.2.2.1.1, ()), ((), ()), (y23.1.2.2.2.2.2.2.2.1, y23.1.2.2.2.2.2.2.1, 0, ()), ())))))) (
      none)) (
    some (((), (), d.1.2.2.1, ()), ((d.2.1.1, ()), (d.2.2.1.1, ()), ((), ()), (d.2.2.2.2.1.1, d.2.2.2.2.1.2.1, d.2.2.2.2.1.2.2.1, ()), ())))
noncomputable def grapheme_Width_L4 (pc : PC prog) (lp : LP) (d : grapheme_Width_L4_D) : Option grapheme_Width_L4_X := lp grapheme_Width_L4_D grapheme_Width_L4_X (grapheme_Width_L4_R pc lp) d
theorem grapheme_Width_L4_ap (E : AppE prog pcN pc lN lp) : ContR (fun N => grapheme_Width_L4_R (pcN N) (lN N)) (grapheme_Width_L4_R pc lp) := fun ψN ψ h d => by
  delta grapheme_Width_L4_R
  exact (Approx.ifd (Approx.ifd (Approx.bnd (Approx.bnd (unicode_utf8_DecodeRuneInString_ca E) fun x18 => (Approx.const _)) fun x19 => (Approx.bnd (grapheme_Width_C1_a E) (fun y20 => (Approx.bnd (Approx.bnd (grapheme_class_ca E) fun x21 => (Approx.const _)) fun x22 => (Approx.bnd (grapheme_Width_C3_a E) (fun y23 => (Approx.ifd (h _) (h _)))))))) Approx.none) (Approx.const _))
theorem grapheme_Width_L4_a (E : AppE prog pcN pc lN lp) {d : grapheme_Width_L4_D} : Approx (fun N => grapheme_Width_L4 (pcN N) (lN N) d) (grapheme_Width_L4 pc lp d) := E.loop (grapheme_Width_L4_ap E) d
theorem grapheme_Width_L4_of {d : grapheme_Width_L4_D} {x : grapheme_Width_L4_X} (h : grapheme_Width_L4_R (pcL prog cfg) lpL (grapheme_Width_L4 (pcL prog cfg) lpL) d = some x) : grapheme_Width_L4 (pcL prog cfg) lpL d = some x := lpL_step (grapheme_Width_L4_ap (appL prog cfg)) h

noncomputable def grapheme_Width_B (pc : PC prog) (lp : LP) (a0 : List Int) : Option Int :=
  bnd (grapheme_Width_L4 pc lp (((), (), 0, (), 0, ()), ((0, ()), (a0, ()), ((), ()), (0, false, 0, ()), ()))) (fun (y24 : ((Unit × (Unit × (Int × Unit))) × ((Int × Unit) × (((List Int) × Unit) × ((Unit × Unit) × ((Int × (Bool × (Int × Unit))) × Unit)))))) =>
  ifd ((decide (y24.1.2.2.1 < (((List.length y24.2.2.1.1) : Nat) : Int))) = true) (
    ifd ((decide (((0 : Int) ≤ y24.1.2.2.1) ∧ ((y24.1.2.2.1 ≤ (((List.length y24.2.2.1.1) : Nat) : Int)) ∧ ((((List.length y24.2.2.1.1) : Nat) : Int) ≤ (((List.length y24.2.2.1.1) : Nat) : Int))))) = true) (
      bnd (bnd (grapheme_width_c pc (List.drop (Int.toNat y24.1.2.2.1) (List.take (Int.toNat (((List.length y24.2.2.1.1) : Nat) : Int)) y24.2.2.1.1))) fun (x25 : Int) =>
      some x25) fun (x26 : Int) =>
      some (Go.IntKind.wrap .i64 (y24.2.1.1 + x26))) (
      none)) (
    some y24.2.1.1))
theorem grapheme_Width_eq (a0 : List Int) (pc : PC prog) (lp : LP) : got grapheme_Width_t (pcall prog (runO prog cfg (hand prog cfg lp pc 6 tbl 5) pc 6) 14 [(.c (.str a0))]) = grapheme_Width_B pc lp a0 := by kernel_rfl
theorem grapheme_Width_ap (E : AppE prog pcN pc lN lp) (a0 : List Int) : Approx (fun N => grapheme_Width_B (pcN N) (lN N) a0) (grapheme_Width_B pc lp a0) := by
  delta grapheme_Width_B
  exact (Approx.bnd (grapheme_Width_L4_a E) (fun y24 => (Approx.ifd (Approx.ifd (Approx.bnd (Approx.bnd (grapheme_width_ca E) fun x25 => (Approx.const _)) fun x26 => (Approx.const _)) Approx.none) (Approx.const _))))
theorem grapheme_Width_of {a0 : List Int} {y : Int} (h : grapheme_Width_B (pcL prog cfg) lpL a0 = some y) : grapheme_Width_c (pcL prog cfg) a0 = some y := fn_of rfl (grapheme_Width_eq a0) (grapheme_Width_ap (appN prog cfg) a0) h

-- ref1_Columns, part 15654
abbrev ref1_Columns_C1_D := (((List (List Int)) × (Int × (Int × ((List Int) × (Int × Unit))))) × Unit)
abbrev ref1_Columns_C1_X := (((List (List Int)) × (Int × (Int × ((List Int) × (Int × (Bool × Unit)))))) × Unit)
noncomputable def ref1_Columns_C1 (pc : PC prog) (lp : LP) (d : ref1_Columns_C1_D) : Option ref1_Columns_C1_X :=
  ifd ((decide (((0 : Int) ≤ 0) ∧ ((0 : Int) < (((List.length d.1.2.2.2.1) : Nat) : Int)))) = true) (
    ifd ((decide ((List.getD d.1.2.2.2.1 (Int.toNat 0) 0) ≥ 0)) = true) (
      bnd (bnd (ref1_In_c pc d.1.2.2.2.2.1 1 5) fun (x10 : Bool) =>
      some x10) fun (x11 : Bool) =>
      ifd ((decide ((List.getD d.1.2.2.2.1 (Int.toNat 0) 0) ≥ 0)) = true) (
        some ((d.1.1, d.1.2.1, d.1.2.2.1, d.1.2.2.2.1, d.1.2.2.2.2.1, x11, ()), ())) (
        some ((d.1.1, d.1.2.1, d.1.2.2.1, d.1.2.2.2.1, d.1.2.2.2.2.1, false, ()), ()))) (
      ifd ((decide ((List.getD d.1.2.2.2.1 (Int.toNat 0) 0) ≥ 0)) = true) (
        none) (
        some ((d.1.1, d.1.2.1, d.1.2.2.1, d.1.2.2.2.1, d.1.2.2.2.2.1, false, ()), ())))) (
    none)
theorem ref1_Columns_C1_a (E : AppE prog pcN pc lN lp) {d : ref1_Columns_C1_D} : Approx (fun N => ref1_Columns_C1 (pcN N) (lN N) d) (ref1_Columns_C1 pc lp d) := by
  delta ref1_Columns_C1
  exact (Approx.ifd (Approx.ifd (Approx.bnd (Approx.bnd (ref1_In_ca E) fun x10 => (Approx.const _)) fun x11 => (Approx.ifd (Approx.const _) (Approx.const _))) (Approx.ifd Approx.none (Approx.const _))) Approx.none)

-- ref1_Columns, part 15655
abbrev ref1_Columns_C2_D := (((List (List Int)) × (Int × (Int × ((List Int) × (Int × Unit))))) × Unit)
abbrev ref1_Columns_C2_X := (((List (List Int)) × (Int × (Int × ((List Int) × (Bool × Unit))))) × Unit)
noncomputable def ref1_Columns_C2 (pc : PC prog) (lp : LP) (d : ref1_Columns_C2_D) : Option ref1_Columns_C2_X :=
  ifd ((decide (((0 : Int) ≤ 0) ∧ ((0 : Int) < (((List.length d.1.2.2.2.1) : Nat) : Int)))) = true) (
    ifd ((decide ((List.getD d.1.2.2.2.1 (Int.toNat 0) 0) ≥ 0)) = true) (
      ifd ((decide ((List.getD d.1.2.2.2.1 (Int.toNat 0) 0) ≥ 0)) = true) (
        some ((d.1.1, d.1.2.1, d.1.2.2.1, d.1.2.2.2.1, (d.1.2.2.2.2.1 == 6), ()), ())) (
        some ((d.1.1, d.1.2.1, d.1.2.2.1, d.1.2.2.2.1, false, ()), ()))) (
      ifd ((decide ((List.getD d.1.2.2.2.1 (Int.toNat 0) 0) ≥ 0)) = true) (
        none) (
        some ((d.1.1, d.1.2.1, d.1.2.2.1, d.1.2.2.2.1, false, ()), ())))) (
    none)
theorem ref1_Columns_C2_a (E : AppE prog pcN pc lN lp) {d : ref1_Columns_C2_D} : Approx (fun N => ref1_Columns_C2 (pcN N) (lN N) d) (ref1_Columns_C2 pc lp d) := by
  delta ref1_Columns_C2
  exact (Approx.ifd (Approx.ifd (Approx.ifd (Approx.const _) (Approx.const _)) (Approx.ifd Approx.none (Approx.const _))) Approx.none)

-- ref1_Columns, loop 250490
abbrev ref1_Columns_L3_D := (((List (List Int)) × (Int × (Int × ((List Int) × (Bool × (Int × Unit)))))) × Unit)
abbrev ref1_Columns_L3_X := (((List (List Int)) × (Int × (Int × (Bool × Unit)))) × Unit)
noncomputable def ref1_Columns_L3_R (pc : PC prog) (lp : LP) (ψ : ref1_Columns_L3_D → Option ref1_Columns_L3_X) (d : ref1_Columns_L3_D) : Option ref1_Columns_L3_X :=
  ifd ((decide (d.1.2.2.2.2.2.1 < (((List.length d.1.2.2.2.1) : Nat) : Int))) = true) (
    ifd (d.1.2.2.2.2.1 = true) (
      ifd (d.1.2.2.2.2.1 = true) (
        ψ ((d.1.1, d.1.2.1, d.1.2.2.1, d.1.2.2.2.1, true, (Go.IntKind.wrap .i64 (d.1.2.2.2.2.2.1 + 1)), ()), ())) (
        none)) (
      ifd ((decide (((0 : Int) ≤ d.1.2.2.2.2.2.1) ∧ (d.1.2.2.2.2.2.1 < (((List.length d.1.2.2.2.1) : Nat) : Int)))) = true) (
        bnd (bnd (ref1_Wide_c pc (List.getD d.1.2.2.2.1 (Int.toNat d.1.2.2.2.2.2.1) 0)) fun (x16 : Bool) =>
        some x16) fun (x17 : Bool) =>
        ifd (d.1.2.2.2.2.1 = true) (
          ψ ((d.1.1, d.1.2.1, d.1.2.2.1, d.1.2.2.2.1, true, (Go.IntKind.wrap .i64 (d.1.2.2.2.2.2.1 + 1)), ()), ())) (
          ψ ((d.1.1, d.1.2.1, d.1.2.2.1, d.1.2.2.2.1, x17, (Go.IntKind.wrap .i64 (d.1.2.2.2.2.2.1 + 1)), ()), ()))) (
        none))) (
    some ((d.1.1, d.1.2.1, d.1.2.2.1, d.1.2.2.2.2.1, ()), ()))
noncomputable def ref1_Columns_L3 (pc : PC prog) (lp : LP) (d : ref1_Columns_L3_D) : Option ref1_Columns_L3_X := lp ref1_Columns_L3_D ref1_Columns_L3_X (ref1_Columns_L3_R pc lp) d
theorem ref1_Columns_L3_ap (E : AppE prog pcN pc lN lp) : ContR (fun N => ref1_Columns_L3_R (pcN N) (lN N)) (ref1_Columns_L3_R pc lp) := fun ψN ψ h d => by
  delta ref1_Columns_L3_R
  exact (Approx.ifd (Approx.ifd (Approx.ifd (h _) Approx.none) (Approx.ifd (Approx.bnd (Approx.bnd (ref1_Wide_ca E) fun x16 => (Approx.const _)) fun x17 => (Approx.ifd (h _) (h _))) Approx.none)) (Approx.const _))
theorem ref1_Columns_L3_a (E : AppE prog pcN pc lN lp) {d : ref1_Columns_L3_D} : Approx (fun N => ref1_Columns_L3 (pcN N) (lN N) d) (ref1_Columns_L3 pc lp d) := E.loop (ref1_Columns_L3_ap E) d
theorem ref1_Columns_L3_of {d : ref1_Columns_L3_D} {x : ref1_Columns_L3_X} (h : ref1_Columns_L3_R (pcL prog cfg) lpL (ref1_Columns_L3 (pcL prog cfg) lpL) d = some x) : ref1_Columns_L3 (pcL prog cfg) lpL d = some x := lpL_step (ref1_Columns_L3_ap (appL prog cfg)) h

-- ref1_Columns, loop 122
abbrev ref1_Columns_L4_D := (((List (List Int)) × (Int × (Int × Unit))) × Unit)
abbrev ref1_Columns_L4_X := ((Int × Unit) × Unit)
noncomputable def ref1_Columns_L4_R (pc : PC prog) (lp : LP) (ψ : ref1_Columns_L4_D → Option ref1_Columns_L4_X) (d : ref1_Columns_L4_D) : Option ref1_Columns_L4_X :=
  ifd ((decide (d.1.2.2.1 < (((List.length d.1.1) : Nat) : Int))) = true) (
    ifd ((decide (((0 : Int) ≤ d.1.2.2.1) ∧ (d.1.2.2.1 < (((List.length d.1.1) : Nat) : Int)))) = true) (
      bnd (bnd (ref1_Runes_c pc (List.getD d.1.1 (Int.toNat d.1.2.2.1) ([] : List Int))) fun (x19 : (List Int)) =>
      some x19) fun (x20 : (List Int)) =>
      ifd ((decide (((0 : Int) ≤ 0) ∧ ((0 : Int) < (((List.length x20) : Nat) : Int)))) = true) (
        bnd (bnd (ref1_Class_c pc (List.getD x20 (Int.toNat 0) 0)) fun (x21 : Int) =>
        some x21) fun (x22 : Int) =>
        bnd (ref1_Columns_C1 pc lp ((d.1.1, d.1.2.1, d.1.2.2.1, x20, x22, ()), ())) (fun (y23 : (((List (List Int)) × (Int × (Int × ((List Int) × (Int × (Bool × Unit)))))) × Unit)) =>
        ifd (y23.1.2.2.2.2.2.1 = true) (
          ψ ((y23.1.1, y23.1.2.1, (Go.IntKind.wrap .i64 (y23.1.2.2.1 + 1)), ()), ())) (
          bnd (ref1_Columns_C2 pc lp ((y23.1.1, y23.1.2.1, y23.1.2.2.1, y23.1.2.2.2.1, y23.1.2.2.2.2.1, ()), ())) (fun (y24 : (((List (List Int)) × (Int × (Int × ((List Int) × (Bool × Unit))))) × Unit)) =>
          bnd (ref1_Columns_L3 pc lp ((y24.1.1, y24.1.2.1, y24.1.2.2.1, y24.1.2.2.2.1, y24.1.2.2.2.2.1, 0, ()), ())) (fun (y25 : (((List (List Int)) × (Int × (Int × (Bool × Unit)))) × Unit)) =>
          ifd (y25.1.2.2.2.1 = true) (
            ψ ((y25.1.1, (Go.IntKind.wrap .i64 ((Go.IntKind.wrap .i64 (y25.1.2.1 + 1)) + 1)), (Go.IntKind.wrap .i64 (y25.1.2.2.1 + 1)), ()), ())) (
            ψ ((y25.1.1, (Go.IntKind.wrap .i64 (y25.1.2.1 + 1)), (Go.IntKind.wrap .i64 (y25.1.2.2.1 + 1)), ()), ()))))))) (
        none)) (
      none)) (
    some ((d.1.2.1, ()), ()))
noncomputable def ref1_Columns_L4 (pc : PC prog) (lp : LP) (d : ref1_Columns_L4_D) : Option ref1_Columns_L4_X := lp ref1_Columns_L4_D ref1_Columns_L4_X (ref1_Columns_L4_R pc lp) d
theorem ref1_Columns_L4_ap (E : AppE prog pcN pc lN lp) : ContR (fun N => ref1_Columns_L4_R (pcN N) (lN N)) (ref1_Columns_L4_R pc lp) := fun ψN ψ h d => by
  delta ref1_Columns_L4_R
  exact (Approx.ifd (Approx.ifd (Approx.bnd (Approx.bnd (ref1_Runes_ca E) fun x19 => (Approx.const _)) fun x20 => (Approx.ifd (Approx.bnd (Approx.bnd (ref1_Class_ca E) fun x21 => (Approx.const _)) fun x22 => (Approx.bnd (ref1_Columns_C1_a E) (fun y23 => (Approx.ifd (h _) (Approx.bnd (ref1_Columns_C2_a E) (fun y24 => (Approx.bnd (ref1_Columns_L3_a E) (fun y25 => (Approx.ifd (h _) (h _)))))))))) Approx.none)) Approx.none) (Approx.const _))
theorem ref1_Columns_L4_a (E : AppE prog pcN pc lN lp) {d : ref1_Columns_L4_D} : Approx (fun N => ref1_Columns_L4 (pcN N) (lN N) d) (ref1_Columns_L4 pc lp d) := E.loop (ref1_Columns_L4_ap E) d
theorem ref1_Columns_L4_of {d : ref1_Columns_L4_D} {x : ref1_Columns_L4_X} (h : ref1_Columns_L4_R (pcL prog cfg) lpL (ref1_Columns_L4 (pcL prog cfg) lpL) d = some x) : ref1_Columns_L4 (pcL prog cfg) lpL d = some x := lpL_step (ref1_Columns_L4_ap (appL prog cfg)) h

noncomputable def ref1_Columns_B (pc : PC prog) (lp : LP) (a0 : List Int) : Option Int :=
  bnd (bnd (ref1_Pieces_c pc a0) fun (x0 : (List (List Int))) =>
  some x0) fun (x1 : (List (List Int))) =>
  bnd (ref1_Columns_L4 pc lp ((x1, 0, 0, ()), ())) (fun (y26 : ((Int × Unit) × Unit)) =>
  some y26.1.1)
theorem ref1_Columns_eq (a0 : List Int) (pc : PC prog) (lp : LP) : got ref1_Columns_t (pcall prog (runO prog cfg (hand prog cfg lp pc 6 tbl 5) pc 6) 15 [(.c (.str a0))]) = ref1_Columns_B pc lp a0 := by kernel_rfl
theorem ref1_Columns_ap (E : AppE prog pcN pc lN lp) (a0 : List Int) : Approx (fun N => ref1_Columns_B (pcN N) (lN N) a0) (ref1_Columns_B pc lp a0) := by
  delta ref1_Columns_B
  exact (Approx.bnd (Approx.bnd (ref1_Pieces_ca E) fun x0 => (Approx.const _)) fun x1 => (Approx.bnd (ref1_Columns_L4_a E) (fun y26 => (Approx.const _))))
theorem ref1_Columns_of {a0 : List Int} {y : Int} (h : ref1_Columns_B (pcL prog cfg) lpL a0 = some y) : ref1_Columns_c (pcL prog cfg) a0 = some y := fn_of rfl (ref1_Columns_eq a0) (ref1_Columns_ap (appN prog cfg) a0) h

-- unicode_utf8_DecodeRuneInString, part 6
abbrev unicode_utf8_DecodeRuneInString_C1_D := (((List Int) × Unit) × Unit)
abbrev unicode_utf8_DecodeRuneInString_C1_X := (((List Int) × (Bool × Unit)) × Unit)
noncomputable def unicode_utf8_DecodeRuneInString_C1 (pc : PC prog) (lp : LP) (d : unicode_utf8_DecodeRuneInString_C1_D) : Option unicode_utf8_DecodeRuneInString_C1_X :=
  ifd ((!(d.1.1 == ([] : List Int))) = true) (
    ifd ((decide (((0 : Int) ≤ 0) ∧ ((0 : Int) < (((List.length d.1.1) : Nat) : Int)))) = true) (
      ifd ((!(d.1.1 == ([] : List Int))) = true) (
        some ((d.1.1, (decide ((List.getD d.1.1 (Int.toNat 0) 0) < 128)), ()), ())) (
        some ((d.1.1, false, ()), ()))) (
      none)) (
    ifd ((!(d.1.1 == ([] : List Int))) = true) (
      none) (
      some ((d.1.1, false, ()), ())))
theorem unicode_utf8_DecodeRuneInString_C1_a (E : AppE prog pcN pc lN lp) {d : unicode_utf8_DecodeRuneInString_C1_D} : Approx (fun N => unicode_utf8_DecodeRuneInString_C1 (pcN N) (lN N) d) (unicode_utf8_DecodeRuneInString_C1 pc lp d) := by
  delta unicode_utf8_DecodeRuneInString_C1
  exact (Approx.ifd (Approx.ifd (Approx.ifd (Approx.const _) (Approx.const _)) Approx.none) (Approx.ifd Approx.none (Approx.const _)))

noncomputable def unicode_utf8_DecodeRuneInString_B (pc : PC prog) (lp : LP) (a0 : List Int) : Option (Int × (Int × Unit)) :=
  bnd (unicode_utf8_DecodeRuneInString_C1 pc lp ((a0, ()), ())) (fun (y0 : (((List Int) × (Bool × Unit)) × Unit)) =>
  ifd (y0.1.2.1 = true) (
    ifd ((decide (((0 : Int) ≤ 0) ∧ ((0 : Int) < (((List.length y0.1.1) : Nat) : Int)))) = true) (
      some ((Go.IntKind.wrap .i32 (List.getD y0.1.1 (Int.toNat 0) 0)), (1, ()))) (
      none)) (
    bnd (bnd (unicode_utf8_decodeRuneInStringSlow_c pc y0.1.1) fun (x1 : (Int × (Int × Unit))) =>
    some (x1.1, (x1.2.1, ()))) fun (x2 : (Int × (Int × Unit))) =>
    some (x2.1, (x2.2.1, ()))))
theorem unicode_utf8_DecodeRuneInString_eq (a0 : List Int) (pc : PC prog) (lp : LP) : got unicode_utf8_DecodeRuneInString_t (pcall prog (runO prog cfg (hand prog cfg lp pc 6 tbl 5) pc 6) 25 [(.c (.str a0))]) = unicode_utf8_DecodeRuneInString_B pc lp a0 := by kernel_rfl
theorem unicode_utf8_DecodeRuneInString_ap (E : AppE prog pcN pc lN lp) (a0 : List Int) : Approx (fun N => unicode_utf8_DecodeRuneInString_B (pcN N) (lN N) a0) (unicode_utf8_DecodeRuneInString_B pc lp a0) := by
  delta unicode_utf8_DecodeRuneInString_B
  exact (Approx.bnd (unicode_utf8_DecodeRuneInString_C1_a E) (fun y0 => (Approx.ifd (Approx.ifd (Approx.const _) Approx.none) (Approx.bnd (Approx.bnd (unicode_utf8_decodeRuneInStringSlow_ca E) fun x1 => (Approx.const _)) fun x2 => (Approx.const _)))))
theorem unicode_utf8_DecodeRuneInString_of {a0 : List Int} {y : (Int × (Int × Unit))} (h : unicode_utf8_DecodeRuneInString_B (pcL prog cfg) lpL a0 = some y) : unicode_utf8_DecodeRuneInString_c (pcL prog cfg) a0 = some y := fn_of rfl (unicode_utf8_DecodeRuneInString_eq a0) (unicode_utf8_DecodeRuneInString_ap (appN prog cfg) a0) h

-- grapheme_class, loop 26
abbrev grapheme_class_L1_D := ((Int × ((Int × (Int × (Int × (Int × (Int × (Int × (Int × (Int × (Int × (Int × (Int × (Int × (Int × (Int × (Int × (Int × (Int × (Int × (Int × (Int × (Int × (Int × (Int × (Int × (Int × (Int × (Int × (Int × (Int × (Int × (Int × (Int × (Int × (Int × (Int × (Int × (Int × (Int × (Int × (Int × (Int × (Int × (Int × (Int × (Int × (Int × (Int × (Int × Unit)))))))))))))))))))))))))))))))))))))))))))))))) × (Int × Unit))) × Unit)
abbrev grapheme_class_L1_X := (((Int × Unit) × Unit) ⊕ (Unit × Unit))
noncomputable def grapheme_class_L1_R (pc : PC prog) (lp : LP) (ψ : grapheme_class_L1_D → Option grapheme_class_L1_X) (d : grapheme_class_L1_D) : Option grapheme_class_L1_X :=
  ifd ((decide (d.1.2.2.1 < 16)) = true) (
    ifd ((decide (((0 : Int) ≤ d.1.2.2.1) ∧ (d.1.2.2.1 < 16))) = true) (
      ifd ((decide (d.1.1 ≥ (List.getD ([(d.1.2.1.1, (d.1.2.1.2.1, (d.1.2.1.2.2.1, ()))), (d.1.2.1.2.2.2.1, (d.1.2.1.2.2.2.2.1, (d.1.2.1.2.2.2.2.2.1, ()))), (d.1.2.1.2.2.2.2.2.2.1, (d.1.2.1.2.2.2.2.2.2.2.1, (d.1.2.1.2.2.2.2.2.2.2.2.1, ()))), (d.1.2.1.2.2.2.2.2.2.2.2.2.1, (d.1.2.1.2.2.2.2.2.2.2.2.2.2.1, (d.1.2.1.2.2.2.2.2.2.2.2.2.2.2.1, ()))), (d.1.2.1.2.2.2.2.2.2.2.2.2.2.2.2.1, (d.1.2.1.2.2.2.2.2.2.2.2.2.2.2.2.2.1, (d.1.2.1.2.2.2.2.2.2.2.2.2.2.2.2.2.2.1, ()))), (d.1.2.1.2.2.2.2.2.2.2.2.2.2.2.2.2.2.2.1, (d.1.2.1.2.2.2.2.2.2.2.2.2.2.2.2.2.2.2.2.1, (d.1.2.1.2.2.2.2.2.2.2.2.2.2.2.2.2.2.2.2.2.1, ()))), (d.1.2.1.2.2.2.2.2.2.2.2.2.2.2.2.2.2.2.2.2.2.1, (d.1.2.1.2.2.2.2.2.2.2.2.2.2.2.2.2.2.2.2.2.2.2.1, (d.1.2.1.2.2.2.2.2.2.2.2.2.2.2.2.2.2.2.2.2.2.2.2.1, ()))), (d.1.2.1.2.2.2.2.2.2.2.2.2.2.2.2.2.2.2.2.2.2.2.2.2.1, (d.1.2.1.2.2.2.2.2.2.2.2.2.2.2.2.2.2.2.2.2.2.2.2.2.2.1, (d.1.2.1.2.2.2.2.2.2.2.2.2.2.2.2.2.2.2.2.2.2.2.2.2.2.2.1, ()))), (d.1.2.1.2.2.2.2.2.2.2.2.2.2.2.2.2.2.2.2.2.2.2.2.2.2.2.2.1, (d.1.2.1.2.2.2.2.2.2.2.2.2.2.2.2.2.2.2.2.2.2.2.2.2.2.2.2.2.1, (d.1.2.1.2.2.2.2.2.2.2.2.2.2.2.2.2.2.2.2.2.2.2.2.2.2.2.2.2.2.1, ()))), (d.1.2.1.2.2.2.2.2.2.2.2.2.2.2.2.2.2.2.2.2.2.2.2.2.2.2.2.2.2.2.1, (d.1.2.1.2.2.2.2.2.2.2.2.2.2.2.2.2.2.2.2.2.2.2.2.2.2.2.2.2.2.2.2.1, (d.1.2.1.2.2.2.2.2.2.2.2.2.2.2.2.2.2.2.2.2.2.2.2.2.2.2.2.2.2.2.2.2.1, ()))), (d.1.2.1.2.2.2.2.2.2.2.2.2.2.2.2.2.2.2.2.2.2.2.2.2.2.2.2.2.2.2.2.2.2.1, (d.1.2.1.2.2.2.2.2.2.2.2.2.2.2.2.2.2.2.2.2.2.2.2.2.2.2.2.2.2.2.2.2.2.2.1, (d.1.2.1.2.2.2.2.2.2.2.2.2.2.2.2.2.2.2.2.2.2.2.2.2.2.2.2.2.2.2.2.2.2.2.2.1, ()))), (d.1.2.1.2.2.2.2.2.2.2.2.2.2.2.2.2.2.2.2.2.2.2.2.2.2.2.2.2.2.2.2.2.2.2.2.2.1, (d.1.2.1.2.2.2.2.2.2.2.2.2.2.2.2.2.2.2.2.2.2.2.2.2.2.2.2.2.2.2.2.2.2.2.2.2.2.1, (d.1.2.1.2.2.2.2.2.2.2.2.2.2.2.2.2.2.2.2.2.2.2.2.2.2.2.2.2.2.2.2.2.2.2.2.2.2.2.1, ()))), (d.1.2.1.2.2.2.2.2.2.2.2.2.2.2.2.2.2.2.2.2.2.2.2.2.2.2.2.2.2.2.2.2.2.2.2.2.2.2.2.1, (d.1.2.1.2.2.2.2.2.2.2.2.2.2.2.2.2.2.2.2.2.2.2.2.2.2.2.2.2.2.2.2.2.2.2.2.2.2.2.2.2.1, (d.1.2.1.2.2.2.2.2.2.2.2.2.2.2.2.2.2.2.2.2.2.2.2.2.2.2.2.2.2.2.2.2.2.2.2.2.2.2.2.2.2.1, ()))), (d.1.2.1.2.2.2.2.2.2.2.2.2.2.2.2.2.2.2.2.2.2.2.2.2.2.2.2.2.2.2.2.2.2.2.2.2.2.2.2.2.2.2.1, (d.1.2.1.2.2.2.2.2.2.2.2.2.2.2.2.2.2.2.2.2.2.2.2.2.2.2.2.2.2.2.2.2.2.2.2.2.2.2.2.2.2.2.2.1, (d.1.2.1.2.2.2.2.2.2.2.2.2.2.2.2.2.2.2.2.2.2.2.2.2.2.2.2.2.2.2.2.2.2.2.2.2.2.2.2.2.2.2.2.2.1, ()))), (d.1.2.1.2.2.2.2.2.2.2.2.2.2.2.2.2.2.2.2.2.2.2.2.2.2.2.2.2.2.2.2.2.2.2.2.2.2.2.2.2.2.2.2.2.2.1, (d.1.2.1.2.2.2.2.2.2.2.2.2.2.2.2.2.2.2.2.2.2.2.2.2.2.2.2.2.2.2.2.2.2.2.2.2.2.2.2.2.2.2.2.2.2.2.1, (d.1.2.1.2.2.2.2.2.2.2.2.2.2.2.2.2.2.2.2.2.2.2.2.2.2.2.2.2.2.2.2.2.2.2.2.2.2.2.2.2.2.2.2.2.2.2.2.1, ()))), (d.1.2.1.2.2.2.2.2.2.2.2.2.2.2.2.2.2.2.2.2.2.2.2.2.2.2.2.2.2.2.2.2.2.2.2.2.2.2.2.2.2.2.2.2.2.2.2.2.1, (d.1.2.1.2.2.2.2.2.2.2.2.2.2.2.2.2.2.2.2.2.2.2.2.2.2.2.2.2.2.2.2.2.2.2.2.2.2.2.2.2.2.2.2.2.2.2.2.2.2.1, (d.1.2.1.2.2.2.2.2.2.2.2.2.2.2.2.2.2.2.2.2.2.2.2.2.2.2.2.2.2.2.2.2.2.2.2.2.2.2.2.2.2.2.2.2.2.2.2.2.2.2.1, ())))] : List (Int × (Int × (Int × Unit)))) (Int.toNat d.1.2.2.1) (0, (0, (0, ())))).1)) = true) (
        ifd ((decide (d.1.1 ≥ (List.getD ([(d.1.2.1.1, (d.1.2.1.2.1, (d.1.2.1.2.2.1, ()))), (d.1.2.1.2.2.2.1, (d.1.2.1.2.2.2.2.1, (d.1.2.1.2.2.2.2.2.1, ()))), (d.1.2.1.2.2.2.2.2.2.1, (d.1.2.1.2.2.2.2.2.2.2.1, (d.1.2.1.2.2.2.2.2.2.2.2.1, ()))), (d.1.2.1.2.2.2.2.2.2.2.2.2.1, (d.1.2.1.2.2.2.2.2.2.2.2.2.2.1, (d.1.2.1.2.2.2.2.2.2.2.2.2.2.2.1, ()))), (d.1.2.1.2.2.2.2.2.2.2.2.2.2.2.2.1, (d.1.2.1.2.2.2.2.2.2.2.2.2.2.2.2.2.1, (d.1.2.1.2.2.2.2.2.2.2.2.2.2.2.2.2.2.1, ()))), (d.1.2.1.2.2.2.2.2.2.2.2.2.2.2.2.2.2.2.1, (d.1.2.1.2.2.2.2.2.2.2.2.2.2.2.2.2.2.2.2.1, (d.1.2.1.2.2.2.2.2.2.2.2.2.2.2.2.2.2.2.2.2.1, ()))), (d.1.2.1.2.2.2.2.2.2.2.2.2.2.2.2.2.2.2.2.2.2.1, (d.1.2.1.2.2.2.2.2.2.2.2.2.2.2.2.2.2.2.2.2.2.2.1, (d.1.2.1.2.2.2.2.2.2.2.2.2.2.2.2.2.2.2.2.2.2.2.2.1, ()))), (d.1.2.1.2.2.2.2.2.2.2.2.2.2.2.2.2.2.2.2.2.2.2.2.2.1, (d.1.2.1.2.2.2.2.2.2.2.2.2.2.2.2.2.2.2.2.2.2.2.2.2.2.1, (d.1.2.1.2.2.2.2.2.2.2.2.2.2.2.2.2.2.2.2.2.2.2.2.2.2.2.1, ()))), (d.1.2.1.2.2.2.2.2.2.2.2.2.2.2.2.2.2.2.2.2.2.2.2.2.2.2.2.1, (d.1.2.1.2.2.2.2.2.2.2.2.2.2.2.2.2.2.2.2.2.2.2.2.2.2.2.2.2.1, (d.1.2.1.2.2.2.2.2.2.2.2.2.2.2.2.2.2.2.2.2.2.2.2.2.2.2.2.2.2.1, ()))), (d.1.2.1.2.2.2.2.2.2.2.2.2.2.2.2.2.2.2.2.2.2.2.2.2.2.2.2.2.2.2.1, (d.1.2.1.2.2.2.2.2.2.2.2.2.2.2.2.2.2.2.2.2.2.2.2.2.2.2.2.2.2.2.2.1, (d.1.2.1.2.2.2.2.2.2.2.2.2.2.2.2.2.2.2.2.2.2.2.2.2.2.2.2.2.2.2.2.2.1, ()))), (d.1.2.1.2.2.2.2.2.2.2.2.2.2.2.2.2.2.2.2.2.2.2.2.2.2.2.2.2.2.2.2.2.2.1, (d.1.2.1.2.2.2.2.2.2.2.2.2.2.2.2.2.2.2.2.2.2.2.2.2.2.2.2.2.2.2.2.2.2.2.1, (d.1.2.1.2.2.2.2.2.2.2.2.2.2.2.2.2.2.2.2.2.2.2.2.2.2.2.2.2.2.2.2.2.2.2.2.1, ()))), (d.1.2.1.2.2.2.2.2.2.2.2.2.2.2.2.2.2.2.2.2.2.2.2.2.2.2.2.2.2.2.2.2.2.2.2.2.1, (d.1.2.1.2.2.2.2.2.2.2.2.2.2.2.2.2.2.2.2.2.2.2.2.2.2.2.2.2.2.2.2.2.2.2.2.2.2.1, (d.1.2.1.2.2.2.2.2.2.2.2.2.2.2.2.2.2.2.2.2.2.2.2.2.2.2.2.2.2.2.2.2.2.2.2.2.2.2.1, ()))), (d.1.2.1.2.2.2.2.2.2.2.2.2.2.2.2.2.2.2.2.2.2.2.2.2.2.2.2.2.2.2.2.2.2.2.2.2.2.2.2.1, (d.1.2.1.2.2.2.2.2.2.2.2.2.2.2.2.2.2.2.2.2.2.2.2.2.2.2.2.2.2.2.2.2.2.2.2.2.2.2.2.2.1, (d.1.2.1.2.2.2.2.2.2.2.2.2.2.2.2.2.2.2.2.2.2.2.2.2.2.2.2.2.2.2.2.2.2.2.2.2.2.2.2.2.2.1, ()))), (d.1.2.1.2.2.2.2.2.2.2.2.2.2.2.2.2.2.2.2.2.2.2.2.2.2.2.2.2.2.2.2.2.2.2.2.2.2.2.2.2.2.2.1, (d.1.2.1.2.2.2.2.2.2.2.2.2.2.2.2.2.2.2.2.2.2.2.2.2.2.2.2.2.2.2.2.2.2.2.2.2.2.2.2.2.2.2.2.1, (d.1.2.1.2.2.2.2.2.2.2.2.2.2.2.2.2.2.2.2.2.2.2.2.2.2.2.2.2.2.2.2.2.2.2.2.2.2.2.2.2.2.2.2.2.1, ()))), (d.1.2.1.2.2.2.2.2.2.2.2.2.2.2.2.2.2.2.2.2.2.2.2.2.2.2.2.2.2.2.2.2.2.2.2.2.2.2.2.2.2.2.2.2.2.1, (d.1.2.1.2.2.2.2.2.2.2.2.2.2.2.2.2.2.2.2.2.2.2.2.2.2.2.2.2.2.2.2.2.2.2.2.2.2.2.2.2.2.2.2.2.2.2.1, (d.1.2.1.2.2.2.2.2.2.2.2.2.2.2.2.2.2.2.2.2.2.2.2.2.2.2.2.2.2.2.2.2.2.2.2.2.2.2.2.2.2.2.2.2.2.2.2.1, ()))), (d.1.2.1.2.2.2.2.2.2.2.2.2.2.2.2.2.2.2.2.2.2.2.2.2.2.2.2.2.2.2.2.2.2.2.2.2.2.2.2.2.2.2.2.2.2.2.2.2.1, (d.1.2.1.2.2.2.2.2.2.2.2.2.2.2.2.2.2.2.2.2.2.2.2.2.2.2.2.2.2.2.2.2.2.2.2.2.2.2.2.2.2.2.2.2.2.2.2.2.2.1, (d.1.2.1.2.2.2.2.2.2.2.2.2.2.2.2.2.2.2.2.2.2.2.2.2.2.2.2.2.2.2.2.2.2.2.2.2.2.2.2.2.2.2.2.2.2.2.2.2.2.2.1, ())))] : List (Int × (Int × (Int × Unit)))) (Int.toNat d.1.2.2.1) (0, (0, (0, ())))).1)) = true) (
          ifd ((decide (d.1.1 ≤ (List.getD ([(d.1.2.1.1, (d.1.2.1.2.1, (d.1.2.1.2.2.1, ()))), (d.1.2.1.2.2.2.1, (d.1.2.1.2.2.2.2.1, (d.1.2.1.2.2.2.2.2.1, ()))), (d.1.2.1.2.2.2.2.2.2.1, (d.1.2.1.2.2.2.2.2.2.2.1, (d.1.2.1.2.2.2.2.2.2.2.2.1, ()))), (d.1.2.1.2.2.2.2.2.2.2.2.2.1, (d.1.2.1.2.2.2.2.2.2.2.2.2.2.1, (d.1.2.1.2.2.2.2.2.2.2.2.2.2.2.1, ()))), (d.1.2.1.2.2.2.2.2.2.2.2.2.2.2.2.1, (d.1.2.1.2.2.2.2.2.2.2.2.2.2.2.2.2.1, (d.1.2.1.2.2.2.2.2.2.2.2.2.2.2.2.2.2.1, ()))), (d.1.2.1.2.2.2.2.2.2.2.2.2.2.2.2.2.2.2.1, (d.1.2.1.2.2.2.2.2.2.2.2.2.2.2.2.2.2.2.2.1, (d.1.2.1.2.2.2.2.2.2.2.2.2.2.2.2.2.2.2.2.2.1, ()))), (d.1.2.1.2.2.2.2.2.2.2.2.2.2.2.2.2.2.2.2.2.2.1, (d.1.2.1.2.2.2.2.2.2.2.2.2.2.2.2.2.2.2.2.2.2.2.1, (d.1.2.1.2.2.2.2.2.2.2.2.2.2.2.2.2.2.2.2.2.2.2.2.1, ()))), (d.1.2.1.2.2.2.2.2.2.2.2.2.2.2.2.2.2.2.2.2.2.2.2.2.1, (d.1.2.1.2.2.2.2.2.2.2.2.2.2.2.2.2.2.2.2.2.2.2.2.2.2.1, (d.1.2.1.2.2.2.2.2.2.2.2.2.2.2.2.2.2.2.2.2.2.2.2.2.2.2.1, ()))), (d.1.2.1.2.2.2.2.2.2.2.2.2.2.2.2.2.2.2.2.2.2.2.2.2.2.2.2.1, (d.1.2.1.2.2.2.2.2.2.2.2.2.2.2.2.2.2.2.2.2.2.2.2.2.2.2.2.2.1, (d.1.2.1.2.2.2.2.2.2.2.2.2.2.2.2.2.2.2.2.2.2.2.2.2.2.2.2.2.2.1, ()))), (d.1.2.1.2.2.2.2.2.2.2.2.2.2.2.2.2.2.2.2.2.2.2.2.2.2.2.2.2.2.2.1, (d.1.2.1.2.2.2.2.2.2.2.2.2.2.2.2.2.2.2.2.2.2.2.2.2.2.2.2.2.2.2.2.1, (d.1.2.1.2.2.2.2.2.2.2.2.2.2.2.2.2.2.2.2.2.2.2.2.2.2.2.2.2.2.2.2.2.1, ()))), (d.1.2.1.2.2.2.2.2.2.2.2.2.2.2.2.2.2.2.2.2.2.2.2.2.2.2.2.2.2.2.2.2.2.1, (d.1.2.1.2.2.2.2.2.2.2.2.2.2.2.2.2.2.2.2.2.2.2.2.2.2.2.2.2.2.2.2.2.2.2.1, (d.1.2.1.2.2.2.2.2.2.2.2.2.2.2.2.2.2.2.2.2.2.2.2.2.2.2.2.2.2.2.2.2.2.2.2.1, ()))), (d.1.2.1.2.2.2.2.2.2.2.2.2.2.2.2.2.2.2.2.2.2.2.2.2.2.2.2.2.2.2.2.2.2.2.2.2.1, (d.1.2.1.2.2.2.2.2.2.2.2.2.2.2.2.2.2.2.2.2.2.2.2.2.2.2.2.2.2.2.2.2.2.2.2.2.2.1, (d.1.2.1.2.2.2.2.2.2.2.2.2.2.2.2.2.2.2.2.2.2.2.2.2.2.2.2.2.2.2.2.2.2.2.2.2.2.2.1, ()))), (d.1.2.1.2.2.2.2.2.2.2.2.2.2.2.2.2.2.2.2.2.2.2.2.2.2.2.2.2.2.2.2.2.2.2.2.2.2.2.2.1, (d.1.2.1.2.2.2.2.2.2.2.2.2.2.2.2.2.2.2.2.2.2.2.2.2.2.2.2.2.2.2.2.2.2.2.2.2.2.2.2.2.1, (d.1.2.1.2.2.2.2.2.2.2.2.2.2.2.2.2.2.2.2.2.2.2.2.2.2.2.2.2.2.2.2.2.2.2.2.2.2.2.2.2.2.1, ()))), (d.1.2.1.2.2.2.2.2.2.2.2.2.2.2.2.2.2.2.2.2.2.2.2.2.2.2.2.2.2.2.2.2.2.2.2.2.2.2.2.2.2.2.1, (d.1.2.1.2.2.2.2.2.2.2.2.2.2.2.2.2.2.2.2.2.2.2.2.2.2.2.2.2.2.2.2.2.2.2.2.2.2.2.2.2.2.2.2.1, (d.1.2.1.2.2.2.2.2.2.2.2.2.2.2.2.2.2.2.2.2.2.2.2.2.2.2.2.2.2.2.2.2.2.2.2.2.2.2.2.2.2.2.2.2.1, ()))), (d.1.2.1.2.2.2.2.2.2.2.2.2.2.2.2.2.2.2.2.2.2.2.2.2.2.2.2.2.2.2.2.2.2.2.2.2.2.2.2.2.2.2.2.2.2.1, (d.1.2.1.2.2.2.2.2.2.2.2.2.2.2.2.2.2.2.2.2.2.2.2.2.2.2.2.2.2.2.2.2.2.2.2.2.2.2.2.2.2.2.2.2.2.2.1, (d.1.2.1.2.2.2.2.2.2.2.2.2.2.2.2.2.2.2.2.2.2.2.2.2.2.2.2.2.2.2.2.2.2.2.2.2.2.2.2.2.2.2.2.2.2.2.2.1, ()))), (d.1.2.1.2.2.2.2.2.2.2.2.2.2.2.2.2.2.2.2.2.2.2.2.2.2.2.2.2.2.2.2.2.2.2.2.2.2.2.2.2.2.2.2.2.2.2.2.2.1, (d.1.2.1.2.2.2.2.2.2.2.2.2.2.2.2.2.2.2.2.2.2.2.2.2.2.2.2.2.2.2.2.2.2.2.2.2.2.2.2.2.2.2.2.2.2.2.2.2.2.1, (d.1.2.1.2.2.2.2.2.2.2.2.2.2.2.2.2.2.2.2.2.2.2.2.2.2.2.2.2.2.2.2.2.2.2.2.2.2.2.2.2.2.2.2.2.2.2.2.2.2.2.1, ())))] : List (Int × (Int × (Int × Unit)))) (Int.toNat d.1.2.2.1) (0, (0, (0, ())))).2.1)) = true) (
            some (Sum.inl (((List.getD ([(d.1.2.1.1, (d.1.2.1.2.1, (d.1.2.1.2.2.1, ()))), (d.1.2.1.2.2.2.1, (d.1.2.1.2.2.2.2.1, (d.1.2.1.2.2.2.2.2.1, ()))), (d.1.2.1.2.2.2.2.2.2.1, (d.1.2.1.2.2.2.2.2.2.2.1, (d.1.2.1.2.2.2.2.2.2.2.2.1, ()))), (d.1.2.1.2.2.2.2.2.2.2.2.2.1, (d.1.2.1.2.2.2.2.2.2.2.2.2.2.1, (d.1.2.1.2.2.2.2.2.2.2.2.2.2.2.1, ()))), (d.1.2.1.2.2.2.2.2.2.2.2.2.2.2.2.1, (d.1.2.1.2.2.2.2.2.2.2.2.2.2.2.2.2.1, (d.1.2.1.2.2.2.2.2.2.2.2.2.2.2.2.2.2.1, ()))), (d.1.2.1.2.2.2.2.2.2.2.2.2.2.2.2.2.2.2.1, (d.1.2.1.2.2.2.2.2.2.2.2.2.2.2.2.2.2.2.2.1, (d.1.2.1.2.2.2.2.2.2.2.2.2.2.2.2.2.2.2.2.2.1, ()))), (d.1.2.1.2.2.2.2.2.2.2.2.2.2.2.2.2.2.2.2.2.2.1, (d.1.2.1.2.2.2.2.2.2.2.2.2.2.2.2.2.2.2.2.2.2.2.1, (d.1.2.1.2.2.2.2.2.2.2.2.2.2.2.2.2.2.2.2.2.2.2.2.1, ()))), (d.1.2.1.2.2.2.2.2.2.2.2.2.2.2.2.2.2.2.2.2.2.2.2.2.1, (d.1.2.1.2.2.2.2.2.2.2.2.2.2.2.2.2.2.2.2.2.2.2.2.2.2.1, (d.1.2.1.2.2.2.2.2.2.2.2.2.2.2.2.2.2.2.2.2.2.2.2.2.2.2.1, ()))), (d.1.2.1.2.2.2.2.2.2.2.2.2.2.2.2.2.2.2.2.2.2.2.2.2.2.2.2.1, (d.1.2.1.2.2.2.2.2.2.2.2.2.2.2.2.2.2.2.2.2.2.2.2.2.2.2.2.2.1, (d.1.2.1.2.2.2.2.2.2.2.2.2.2.2.2.2.2.2.2.2.2.2.2.2.2.2.2.2.2.1, ()))), (d.1.2.1.2.2.2.2.2.2.2.2.2.2.2.2.2.2.2.2.2.2.2.2.2.2.2.2.2.2.2.1, (d.1.2.1.2.2.2.2.2.2.2.2.2.2.2.2.2.2.2.2.2.2.2.2.2.2.2.2.2.2.2.2.1, (d.1.2.1.2.2.2.2.2.2.2.2.2.2.2.2.2.2.2.2.2.2.2.2.2.2.2.2.2.2.2.2.2.1, ()))), (d.1.2.1.2.2.2.2.2.2.2.2.2.2.2.2.2.2.2.2.2.2.2.2.2.2.2.2.2.2.2.2.2.2.1, (d.1.2.1.2.2.2.2.2.2.2.2.2.2.2.2.2.2.2.2.2.2.2.2.2.2.2.2.2.2.2.2.2.2.2.1, (d.1.2.1.2.2.2.2.2.2.2.2.2.2.2.2.2.2.2.2.2.2.2.2.2.2.2.2.2.2.2.2.2.2.2.2.1, ()))), (d.1.2.1.2.2.2.2.2.2.2.2.2.2.2.2.2.2.2.2.2.2.2.2.2.2.2.2.2.2.2.2.2.2.2.2.2.1, (d.1.2.1.2.2.2.2.2.2.2.2.2.2.2.2.2.2.2.2.2.2.2.2.2.2.2.2.2.2.2.2.2.2.2.2.2.2.1, (d.1.2.1.2.2.2.2.2.2.2.2.2.2.2.2.2.2.2.2.2.2.2.2.2.2.2.2.2.2.2.2.2.2.2.2.2.2.2.1, ()))), (d.1.2.1.2.2.2.2.2.2.2.2.2.2.2.2.2.2.2.2.2.2.2.2.2.2.2.2.2.2.2.2.2.2.2.2.2.2.2.2.1, (d.1.2.1.2.2.2.2.2.2.2.2.2.2.2.2.2.2.2.2.2.2.2.2.2.2.2.2.2.2.2.2.2.2.2.2.2.2.2.2.2.1, (d.1.2.1.2.2.2.2.2.2.2.2.2.2.2.2.2.2.2.2.2.2.2.2.2.2.2.2.2.2.2.2.2.2.2.2.2.2.2.2.2.2.1, ()))), (d.1.2.1.2.2.2.2.2.2.2.2.2.2.2.2.2.2.2.2.2.2.2.2.2.2.2.2.2.2.2.2.2.2.2.2.2.2.2.2.2.2.2.1, (d.1.2.1.2.2.2.2.2.2.2.2.2.2.2.2.2.2.2.2.2.2.2.2.2.2.2.2.2.2.2.2.2.2.2.2.2.2.2.2.2.2.2.2.1, (d.1.2.1.2.2.2.2.2.2.2.2.2.2.2.2.2.2.2.2.2.2.2.2.2.2.2.2.2.2.2.2.2.2.2.2.2.2.2.2.2.2.2.2.2.1, ()))), (d.1.2.1.2.2.2.2.2.2.2.2.2.2.2.2.2.2.2.2.2.2.2.2.2.2.2.2.2.2.2.2.2.2.2.2.2.2.2.2.2.2.2.2.2.2.1, (d.1.2.1.2.2.2.2.2.2.2.2.2.2.2.2.2.2.2.2.2.2.2.2.2.2.2.2.2.2.2.2.2.2.2.2.2.2.2.2.2.2.2.2.2.2.2.1, (d.1.2.1.2.2.2.2.2.2.2.2.2.2.2.2.2.2.2.2.2.2.2.2.2.2.2.2.2.2.2.2.2.2.2.2.2.2.2.2.2.2.2.2.2.2.2.2.1, ()))), (d.1.2.1.2.2.2.2.2.2.2.2.2.2.2.2.2.2.2.2.2.2.2.2.2.2.2.2.2.2.2.2.2.2.2.2.2.2.2.2.2.2.2.2.2.2.2.2.2.1, (d.1.2.1.2.2.2.2.2.2.2.2.2.2.2.2.2.2.2.2.2.2.2.2.2.2.2.2.2.2.2.2.2.2.2.2.2.2.2.2.2.2.2.2.2.2.2.2.2.2.1, (d.1.2.1.2.2.2.2.2.2.2.2.2.2.2.2.2.2.2.2.2.2.2.2.2.2.2.2.2.2.2.2.2.2.2.2.2.2.2.2.2.2.2.2.2.2.2.2.2.2.2.1, ())))] : List (Int × (Int × (Int × Unit)))) (Int.toNat d.1.2.2.1) (0, (0, (0, ())))).2.2.1, ()), ()))) (
            ψ ((d.1.1, (d.1.2.1.1, d.1.2.1.2.1, d.1.2.1.2.2.1, d.1.2.1.2.2.2.1, d.1.2.1.2.2.2.2.1, d.1.2.1.2.2.2.2.2.1, d.1.2.1.2.2.2.2.2.2.1, d.1.2.1.2.2.2.2.2.2.2.1, d.1.2.1.2.2.2.2.2.2.2.2.1, d.1.2.1.2.2.2.2.2.2.2.2.2.1, d.1.2.1.2.2.2.2.2.2.2.2.2.2.1, d.1.2.1.2.2.2.2.2.2.2.2.2.2.2.1, d.1.2.1.2.2.2.2.2.2.2.2.2.2.2.2.1, d.1.2.1.2.2.2.2.2.2.2.2.2.2.2.2.2.1, d.1.2.1.2.2.2.2.2.2.2.2.2.2.2.2.2.2.1, d.1.2.1.2.2.2.2.2.2.2.2.2.2.2.2.2.2.2.1, d.1.2.1.2.2.2.2.2.2.2.2.2.2.2.2.2.2.2.2.1, d.1.2.1.2.2.2.2.2.2.2.2.2.2.2.2.2.2.2.2.2.1, d.1.2.1.2.2.2.2.2.2.2.2.2.2.2.2.2.2.2.2.2.2.1, d.1.2.1.2.2.2.2.2.2.2.2.2.2.2.2.2.2.2.2.2.2.2.1, d.1.2.1.2.2.2.2.2.2.2.2.2.2.2.2.2.2.2.2.2.2.2.2.1, d.1.2.1.2.2.2.2.2.2.2.2.2.2.2.2.2.2.2.2.2.2.2.2.2.1, d.1.2.1.2.2.2.2.2.2.2.2.2.2.2.2.2.2.2.2.2.2.2.2.2.2.1, d.1.2.1.2.2.2.2.2.2.2.2.2.2.2.2.2.2.2.2.2.2.2.2.2.2.2.1, d.1.2.1.2.2.2.2.2.2.2.2.2.2.2.2.2.2.2.2.2.2.2.2.2.2.2.2.1, d.1.2.1.2.2.2.2.2.2.2.2.2.2.2.2.2.2.2.2.2.2.2.2.2.2.2.2.2.1, d.1.2.1.2.2.2.2.2.2.2.2.2.2.2.2.2.2.2.2.2.2.2.2.2.2.2.2.2.2.1, d.1.2.1.2.2.2.2.2.2.2.2.2.2.2.2.2.2.2.2.2.2.2.2.2.2.2.2.2.2.2.1, d.1.2.1.2.2.2.2.2.2.2.2.2.2.2.2.2.2.2.2.2.2.2.2.2.2.2.2.2.2.2.2.1, d.1.2.1.2.2.2.2.2.2.2.2.2.2.2.2.2.2.2.2.2.2.2.2.2.2.2.2.2.2.2.2.2.1, d.1.2.1.2.2.2.2.2.2.2.2.2.2.2.2.2.2.2.2.2.2.2.2.2.2.2.2.2.2.2.2.2.2.1, d.1.2.1.2.2.2.2.2.2.2.2.2.2.2.2.2.2.2.2.2.2.2.2.2.2.2.2.2.2.2.2.2.2.2.1, d.1.2.1.2.2.2.2.2.2.2.2.2.2.2.2.2.2.2.2.2.2.2.2.2.2.2.2.2.2.2.2.2.2.2.2.1, d.1.2.1.2.2.2.2.2.2.2.2.2.2.2.2.2.2.2.2.2.2.2.2.2.2.2.2.2.2.2.2.2.2.2.2.2.1, d.1.2.1.2.2.2.2.2.2.2.2.2.2.2.2.2.2.2.2.2.2.2.2.2.2.2.2.2.2.2.2.2.2.2.2.2.2.1, d.1.2.1.2.2.2.2.2.2.2.2.2.2.2.2.2.2.2.2.2.2.2.2.2.2.2.2.2.2.2.2.2.2.2.2.2.2.2.1, d.1.2.1.2.2.2.2.2.2.2.2.2.2.2.2.2.2.2.2.2.2.2.2.2.2.2.2.2.2.2.2.2.2.2.2.2.2.2.2.1, d.1.2.1.2.2.2.2.2.2.2.2.2.2.2.2.2.2.2.2.2.2.2.2.2.2.2.2.2.2.2.2.2.2.2.2.2.2.2.2.2.1, d.1.2.1.2.2.2.2.2.2.2.2.2.2.2.2.2.2.2.2.2.2.2.2.2.2.2.2.2.2.2.2.2.2.2.2.2.2.2.2.2.2.1, d.1.2.1.2.2.2.2.2.2.2.2.2.2.2.2.2.2.2.2.2.2.2.2.2.2.2.2.2.2.2.2.2.2.2.2.2.2.2.2.2.2.2.1, d.1.2.1.2.2.2.2.2.2.2.2.2.2.2.2.2.2.2.2.2.2.2.2.2.2.2.2.2.2.2.2.2.2.2.2.2.2.2.2.2.2.2.2.1, d.1.2.1.2.2.2.2.2.2.2.2.2.2.2.2.2.2.2.2.2.2.2.2.2.2.2.2.2.2.2.2.2.2.2.2.2.2.2.2.2.2.2.2.2.1, d.1.2.1.2.2.2.2.2.2.2.2.2.2.2.2.2.2.2.2.2.2.2.2.2.2.2.2.2.2.2.2.2.2.2.2.2.2.2.2.2.2.2.2.2.2.1, d.1.2.1.2.2.2.2.2.2.2.2.2.2.2.2.2.2.2.2.2.2.2.2.2.2.2.2.2.2.2.2.2.2.2.2.2.2.2.2.2.2.2.2.2.2.2.1, d.1.2.1.2.2.2.2.2.2.2.2.2.2.2.2.2.2.2.2.2.2.2.2.2.2.2.2.2.2.2.2.2.2.2.2.2.2.2.2.2.2.2.2.2.2.2.2.1, d.1.2.1.2.2.2.2.2.2.2.2.2.2.2.2.2.2.2.2.2.2.2.2.2.2.2.2.2.2.2.2.2.2.2.2.2.2.2.2.2.2.2.2.2.2.2.2.2.1, d.1.2.1.2.2.2.2.2.2.2.2.2.2.2.2.2.2.2.2.2.2.2.2.2.2.2.2.2.2.2.2.2.2.2.2.2.2.2.2.2.2.2.2.2.2.2.2.2.2.1, d.1.2.1.2.2.2.2.2.2.2.2.2.2.2.2.2.2.2.2.2.2.2.2.2.2.2.2.2.2.2.2.2.2.2.2.2.2.2.2.2.2.2.2.2.2.2.2.2.2.2.1, ()), (Go.IntKind.wrap .i64 (d.1.2.2.1 + 1)), ()), ()))) (
          ψ ((d.1.1, (d.1.2.1.1, d.1.2.1.2.1, d.1.2.1.2.2.1, d.1.2.1.2.2.2.1, d.1.2.1.2.2.2.2.1, d.1.2.1.2.2.2.2.2.1, d.1.2.1.2.2.2.2.2.2.1, d.1.2.1.2.2.2.2.2.2.2.1, d.1.2.1.2.2.2.2.2.2.2.2.1, d.1.2.1.2.2.2.2.2.2.2.2.2.1, d.1.2.1.2.2.2.2.2.2.2.2.2.2.1, d.1.2.1.2.2.2.2.2.2.2.2.2.2.2.1, d.1.2.1.2.2.2.2.2.2.2.2.2.2.2.2.1, d.1.2.1.2.2.2.2.2.2.2.2.2.2.2.2.2.1, d.1.2.1.2.2.2.2.2.2.2.2.2.2.2.2.2.2.1, d.1.2.1.2.2.2.2.2.2.2.2.2.2.2.2.2.2.2.1, d.1.2.1.2.2.2.2.2.2.2.2.2.2.2.2.2.2.2.2.1, d.1.2.1.2.2.2.2.2.2.2.2.2.2.2.2.2.2.2.2.2.1, d.1.2.1.2.2.2.2.2.2.2.2.2.2.2.2.2.2.2.2.2.2.1, d.1.2.1.2.2.2.2.2.2.2.2.2.2.2.2.2.2.2.2.2.2.2.1, d.1.2.1.2.2.2.2.2.2.2.2.2.2.2.2.2.2.2.2.2.2.2.2.1, d.1.2.1.2.2.2.2.2.2.2.2.2.2.2.2.2.2.2.2.2.2.2.2.2.1, d.1.2.1.2.2.2.2.2.2.2.2.2.2.2.2.2.2.2.2.2.2.2.2.2.2.1, d.1.2.1.2.2.2.2.2.2.2.2.2.2.2.2.2.2.2.2.2.2.2.2.2.2.2.1, d.1.2.1.2.2.2.2.2.2.2.2.2.2.2.2.2.2.2.2.2.2.2.2.2.2.2.2.1, d.1.2.1.2.2.2.2.2.2.2.2.2.2.2.2.2.2.2.2.2.2.2.2.2.2.2.2.2.1, d.1.2.1.2.2.2.2.2.2.2.2.2.2.2.2.2.2.2.2.2.2.2.2.2.2.2.2.2.2.1, d.1.2.1.2.2.2.2.2.2.2.2.2.2.2.2.2.2.2.2.2.2.2.2.2.2.2.2.2.2.2.1, d.1.2.1.2.2.2.2.2.2.2.2.2.2.2.2.2.2.2.2.2.2.2.2.2.2.2.2.2.2.2.2.1, d.1.2.1.2.2.2.2.2.2.2.2.2.2.2.2.2.2.2.2.2.2.2.2.2.2.2.2.2.2.2.2.2.1, d.1.2.1.2.2.2.2.2.2.2.2.2.2.2.2.2.2.2.2.2.2.2.2.2.2.2.2.2.2.2.2.2.2.1, d.1.2.1.2.2.2.2.2.2.2.2.2.2.2.2.2.2.2.2.2.2.2.2.2.2.2.2.2.2.2.2.2.2.2.1, d.1.2.1.2.2.2.2.2.2.2.2.2.2.2.2.2.2.2.2.2.2.2.2.2.2.2.2.2.2.2.2.2.2.2.2.1, d.1.2.1.2.2.2.2.2.2.2.2.2.2.2.2.2.2.2.2.2.2.2.2.2.2.2.2.2.2.2.2.2.2.2.2.2.1, d.1.2.1.2.2.2.2.2.2.2.2.2.2.2.2.2.2.2.2.2.2.2.2.2.2.2.2.2.2.2.2.2.2.2.2.2.2.1, d.1.2.1.2.2.2.2.2.2.2.2.2.2.2.2.2.2.2.2.2.2.2.2.2.2.2.2.2.2.2.2.2.2.2.2.2.2.2.1, d.1.2.1.2.2.2.2.2.2.2.2.2.2.2.2.2.2.2.2.2.2.2.2.2.2.2.2.2.2.2.2.2.2.2.2.2.2.2.2.1, d.1.2.1.2.2.2.2.2.2.2.2.2.2.2.2.2.2.2.2.2.2.2.2.2.2.2.2.2.2.2.2.2.2.2.2.2.2.2.2.2.1, d.1.2.1.2.2.2.2.2.2.2.2.2.2.2.2.2.2.2.2.2.2.2.2.2.2.2.2.2.2.2.2.2.2.2.2.2.2.2.2.2.2.1, d.1.2.1.2.2.2.2.2.2.2.2.2.2.2.2.2.2.2.2.2.2.2.2.2.2.2.2.2.2.2.2.2.2.2.2.2.2.2.2.2.2.2.1, d.1.2.1.2.2.2.2.2.2.2.2.2.2.2.2.2.2.2.2.2.2.2.2.2.2.2.2.2.2.2.2.2.2.2.2.2.2.2.2.2.2.2.2.1, d.1.2.1.2.2.2.2.2.2.2.2.2.2.2.2.2.2.2.2.2.2.2.2.2.2.2.2.2.2.2.2.2.2.2.2.2.2.2.2.2.2.2.2.2.1, d.1.2.1.2.2.2.2.2.2.2.2.2.2.2.2.2.2.2.2.2.2.2.2.2.2.2.2.2.2.2.2.2.2.2.2.2.2.2.2.2.2.2.2.2.2.1, d.1.2.1.2.2.2.2.2.2.2.2.2.2.2.2.2.2.2.2.2.2.2.2.2.2.2.2.2.2.2.2.2.2.2.2.2.2.2.2.2.2.2.2.2.2.2.1, d.1.2.1.2.2.2.2.2.2.2.2.2.2.2.2.2.2.2.2.2.2.2.2.2.2.2.2.2.2.2.2.2.2.2.2.2.2.2.2.2.2.2.2.2.2.2.2.1, d.1.2.1.2.2.2.2.2.2.2.2.2.2.2.2.2.2.2.2.2.2.2.2.2.2.2.2.2.2.2.2.2.2.2.2.2.2.2.2.2.2.2.2.2.2.2.2.2.1, d.1.2.1.2.2.2.2.2.2.2.2.2.2.2.2.2.2.2.2.2.2.2.2.2.2.2.2.2.2.2.2.2.2.2.2.2.2.2.2.2.2.2.2.2.2.2.2.2.2.1, d.1.2.1.2.2.2.2.2.2.2.2.2.2.2.2.2.2.2.2.2.2.2.2.2.2.2.2.2.2.2.2.2.2.2.2.2.2.2.2.2.2.2.2.2.2.2.2.2.2.2.1, ()), (Go.IntKind.wrap .i64 (d.1.2.2.1 + 1)), ()), ()))) (
        ifd ((decide (d.1.1 ≥ (List.getD ([(d.1.2.1.1, (d.1.2.1.2.1, (d.1.2.1.2.2.1, ()))), (d.1.2.1.2.2.2.1, (d.1.2.1.2.2.2.2.1, (d.1.2.1.2.2.2.2.2.1, ()))), (d.1.2.1.2.2.2.2.2.2.1, (d.1.2.1.2.2.2.2.2.2.2.1, (d.1.2.1.2.2.2.2.2.2.2.2.1, ()))), (d.1.2.1.2.2.2.2.2.2.2.2.2.1, (d.1.2.1.2.2.2.2.2.2.2.2.2.2.1, (d.1.2.1.2.2.2.2.2.2.2.2.2.2.2.1, ()))), (d.1.2.1.2.2.2.2.2.2.2.2.2.2.2.2.1, (d.1.2.1.2.2.2.2.2.2.2.2.2.2.2.2.2.1, (d.1.2.1.2.2.2.2.2.2.2.2.2.2.2.2.2.2.1, ()))), (d.1.2.1.2.2.2.2.2.2.2.2.2.2.2.2.2.2.2.1, (d.1.2.1.2.2.2.2.2.2.2.2.2.2.2.2.2.2.2.2.1, (d.1.2.1.2.2.2.2.2.2.2.2.2.2.2.2.2.2.2.2.2.1, ()))), (d.1.2.1.2.2.2.2.2.2.2.2.2.2.2.2.2.2.2.2.2.2.1, (d.1.2.1.2.2.2.2.2.2.2.2.2.2.2.2.2.2.2.2.2.2.2.1, (d.1.2.1.2.2.2.2.2.2.2.2.2.2.2.2.2.2.2.2.2.2.2.2.1, ()))), (d.1.2.1.2.2.2.2.2.2.2.2.2.2.2.2.2.2.2.2.2.2.2.2.2.1, (d.1.2.1.2.2.2.2.2.2.2.2.2.2.2.2.2.2.2.2.2.2.2.2.2.2.1, (d.1.2.1.2.2.2.2.2.2.2.2.2.2.2.2.2.2.2.2.2.2.2.2.2.2.2.1, ()))), (d.1.2.1.2.2.2.2.2.2.2.2.2.2.2.2.2.2.2.2.2.2.2.2.2.2.2.2.1, (d.1.2.1.2.2.2.2.2.2.2.2.2.2.2.2.2.2.2.2.2.2.2.2.2.2.2.2.2.1, (d.1.2.1.2.2.2.2.2.2.2.2.2.2.2.2.2.2.2.2.2.2.2.2.2.2.2.2.2.2.1, ()))), (d.1.2.1.2.2.2.2.2.2.2.2.2.2.2.2.2.2.2.2.2.2.2.2.2.2.2.2.2.2.2.1, (d.1.2.1.2.2.2.2.2.2.2.2.2.2.2.2.2.2.2.2.2.2.2.2.2.2.2.2.2.2.2.2.1, (d.1.2.1.2.2.2.2.2.2.2.2.2.2.2.2.2.2.2.2.2.2.2.2.2.2.2.2.2.2.2.2.2.1, ()))), (d.1.2.1.2.2.2.2.2.2.2.2.2.2.2.2.2.2.2.2.2.2.2.2.2.2.2.2.2.2.2.2.2.2.1, (d.1.2.1.2.2.2.2.2.2.2.2.2.2.2.2.2.2.2.2.2.2.2.2.2.2.2.2.2.2.2.2.2.2.2.1, (d.1.2.1.2.2.2.2.2.2.2.2.2.2.2.2.2.2.2.2.2.2.2.2.2.2.2.2.2.2.2.2.2.2.2.2.1, ()))), (d.1.2.1.2.2.2.2.2.2.2.2.2.2.2.2.2.2.2.2.2.2.2.2.2.2.2.2.2.2.2.2.2.2.2.2.2.1, (d.1.2.1.2.2.2.2.2.2.2.2.2.2.2.2.2.2.2.2.2.2.2.2.2.2.2.2.2.2.2.2.2.2.2.2.2.2.1, (d.1.2.1.2.2.2.2.2.2.2.2.2.2.2.2.2.2.2.2.2.2.2.2.2.2.2.2.2.2.2.2.2.2.2.2.2.2.2.1, ()))), (d.1.2.1.2.2.2.2.2.2.2.2.2.2.2.2.2.2.2.2.2.2.2.2.2.2.2.2.2.2.2.2.2.2.2.2.2.2.2.2.1, (d.1.2.1.2.2.2.2.2.2.2.2.2.2.2.2.2.2.2.2.2.2.2.2.2.2.2.2.2.2.2.2.2.2.2.2.2.2.2.2.2.1, (d.1.2.1.2.2.2.2.2.2.2.2.2.2.2.2.2.2.2.2.2.2.2.2.2.2.2.2.2.2.2.2.2.2.2.2.2.2.2.2.2.2.1, ()))), (d.1.2.1.2.2.2.2.2.2.2.2.2.2.2.2.2.2.2.2.2.2.2.2.2.2.2.2.2.2.2.2.2.2.2.2.2.2.2.2.2.2.2.1, (d.1.2.1.2.2.2.2.2.2.2.2.2.2.2.2.2.2.2.2.2.2.2.2.2.2.2.2.2.2.2.2.2.2.2.2.2.2.2.2.2.2.2.2.1, (d.1.2.1.2.2.2.2.2.2.2.2.2.2.2.2.2.2.2.2.2.2.2.2.2.2.2.2.2.2.2.2.2.2.2.2.2.2.2.2.2.2.2.2.2.1, ()))), (d.1.2.1.2.2.2.2.2.2.2.2.2.2.2.2.2.2.2.2.2.2.2.2.2.2.2.2.2.2.2.2.2.2.2.2.2.2.2.2.2.2.2.2.2.2.1, (d.1.2.1.2.2.2.2.2.2.2.2.2.2.2.2.2.2.2.2.2.2.2.2.2.2.2.2.2.2.2.2.2.2.2.2.2.2.2.2.2.2.2.2.2.2.2.1, (d.1.2.1.2.2.2.2.2.2.2.2.2.2.2.2.2.2.2.2.2.2.2.2.2.2.2.2.2.2.2.2.2.2.2.2.2.2.2.2.2.2.2.2.2.2.2.2.1, ()))), (d.1.2.1.2.2.2.2.2.2.2.2.2.2.2.2.2.2.2.2.2.2.2.2.2.2.2.2.2.2.2.2.2.2.2.2.2.2.2.2.2.2.2.2.2.2.2.2.2.1, (d.1.2.1.2.2.2.2.2.2.2.2.2.2.2.2.2.2.2.2.2.2.2.2.2.2.2.2.2.2.2.2.2.2.2.2.2.2.2.2.2.2.2.2.2.2.2.2.2.2.1, (d.1.2.1.2.2.2.2.2.2.2.2.2.2.2.2.2.2.2.2.2.2.2.2.2.2.2.2.2.2.2.2.2.2.2.2.2.2.2.2.2.2.2.2.2.2.2.2.2.2.2.1, ())))] : List (Int × (Int × (Int × Unit)))) (Int.toNat d.1.2.2.1) (0, (0, (0, ())))).1)) = true) (
          none) (
          ψ ((d.1.1, (d.1.2.1.1, d.1.2.1.2.1, d.1.2.1.2.2.1, d.1.2.1.2.2.2.1, d.1.2.1.2.2.2.2.1, d.1.2.1.2.2.2.2.2.1, d.1.2.1.2.2.2.2.2.2.1, d.1.2.1.2.2.2.2.2.2.2.1, d.1.2.1.2.2.2.2.2.2.2.2.1, d.1.2.1.2.2.2.2.2.2.2.2.2.1, d.1.2.1.2.2.2.2.2.2.2.2.2.2.1, d.1.2.1.2.2.2.2.2.2.2.2.2.2.2.1, d.1.2.1.2.2.2.2.2.2.2.2.2.2.2.2.1, d.1.2.1.2.2.2.2.2.2.2.2.2.2.2.2.2.1, d.1.2.1.2.2.2.2.2.2.2.2.2.2.2.2.2.2.1, d.1.2.1.2.2.2.2.2.2.2.2.2.2.2.2.2.2.2.1, d.1.2.1.2.2.2.2.2.2.2.2.2.2.2.2.2.2.2.2.1, d.1.2.1.2.2.2.2.2.2.2.2.2.2.2.2.2.2.2.2.2.1, d.1.2.1.2.2.2.2.2.2.2.2.2.2.2.2.2.2.2.2.2.2.1, d.1.2.1.2.2.2.2.2.2.2.2.2.2.2.2.2.2.2.2.2.2.2.1, d.1.2.1.2.2.2.2.2.2.2.2.2.2.2.2.2.2.2.2.2.2.2.2.1, d.1.2.1.2.2.2.2.2.2.2.2.2.2.2.2.2.2.2.2.2.2.2.2.2.1, d.1.2.1.2.2.2.2.2.2.2.2.2.2.2.2.2.2.2.2.2.2.2.2.2.2.1, d.1.2.1.2.2.2.2.2.2.2.2.2.2.2.2.2.2.2.2.2.2.2.2.2.2.2.1, d.1.2.1.2.2.2.2.2.2.2.2.2.2.2.2.2.2.2.2.2.2.2.2.2.2.2.2.1, d.1.2.1.2.2.2.2.2.2.2.2.2.2.2.2.2.2.2.2.2.2.2.2.2.2.2.2.2.1, d.1.2.1.2.2.2.2.2.2.2.2.2.2.2.2.2.2.2.2.2.2.2.2.2.2.2.2.2.2.1, d.1.2.1.2.2.2.2.2.2.2.2.2.2.2.2.2.2.2.2.2.2.2.2.2.2.2.2.2.2.2.1, d.1.2.1.2.2.2.2.2.2.2.2.2.2.2.2.2.2.2.2.2.2.2.2.2.2.2.2.2.2.2.2.1, d.1.2.1.2.2.2.2.2.2.2.2.2.2.2.2.2.2.2.2.2.2.2.2.2.2.2.2.2.2.2.2.2.1, d.1.2.1.2.2.2.2.2.2.2.2.2.2.2.2.2.2.2.2.2.2.2.2.2.2.2.2.2.2.2.2.2.2.1, d.1.2.1.2.2.2.2.2.2.2.2.2.2.2.2.2.2.2.2.2.2.2.2.2.2.2.2.2.2.2.2.2.2.2.1, d.1.2.1.2.2.2.2.2.2.2.2.2.2.2.2.2.2.2.2.2.2.2.2.2.2.2.2.2.2.2.2.2.2.2.2.1, d.1.2.1.2.2.2.2.2.2.2.2.2.2.2.2.2.2.2.2.2.2.2.2.2.2.2.2.2.2.2.2.2.2.2.2.2.1, d.1.2.1.2.2.2.2.2.2.2.2.2.2.2.2.2.2.2.2.2.2.2.2.2.2.2.2.2.2.2.2.2.2.2.2.2.2.1, d.1.2.1.2.2.2.2.2.2.2.2.2.2.2.2.2.2.2.2.2.2.2.2.2.2.2.2.2.2.2.2.2.2.2.2.2.2.2.1, d.1.2.1.2.2.2.2.2.2.2.2.2.2.2.2.2.2.2.2.2.2.2.2.2.2.2.2.2.2.2.2.2.2.2.2.2.2.2.2.1, d.1.2.1.2.2.2.2.2.2.2.2.2.2.2.2.2.2.2.2.2.2.2.2.2.2.2.2.2.2.2.2.2.2.2.2.2.2.2.2.2.1, d.1.2.1.2.2.2.2.2.2.2.2.2.2.2.2.2.2.2.2.2.2.2.2.2.2.2.2.2.2.2.2.2.2.2.2.2.2.2.2.2.2.1, d.1.2.1.2.2.2.2.2.2.2.2.2.2.2.2.2.2.2.2.2.2.2.2.2.2.2.2.2.2.2.2.2.2.2.2.2.2.2.2.2.2.2.1, d.1.2.1.2.2.2.2.2.2.2.2.2.2.2.2.2.2.2.2.2.2.2.2.2.2.2.2.2.2.2.2.2.2.2.2.2.2.2.2.2.2.2.2.1, d.1.2.1.2.2.2.2.2.2.2.2.2.2.2.2.2.2.2.2.2.2.2.2.2.2.2.2.2.2.2.2.2.2.2.2.2.2.2.2.2.2.2.2.2.1, d.1.2.1.2.2.2.2.2.2.2.2.2.2.2.2.2.2.2.2.2.2.2.2.2.2.2.2.2.2.2.2.2.2.2.2.2.2.2.2.2.2.2.2.2.2.1, d.1.2.1.2.2.2.2.2.2.2.2.2.2.2.2.2.2.2.2.2.2.2.2.2.2.2.2.2.2.2.2.2.2.2.2.2.2.2.2.2.2.2.2.2.2.2.1, d.1.2.1.2.2.2.2.2.2.2.2.2.2.2.2.2.2.2.2.2.2.2.2.2.2.2.2.2.2.2.2.2.2.2.2.2.2.2.2.2.2.2.2.2.2.2.2.1, d.1.2.1.2.2.2.2.2.2.2.2.2.2.2.2.2.2.2.2.2.2.2.2.2.2.2.2.2.2.2.2.2.2.2.2.2.2.2.2.2.2.2.2.2.2.2.2.2.1, d.1.2.1.2.2.2.2.2.2.2.2.2.2.2.2.2.2.2.2.2.2.2.2.2.2.2.2.2.2.2.2.2.2.2.2.2.2.2.2.2.2.2.2.2.2.2.2.2.2.1, d.1.2.1.2.2.2.2.2.2.2.2.2.2.2.2.2.2.2.2.2.2.2.2.2.2.2.2.2.2.2.2.2.2.2.2.2.2.2.2.2.2.2.2.2.2.2.2.2.2.2.1, ()), (Go.IntKind.wrap .i64 (d.1.2.2.1 + 1)), ()), ())))) (
      none)) (
    some (Sum.inr ((), ())))
noncomputable def grapheme_class_L1 (pc : PC prog) (lp : LP) (d : grapheme_class_L1_D) : Option grapheme_class_L1_X := lp grapheme_class_L1_D grapheme_class_L1_X (grapheme_class_L1_R pc lp) d
theorem grapheme_class_L1_ap (E : AppE prog pcN pc lN lp) : ContR (fun N => grapheme_class_L1_R (pcN N) (lN N)) (grapheme_class_L1_R pc lp) := fun ψN ψ h d => by
  delta grapheme_class_L1_R
  exact (Approx.ifd (Approx.ifd (Approx.ifd (Approx.ifd (Approx.ifd (Approx.const _) (h _)) (h _)) (Approx.ifd Approx.none (h _))) Approx.none) (Approx.const _))
theorem grapheme_class_L1_a (E : AppE prog pcN pc lN lp) {d : grapheme_class_L1_D} : Approx (fun N => grapheme_class_L1 (pcN N) (lN N) d) (grapheme_class_L1 pc lp d) := E.loop (grapheme_class_L1_ap E) d
theorem grapheme_class_L1_of {d : grapheme_class_L1_D} {x : grapheme_class_L1_X} (h : grapheme_class_L1_R (pcL prog cfg) lpL (grapheme_class_L1 (pcL prog cfg) lpL) d = some x) : grapheme_class_L1 (pcL prog cfg) lpL d = some x := lpL_step (grapheme_class_L1_ap (appL prog cfg)) h

noncomputable def grapheme_class_B (pc : PC prog) (lp : LP) (a0 : Int) : Option Int :=
  bnd (grapheme_class_L1 pc lp ((a0, (13, 13, 1, 10, 10, 2, 0, 31, 3, 127, 159, 3, 768, 879, 4, 6832, 6911, 4, 7616, 7679, 4, 8400, 8447, 4, 65024, 65039, 4, 65056, 65071, 4, 127995, 127999, 4, 8205, 8205, 5, 127462, 127487, 6, 4352, 4447, 7, 4448, 4519, 8, 4520, 4607, 9, ()), 0, ()), ())) (Sum.elim (fun (y0 : ((Int × Unit) × Unit)) =>
  some y0.1.1) (fun (y1 : (Unit × Unit)) =>
  some 0))
theorem grapheme_class_eq (a0 : Int) (pc : PC prog) (lp : LP) : got grapheme_class_t (pcall prog (runO prog cfg (hand prog cfg lp pc 6 tbl 5) pc 6) 26 [(.c (.int .i32 a0))]) = grapheme_class_B pc lp a0 := by kernel_rfl
theorem grapheme_class_ap (E : AppE prog pcN pc lN lp) (a0 : Int) : Approx (fun N => grapheme_class_B (pcN N) (lN N) a0) (grapheme_class_B pc lp a0) := by
  delta grapheme_class_B
  exact (Approx.bnd (grapheme_class_L1_a E) (Approx.sum (fun y0 => (Approx.const _)) (fun y1 => (Approx.const _))))
theorem grapheme_class_of {a0 : Int} {y : Int} (h : grapheme_class_B (pcL prog cfg) lpL a0 = some y) : grapheme_class_c (pcL prog cfg) a0 = some y := fn_of rfl (grapheme_class_eq a0) (grapheme_class_ap (appN prog cfg) a0) h

-- grapheme_state_joins, part 207
abbrev grapheme_state_joins_C1_D := ((Int × (Unit × Unit)) × ((Int × (Bool × (Int × Unit))) × Unit))
abbrev grapheme_state_joins_C1_X := ((Int × (Unit × (Bool × Unit))) × ((Int × (Bool × (Int × Unit))) × Unit))
noncomputable def grapheme_state_joins_C1 (pc : PC prog) (lp : LP) (d : grapheme_state_joins_C1_D) : Option grapheme_state_joins_C1_X :=
  ifd ((d.2.1.1 == 2) = true) (
    ifd ((d.2.1.1 == 2) = true) (
      some ((d.1.1, (), true, ()), ((d.2.1.1, d.2.1.2.1, d.2.1.2.2.1, ()), ()))) (
      none)) (
    ifd ((d.2.1.1 == 2) = true) (
      some ((d.1.1, (), true, ()), ((d.2.1.1, d.2.1.2.1, d.2.1.2.2.1, ()), ()))) (
      ifd ((d.2.1.1 == 3) = true) (
        ifd ((d.2.1.1 == 3) = true) (
          some ((d.1.1, (), true, ()), ((d.2.1.1, d.2.1.2.1, d.2.1.2.2.1, ()), ()))) (
          none)) (
        ifd ((d.2.1.1 == 3) = true) (
          some ((d.1.1, (), true, ()), ((d.2.1.1, d.2.1.2.1, d.2.1.2.2.1, ()), ()))) (
          ifd ((d.1.1 == 1) = true) (
            ifd ((d.1.1 == 1) = true) (
              some ((d.1.1, (), true, ()), ((d.2.1.1, d.2.1.2.1, d.2.1.2.2.1, ()), ()))) (
              none)) (
            ifd ((d.1.1 == 1) = true) (
              some ((d.1.1, (), true, ()), ((d.2.1.1, d.2.1.2.1, d.2.1.2.2.1, ()), ()))) (
              ifd ((d.1.1 == 2) = true) (
                ifd ((d.1.1 == 2) = true) (
                  some ((d.1.1, (), true, ()), ((d.2.1.1, d.2.1.2.1, d.2.1.2.2.1, ()), ()))) (
                  none)) (
                ifd ((d.1.1 == 2) = true) (
                  some ((d.1.1, (), true, ()), ((d.2.1.1, d.2.1.2.1, d.2.1.2.2.1, ()), ()))) (
                  some ((d.1.1, (), (d.1.1 == 3), ()), ((d.2.1.1, d.2.1.2.1, d.2.1.2.2.1, ()), ()))))))))))
theorem grapheme_state_joins_C1_a (E : AppE prog pcN pc lN lp) {d : grapheme_state_joins_C1_D} : Approx (fun N => grapheme_state_joins_C1 (pcN N) (lN N) d) (grapheme_state_joins_C1 pc lp d) := by
  delta grapheme_state_joins_C1
  exact (Approx.ifd (Approx.ifd (Approx.const _) Approx.none) (Approx.ifd (Approx.const _) (Approx.ifd (Approx.ifd (Approx.const _) Approx.none) (Approx.ifd (Approx.const _) (Approx.ifd (Approx.ifd (Approx.const _) Approx.none) (Approx.ifd (Approx.const _) (Approx.ifd (Approx.ifd (Approx.const _) Approx.none) (Approx.ifd (Approx.const _) (Approx.const _)))))))))

-- grapheme_state_joins, part 831
abbrev grapheme_state_joins_C2_D := ((Int × (Unit × Unit)) × ((Int × (Bool × (Int × Unit))) × Unit))
abbrev grapheme_state_joins_C2_X := ((Int × (Unit × (Bool × Unit))) × ((Int × (Bool × (Int × Unit))) × Unit))
noncomputable def grapheme_state_joins_C2 (pc : PC prog) (lp : LP) (d : grapheme_state_joins_C2_D) : Option grapheme_state_joins_C2_X :=
  ifd ((d.1.1 == 4) = true) (
    ifd ((d.1.1 == 4) = true) (
      some ((d.1.1, (), true, ()), ((d.2.1.1, d.2.1.2.1, d.2.1.2.2.1, ()), ()))) (
      none)) (
    ifd ((d.1.1 == 4) = true) (
      some ((d.1.1, (), true, ()), ((d.2.1.1, d.2.1.2.1, d.2.1.2.2.1, ()), ()))) (
      some ((d.1.1, (), (d.1.1 == 5), ()), ((d.2.1.1, d.2.1.2.1, d.2.1.2.2.1, ()), ()))))
theorem grapheme_state_joins_C2_a (E : AppE prog pcN pc lN lp) {d : grapheme_state_joins_C2_D} : Approx (fun N => grapheme_state_joins_C2 (pcN N) (lN N) d) (grapheme_state_joins_C2 pc lp d) := by
  delta grapheme_state_joins_C2
  exact (Approx.ifd (Approx.ifd (Approx.const _) Approx.none) (Approx.ifd (Approx.const _) (Approx.const _)))

noncomputable def grapheme_state_joins_B (pc : PC prog) (lp : LP) (a0 : Int) (a1 : Bool) (a2 : Int) (a3 : Int) : Option Bool :=
  ifd (a1 = true) (
    some false) (
    ifd ((a0 == 1) = true) (
      some (a3 == 2)) (
      bnd (grapheme_state_joins_C1 pc lp ((a3, (), ()), ((a0, a1, a2, ()), ()))) (fun (y0 : ((Int × (Unit × (Bool × Unit))) × ((Int × (Bool × (Int × Unit))) × Unit))) =>
      ifd (y0.1.2.2.1 = true) (
        some false) (
        bnd (grapheme_state_joins_C2 pc lp ((y0.1.1, (), ()), ((y0.2.1.1, y0.2.1.2.1, y0.2.1.2.2.1, ()), ()))) (fun (y1 : ((Int × (Unit × (Bool × Unit))) × ((Int × (Bool × (Int × Unit))) × Unit))) =>
        ifd (y1.1.2.2.1 = true) (
          some true) (
          ifd ((y1.2.1.1 == 5) = true) (
            some (y1.1.1 == 0)) (
            ifd ((y1.1.1 == 6) = true) (
              ifd ((y1.2.1.1 == 6) = true) (
                ifd ((y1.2.1.1 == 6) = true) (
                  some ((Int.tmod y1.2.1.2.2.1 2) == 1)) (
                  some false)) (
                ifd ((y1.2.1.1 == 6) = true) (
                  none) (
                  some false))) (
              ifd ((y1.2.1.1 == 7) = true) (
                ifd ((y1.1.1 == 7) = true) (
                  ifd ((y1.1.1 == 7) = true) (
                    some true) (
                    none)) (
                  ifd ((y1.1.1 == 7) = true) (
                    some true) (
                    some (y1.1.1 == 8)))) (
                ifd ((y1.2.1.1 == 8) = true) (
                  ifd ((y1.1.1 == 8) = true) (
                    ifd ((y1.1.1 == 8) = true) (
                      some true) (
                      none)) (
                    ifd ((y1.1.1 == 8) = true) (
                      some true) (
                      some (y1.1.1 == 9)))) (
                  ifd ((y1.2.1.1 == 9) = true) (
                    ifd ((y1.2.1.1 == 9) = true) (
                      some (y1.1.1 == 9)) (
                      some false)) (
                    ifd ((y1.2.1.1 == 9) = true) (
                      none) (
                      some false))))))))))))
theorem grapheme_state_joins_eq (a0 : Int) (a1 : Bool) (a2 : Int) (a3 : Int) (pc : PC prog) (lp : LP) : got grapheme_state_joins_t (pcall prog (runO prog cfg (hand prog cfg lp pc 6 tbl 5) pc 6) 27 [(.agg [(.int .i64 a0), (.bool a1), (.int .i64 a2)]), (.c (.int .i64 a3))]) = grapheme_state_joins_B pc lp a0 a1 a2 a3 := by kernel_rfl
theorem grapheme_state_joins_ap (E : AppE prog pcN pc lN lp) (a0 : Int) (a1 : Bool) (a2 : Int) (a3 : Int) : Approx (fun N => grapheme_state_joins_B (pcN N) (lN N) a0 a1 a2 a3) (grapheme_state_joins_B pc lp a0 a1 a2 a3) := by
  delta grapheme_state_joins_B
  exact (Approx.ifd (Approx.const _) (Approx.ifd (Approx.const _) (Approx.bnd (grapheme_state_joins_C1_a E) (fun y0 => (Approx.ifd (Approx.const _) (Approx.bnd (grapheme_state_joins_C2_a E) (fun y1 => (Approx.ifd (Approx.const _) (Approx.ifd (Approx.const _) (Approx.ifd (Approx.ifd (Approx.ifd (Approx.const _) (Approx.const _)) (Approx.ifd Approx.none (Approx.const _))) (Approx.ifd (Approx.ifd (Approx.ifd (Approx.const _) Approx.none) (Approx.ifd (Approx.const _) (Approx.const _))) (Approx.ifd (Approx.ifd (Approx.ifd (Approx.const _) Approx.none) (Approx.ifd (Approx.const _) (Approx.const _))) (Approx.ifd (Approx.ifd (Approx.const _) (Approx.const _)) (Approx.ifd Approx.none (Approx.const _)))))))))))))))
theorem grapheme_state_joins_of {a0 : Int} {a1 : Bool} {a2 : Int} {a3 : Int} {y : Bool} (h : grapheme_state_joins_B (pcL prog cfg) lpL a0 a1 a2 a3 = some y) : grapheme_state_joins_c (pcL prog cfg) a0 a1 a2 a3 = some y := fn_of rfl (grapheme_state_joins_eq a0 a1 a2 a3) (grapheme_state_joins_ap (appN prog cfg) a0 a1 a2 a3) h

-- ref1_Runes, loop 58
abbrev ref1_Runes_L1_D := (((List Int) × ((List Int) × (Int × Unit))) × Unit)
abbrev ref1_Runes_L1_X := (((List Int) × Unit) × Unit)
noncomputable def ref1_Runes_L1_R (pc : PC prog) (lp : LP) (ψ : ref1_Runes_L1_D → Option ref1_Runes_L1_X) (d : ref1_Runes_L1_D) : Option ref1_Runes_L1_X :=
  ifd ((decide (d.1.2.2.1 < (((List.length d.1.1) : Nat) : Int))) = true) (
    bnd (bnd (ref1_Rune_c pc d.1.1 d.1.2.2.1) fun (x6 : (Int × (Int × Unit))) =>
    some (x6.1, (x6.2.1, ()))) fun (x7 : (Int × (Int × Unit))) =>
    ifd ((decide ((((List.length d.1.2.1) + (List.length ([x7.1] : List Int))) * 8) ≤ 140737488355328)) = true) (
      ψ ((d.1.1, (d.1.2.1 ++ ([x7.1] : List Int)), (Go.IntKind.wrap .i64 (d.1.2.2.1 + x7.2.1)), ()), ())) (
      none)) (
    some ((d.1.2.1, ()), ()))
noncomputable def ref1_Runes_L1 (pc : PC prog) (lp : LP) (d : ref1_Runes_L1_D) : Option ref1_Runes_L1_X := lp ref1_Runes_L1_D ref1_Runes_L1_X (ref1_Runes_L1_R pc lp) d
theorem ref1_Runes_L1_ap (E : AppE prog pcN pc lN lp) : ContR (fun N => ref1_Runes_L1_R (pcN N) (lN N)) (ref1_Runes_L1_R pc lp) := fun ψN ψ h d => by
  delta ref1_Runes_L1_R
  exact (Approx.ifd (Approx.bnd (Approx.bnd (ref1_Rune_ca E) fun x6 => (Approx.const _)) fun x7 => (Approx.ifd (h _) Approx.none)) (Approx.const _))
theorem ref1_Runes_L1_a (E : AppE prog pcN pc lN lp) {d : ref1_Runes_L1_D} : Approx (fun N => ref1_Runes_L1 (pcN N) (lN N) d) (ref1_Runes_L1 pc lp d) := E.loop (ref1_Runes_L1_ap E) d
theorem ref1_Runes_L1_of {d : ref1_Runes_L1_D} {x : ref1_Runes_L1_X} (h : ref1_Runes_L1_R (pcL prog cfg) lpL (ref1_Runes_L1 (pcL prog cfg) lpL) d = some x) : ref1_Runes_L1 (pcL prog cfg) lpL d = some x := lpL_step (ref1_Runes_L1_ap (appL prog cfg)) h

noncomputable def ref1_Runes_B (pc : PC prog) (lp : LP) (a0 : List Int) : Option (List Int) :=
  bnd (ref1_Runes_L1 pc lp ((a0, ([] : List Int), 0, ()), ())) (fun (y8 : (((List Int) × Unit) × Unit)) =>
  some y8.1.1)
theorem ref1_Runes_eq (a0 : List Int) (pc : PC prog) (lp : LP) : got ref1_Runes_t (pcall prog (runO prog cfg (hand prog cfg lp pc 6 tbl 5) pc 6) 17 [(.c (.str a0))]) = ref1_Runes_B pc lp a0 := by kernel_rfl
theorem ref1_Runes_ap (E : AppE prog pcN pc lN lp) (a0 : List Int) : Approx (fun N => ref1_Runes_B (pcN N) (lN N) a0) (ref1_Runes_B pc lp a0) := by
  delta ref1_Runes_B
  exact (Approx.bnd (ref1_Runes_L1_a E) (fun y8 => (Approx.const _)))
theorem ref1_Runes_of {a0 : List Int} {y : (List Int)} (h : ref1_Runes_B (pcL prog cfg) lpL a0 = some y) : ref1_Runes_c (pcL prog cfg) a0 = some y := fn_of rfl (ref1_Runes_eq a0) (ref1_Runes_ap (appN prog cfg) a0) h

-- ref1_Rune, part 127
abbrev ref1_Rune_C1_D := (((List Int) × (Int × (Int × (Int × (Int × (Int × Unit)))))) × Unit)
abbrev ref1_Rune_C1_X := (((List Int) × (Int × (Int × (Int × (Int × Unit))))) × Unit)
noncomputable def ref1_Rune_C1 (pc : PC prog) (lp : LP) (d : ref1_Rune_C1_D) : Option ref1_Rune_C1_X :=
  bnd (bnd (ref1_In_c pc d.1.2.2.1 192 223) fun (x6 : Bool) =>
  some x6) fun (x7 : Bool) =>
  ifd (x7 = true) (
    some ((d.1.1, d.1.2.1, 2, (Go.IntKind.wrap .i64 (d.1.2.2.1 - 192)), 128, ()), ())) (
    bnd (bnd (ref1_In_c pc d.1.2.2.1 224 239) fun (x8 : Bool) =>
    some x8) fun (x9 : Bool) =>
    ifd (x9 = true) (
      some ((d.1.1, d.1.2.1, 3, (Go.IntKind.wrap .i64 (d.1.2.2.1 - 224)), 2048, ()), ())) (
      bnd (bnd (ref1_In_c pc d.1.2.2.1 240 247) fun (x10 : Bool) =>
      some x10) fun (x11 : Bool) =>
      ifd (x11 = true) (
        some ((d.1.1, d.1.2.1, 4, (Go.IntKind.wrap .i64 (d.1.2.2.1 - 240)), 65536, ()), ())) (
        some ((d.1.1, d.1.2.1, d.1.2.2.2.1, d.1.2.2.2.2.1, d.1.2.2.2.2.2.1, ()), ()))))
theorem ref1_Rune_C1_a (E : AppE prog pcN pc lN lp) {d : ref1_Rune_C1_D} : Approx (fun N => ref1_Rune_C1 (pcN N) (lN N) d) (ref1_Rune_C1 pc lp d) := by
  delta ref1_Rune_C1
  exact (Approx.bnd (Approx.bnd (ref1_In_ca E) fun x6 => (Approx.const _)) fun x7 => (Approx.ifd (Approx.const _) (Approx.bnd (Approx.bnd (ref1_In_ca E) fun x8 => (Approx.const _)) fun x9 => (Approx.ifd (Approx.const _) (Approx.bnd (Approx.bnd (ref1_In_ca E) fun x10 => (Approx.const _)) fun x11 => (Approx.ifd (Approx.const _) (Approx.const _)))))))

-- ref1_Rune, part 510
abbrev ref1_Rune_C2_D := (((List Int) × (Int × (Int × (Int × (Int × Unit))))) × Unit)
abbrev ref1_Rune_C2_X := (((List Int) × (Int × (Int × (Int × (Int × (Bool × Unit)))))) × Unit)
noncomputable def ref1_Rune_C2 (pc : PC prog) (lp : LP) (d : ref1_Rune_C2_D) : Option ref1_Rune_C2_X :=
  ifd ((d.1.2.2.1 == 0) = true) (
    ifd ((d.1.2.2.1 == 0) = true) (
      some ((d.1.1, d.1.2.1, d.1.2.2.1, d.1.2.2.2.1, d.1.2.2.2.2.1, true, ()), ())) (
      none)) (
    ifd ((d.1.2.2.1 == 0) = true) (
      some ((d.1.1, d.1.2.1, d.1.2.2.1, d.1.2.2.2.1, d.1.2.2.2.2.1, true, ()), ())) (
      some ((d.1.1, d.1.2.1, d.1.2.2.1, d.1.2.2.2.1, d.1.2.2.2.2.1, (decide ((Go.IntKind.wrap .i64 (d.1.2.1 + d.1.2.2.1)) > (((List.length d.1.1) : Nat) : Int))), ()), ())))
theorem ref1_Rune_C2_a (E : AppE prog pcN pc lN lp) {d : ref1_Rune_C2_D} : Approx (fun N => ref1_Rune_C2 (pcN N) (lN N) d) (ref1_Rune_C2 pc lp d) := by
  delta ref1_Rune_C2
  exact (Approx.ifd (Approx.ifd (Approx.const _) Approx.none) (Approx.ifd (Approx.const _) (Approx.const _)))

-- ref1_Rune, loop 4090
abbrev ref1_Rune_L3_D := (((List Int) × (Int × (Int × (Int × (Int × (Int × Unit)))))) × Unit)
abbrev ref1_Rune_L3_X := (((Int × (Int × Unit)) × Unit) ⊕ ((Int × (Int × (Int × Unit))) × Unit))
noncomputable def ref1_Rune_L3_R (pc : PC prog) (lp : LP) (ψ : ref1_Rune_L3_D → Option ref1_Rune_L3_X) (d : ref1_Rune_L3_D) : Option ref1_Rune_L3_X :=
  ifd ((decide (d.1.2.2.2.2.2.1 < d.1.2.2.1)) = true) (
    ifd ((decide (((0 : Int) ≤ (Go.IntKind.wrap .i64 (d.1.2.1 + d.1.2.2.2.2.2.1))) ∧ ((Go.IntKind.wrap .i64 (d.1.2.1 + d.1.2.2.2.2.2.1)) < (((List.length d.1.1) : Nat) : Int)))) = true) (
      bnd (bnd (ref1_In_c pc (Go.IntKind.wrap .i64 (List.getD d.1.1 (Int.toNat (Go.IntKind.wrap .i64 (d.1.2.1 + d.1.2.2.2.2.2.1))) 0)) 128 191) fun (x16 : Bool) =>
      some x16) fun (x17 : Bool) =>
      ifd ((!x17) = true) (
        some (Sum.inl (((-1), 1, ()), ()))) (
        ψ ((d.1.1, d.1.2.1, d.1.2.2.1, (Go.IntKind.wrap .i64 ((Go.IntKind.wrap .i64 ((Go.IntKind.wrap .i64 (64 * d.1.2.2.2.1)) + (Go.IntKind.wrap .i64 (List.getD d.1.1 (Int.toNat (Go.IntKind.wrap .i64 (d.1.2.1 + d.1.2.2.2.2.2.1))) 0)))) - 128)), d.1.2.2.2.2.1, (Go.IntKind.wrap .i64 (d.1.2.2.2.2.2.1 + 1)), ()), ()))) (
      none)) (
    some (Sum.inr ((d.1.2.2.1, d.1.2.2.2.1, d.1.2.2.2.2.1, ()), ())))
noncomputable def ref1_Rune_L3 (pc : PC prog) (lp : LP) (d : ref1_Rune_L3_D) : Option ref1_Rune_L3_X := lp ref1_Rune_L3_D ref1_Rune_L3_X (ref1_Rune_L3_R pc lp) d
theorem ref1_Rune_L3_ap (E : AppE prog pcN pc lN lp) : ContR (fun N => ref1_Rune_L3_R (pcN N) (lN N)) (ref1_Rune_L3_R pc lp) := fun ψN ψ h d => by
  delta ref1_Rune_L3_R
  exact (Approx.ifd (Approx.ifd (Approx.bnd (Approx.bnd (ref1_In_ca E) fun x16 => (Approx.const _)) fun x17 => (Approx.ifd (Approx.const _) (h _))) Approx.none) (Approx.const _))
theorem ref1_Rune_L3_a (E : AppE prog pcN pc lN lp) {d : ref1_Rune_L3_D} : Approx (fun N => ref1_Rune_L3 (pcN N) (lN N) d) (ref1_Rune_L3 pc lp d) := E.loop (ref1_Rune_L3_ap E) d
theorem ref1_Rune_L3_of {d : ref1_Rune_L3_D} {x : ref1_Rune_L3_X} (h : ref1_Rune_L3_R (pcL prog cfg) lpL (ref1_Rune_L3 (pcL prog cfg) lpL) d = some x) : ref1_Rune_L3 (pcL prog cfg) lpL d = some x := lpL_step (ref1_Rune_L3_ap (appL prog cfg)) h

noncomputable def ref1_Rune_B (pc : PC prog) (lp : LP) (a0 : List Int) (a1 : Int) : Option (Int × (Int × Unit)) :=
  ifd ((decide (((0 : Int) ≤ a1) ∧ (a1 < (((List.length a0) : Nat) : Int)))) = true) (
    ifd ((decide ((Go.IntKind.wrap .i64 (List.getD a0 (Int.toNat a1) 0)) < 128)) = true) (
      some ((Go.IntKind.wrap .i64 (List.getD a0 (Int.toNat a1) 0)), (1, ()))) (
      bnd (ref1_Rune_C1 pc lp ((a0, a1, (Go.IntKind.wrap .i64 (List.getD a0 (Int.toNat a1) 0)), 0, 0, 0, ()), ())) (fun (y12 : (((List Int) × (Int × (Int × (Int × (Int × Unit))))) × Unit)) =>
      bnd (ref1_Rune_C2 pc lp ((y12.1.1, y12.1.2.1, y12.1.2.2.1, y12.1.2.2.2.1, y12.1.2.2.2.2.1, ()), ())) (fun (y13 : (((List Int) × (Int × (Int × (Int × (Int × (Bool × Unit)))))) × Unit)) =>
      ifd (y13.1.2.2.2.2.2.1 = true) (
        some ((-1), (1, ()))) (
        bnd (ref1_Rune_L3 pc lp ((y13.1.1, y13.1.2.1, y13.1.2.2.1, y13.1.2.2.2.1, y13.1.2.2.2.2.1, 1, ()), ())) (Sum.elim (fun (y18 : ((Int × (Int × Unit)) × Unit)) =>
        some (y18.1.1, (y18.1.2.1, ()))) (fun (y19 : ((Int × (Int × (Int × Unit))) × Unit)) =>
        ifd ((decide (y19.1.2.1 < y19.1.2.2.1)) = true) (
          ifd ((decide (y19.1.2.1 < y19.1.2.2.1)) = true) (
            some ((-1), (1, ()))) (
            none)) (
          ifd ((decide (y19.1.2.1 < y19.1.2.2.1)) = true) (
            some ((-1), (1, ()))) (
            ifd ((decide (y19.1.2.1 > 1114111)) = true) (
              ifd ((decide (y19.1.2.1 > 1114111)) = true) (
                some ((-1), (1, ()))) (
                none)) (
              bnd (bnd (ref1_In_c pc y19.1.2.1 55296 57343) fun (x20 : Bool) =>
              some x20) fun (x21 : Bool) =>
              ifd ((decide (y19.1.2.1 > 1114111)) = true) (
                some ((-1), (1, ()))) (
                ifd (x21 = true) (
                  some ((-1), (1, ()))) (
                  some (y19.1.2.1, (y19.1.1, ())))))))))))))) (
    none)
theorem ref1_Rune_eq (a0 : List Int) (a1 : Int) (pc : PC prog) (lp : LP) : got ref1_Rune_t (pcall prog (runO prog cfg (hand prog cfg lp pc 6 tbl 5) pc 6) 18 [(.c (.str a0)), (.c (.int .i64 a1))]) = ref1_Rune_B pc lp a0 a1 := by kernel_rfl
theorem ref1_Rune_ap (E : AppE prog pcN pc lN lp) (a0 : List Int) (a1 : Int) : Approx (fun N => ref1_Rune_B (pcN N) (lN N) a0 a1) (ref1_Rune_B pc lp a0 a1) := by
  delta ref1_Rune_B
  exact (Approx.ifd (Approx.ifd (Approx.const _) (Approx.bnd (ref1_Rune_C1_a E) (fun y12 => (Approx.bnd (ref1_Rune_C2_a E) (fun y13 => (Approx.ifd (Approx.const _) (Approx.bnd (ref1_Rune_L3_a E) (Approx.sum (fun y18 => (Approx.const _)) (fun y19 => (Approx.ifd (Approx.ifd (Approx.const _) Approx.none) (Approx.ifd (Approx.const _) (Approx.ifd (Approx.ifd (Approx.const _) Approx.none) (Approx.bnd (Approx.bnd (ref1_In_ca E) fun x20 => (Approx.const _)) fun x21 => (Approx.ifd (Approx.const _) (Approx.ifd (Approx.const _) (Approx.const _)))))))))))))))) Approx.none)
theorem ref1_Rune_of {a0 : List Int} {a1 : Int} {y : (Int × (Int × Unit))} (h : ref1_Rune_B (pcL prog cfg) lpL a0 a1 = some y) : ref1_Rune_c (pcL prog cfg) a0 a1 = some y := fn_of rfl (ref1_Rune_eq a0 a1) (ref1_Rune_ap (appN prog cfg) a0 a1) h

-- ref1_Continues, part 6
abbrev ref1_Continues_C1_D := (((List Int) × (Int × (Int × Unit))) × Unit)
abbrev ref1_Continues_C1_X := (((List Int) × (Int × (Int × (Bool × Unit)))) × Unit)
noncomputable def ref1_Continues_C1 (pc : PC prog) (lp : LP) (d : ref1_Continues_C1_D) : Option ref1_Continues_C1_X :=
  ifd ((decide (((0 : Int) ≤ (Go.IntKind.wrap .i64 (d.1.2.1 - 1))) ∧ ((Go.IntKind.wrap .i64 (d.1.2.1 - 1)) < (((List.length d.1.1) : Nat) : Int)))) = true) (
    ifd ((decide ((List.getD d.1.1 (Int.toNat (Go.IntKind.wrap .i64 (d.1.2.1 - 1))) 0) < 0)) = true) (
      ifd ((decide ((List.getD d.1.1 (Int.toNat (Go.IntKind.wrap .i64 (d.1.2.1 - 1))) 0) < 0)) = true) (
        some ((d.1.1, d.1.2.1, d.1.2.2.1, true, ()), ())) (
        none)) (
      ifd ((decide (((0 : Int) ≤ d.1.2.1) ∧ (d.1.2.1 < (((List.length d.1.1) : Nat) : Int)))) = true) (
        ifd ((decide ((List.getD d.1.1 (Int.toNat (Go.IntKind.wrap .i64 (d.1.2.1 - 1))) 0) < 0)) = true) (
          some ((d.1.1, d.1.2.1, d.1.2.2.1, true, ()), ())) (
          some ((d.1.1, d.1.2.1, d.1.2.2.1, (decide ((List.getD d.1.1 (Int.toNat d.1.2.1) 0) < 0)), ()), ()))) (
        none))) (
    none)
theorem ref1_Continues_C1_a (E : AppE prog pcN pc lN lp) {d : ref1_Continues_C1_D} : Approx (fun N => ref1_Continues_C1 (pcN N) (lN N) d) (ref1_Continues_C1 pc lp d) := by
  delta ref1_Continues_C1
  exact (Approx.ifd (Approx.ifd (Approx.ifd (Approx.const _) Approx.none) (Approx.ifd (Approx.ifd (Approx.const _) (Approx.const _)) Approx.none)) Approx.none)

-- ref1_Continues, part 62
abbrev ref1_Continues_C2_D := ((Int × (Int × (Int × Unit))) × Unit)
abbrev ref1_Continues_C2_X := ((Int × (Int × (Int × (Bool × Unit)))) × Unit)
noncomputable def ref1_Continues_C2 (pc : PC prog) (lp : LP) (d : ref1_Continues_C2_D) : Option ref1_Continues_C2_X :=
  ifd ((d.1.2.1 == 1) = true) (
    ifd ((d.1.2.1 == 1) = true) (
      some ((d.1.1, d.1.2.1, d.1.2.2.1, (d.1.2.2.1 == 2), ()), ())) (
      some ((d.1.1, d.1.2.1, d.1.2.2.1, false, ()), ()))) (
    ifd ((d.1.2.1 == 1) = true) (
      none) (
      some ((d.1.1, d.1.2.1, d.1.2.2.1, false, ()), ())))
theorem ref1_Continues_C2_a (E : AppE prog pcN pc lN lp) {d : ref1_Continues_C2_D} : Approx (fun N => ref1_Continues_C2 (pcN N) (lN N) d) (ref1_Continues_C2 pc lp d) := by
  delta ref1_Continues_C2
  exact (Approx.ifd (Approx.ifd (Approx.const _) (Approx.const _)) (Approx.ifd Approx.none (Approx.const _)))

-- ref1_Continues, part 126
abbrev ref1_Continues_C3_D := ((Int × (Int × (Int × Unit))) × Unit)
abbrev ref1_Continues_C3_X := ((Int × (Int × (Int × (Bool × Unit)))) × Unit)
noncomputable def ref1_Continues_C3 (pc : PC prog) (lp : LP) (d : ref1_Continues_C3_D) : Option ref1_Continues_C3_X :=
  bnd (bnd (ref1_In_c pc d.1.2.1 1 3) fun (x10 : Bool) =>
  some x10) fun (x11 : Bool) =>
  ifd (x11 = true) (
    ifd (x11 = true) (
      some ((d.1.1, d.1.2.1, d.1.2.2.1, true, ()), ())) (
      none)) (
    bnd (bnd (ref1_In_c pc d.1.2.2.1 1 3) fun (x12 : Bool) =>
    some x12) fun (x13 : Bool) =>
    ifd (x11 = true) (
      some ((d.1.1, d.1.2.1, d.1.2.2.1, true, ()), ())) (
      some ((d.1.1, d.1.2.1, d.1.2.2.1, x13, ()), ())))
theorem ref1_Continues_C3_a (E : AppE prog pcN pc lN lp) {d : ref1_Continues_C3_D} : Approx (fun N => ref1_Continues_C3 (pcN N) (lN N) d) (ref1_Continues_C3 pc lp d) := by
  delta ref1_Continues_C3
  exact (Approx.bnd (Approx.bnd (ref1_In_ca E) fun x10 => (Approx.const _)) fun x11 => (Approx.ifd (Approx.ifd (Approx.const _) Approx.none) (Approx.bnd (Approx.bnd (ref1_In_ca E) fun x12 => (Approx.const _)) fun x13 => (Approx.ifd (Approx.const _) (Approx.const _)))))

-- ref1_Continues, part 254
abbrev ref1_Continues_C4_D := ((Int × (Int × (Int × Unit))) × Unit)
abbrev ref1_Continues_C4_X := ((Int × (Int × (Int × (Bool × Unit)))) × Unit)
noncomputable def ref1_Continues_C4 (pc : PC prog) (lp : LP) (d : ref1_Continues_C4_D) : Option ref1_Continues_C4_X :=
  ifd ((d.1.2.2.1 == 4) = true) (
    ifd ((d.1.2.2.1 == 4) = true) (
      some ((d.1.1, d.1.2.1, d.1.2.2.1, true, ()), ())) (
      none)) (
    ifd ((d.1.2.2.1 == 4) = true) (
      some ((d.1.1, d.1.2.1, d.1.2.2.1, true, ()), ())) (
      some ((d.1.1, d.1.2.1, d.1.2.2.1, (d.1.2.2.1 == 5), ()), ())))
theorem ref1_Continues_C4_a (E : AppE prog pcN pc lN lp) {d : ref1_Continues_C4_D} : Approx (fun N => ref1_Continues_C4 (pcN N) (lN N) d) (ref1_Continues_C4 pc lp d) := by
  delta ref1_Continues_C4
  exact (Approx.ifd (Approx.ifd (Approx.const _) Approx.none) (Approx.ifd (Approx.const _) (Approx.const _)))

noncomputable def ref1_Continues_B (pc : PC prog) (lp : LP) (a0 : List Int) (a1 : Int) (a2 : Int) : Option Bool :=
  bnd (ref1_Continues_C1 pc lp ((a0, a1, a2, ()), ())) (fun (y0 : (((List Int) × (Int × (Int × (Bool × Unit)))) × Unit)) =>
  ifd (y0.1.2.2.2.1 = true) (
    some false) (
    ifd ((decide (((0 : Int) ≤ (Go.IntKind.wrap .i64 (y0.1.2.1 - 1))) ∧ ((Go.IntKind.wrap .i64 (y0.1.2.1 - 1)) < (((List.length y0.1.1) : Nat) : Int)))) = true) (
      bnd (bnd (ref1_Class_c pc (List.getD y0.1.1 (Int.toNat (Go.IntKind.wrap .i64 (y0.1.2.1 - 1))) 0)) fun (x1 : Int) =>
      some x1) fun (x2 : Int) =>
      ifd ((decide (((0 : Int) ≤ y0.1.2.1) ∧ (y0.1.2.1 < (((List.length y0.1.1) : Nat) : Int)))) = true) (
        bnd (bnd (ref1_Class_c pc (List.getD y0.1.1 (Int.toNat y0.1.2.1) 0)) fun (x3 : Int) =>
        some x3) fun (x4 : Int) =>
        bnd (ref1_Continues_C2 pc lp ((y0.1.2.2.1, x2, x4, ()), ())) (fun (y5 : ((Int × (Int × (Int × (Bool × Unit)))) × Unit)) =>
        ifd (y5.1.2.2.2.1 = true) (
          some true) (
          bnd (ref1_Continues_C3 pc lp ((y5.1.1, y5.1.2.1, y5.1.2.2.1, ()), ())) (fun (y14 : ((Int × (Int × (Int × (Bool × Unit)))) × Unit)) =>
          ifd (y14.1.2.2.2.1 = true) (
            some false) (
            bnd (ref1_Continues_C4 pc lp ((y14.1.1, y14.1.2.1, y14.1.2.2.1, ()), ())) (fun (y15 : ((Int × (Int × (Int × (Bool × Unit)))) × Unit)) =>
            ifd (y15.1.2.2.2.1 = true) (
              some true) (
              ifd ((y15.1.2.1 == 5) = true) (
                some (y15.1.2.2.1 == 0)) (
                ifd ((y15.1.2.2.1 == 6) = true) (
                  some ((Int.tmod y15.1.1 2) == 1)) (
                  ifd ((y15.1.2.1 == 7) = true) (
                    ifd ((y15.1.2.2.1 == 7) = true) (
                      ifd ((y15.1.2.1 == 7) = true) (
                        ifd ((y15.1.2.2.1 == 7) = true) (
                          ifd ((y15.1.2.1 == 7) = true) (
                            some true) (
                            ifd ((y15.1.2.1 == 8) = true) (
                              ifd ((y15.1.2.2.1 == 8) = true) (
                                ifd ((y15.1.2.1 == 8) = true) (
                                  ifd ((y15.1.2.2.1 == 8) = true) (
                                    ifd ((y15.1.2.1 == 8) = true) (
                                      some true) (
                                      ifd ((y15.1.2.1 == 9) = true) (
                                        ifd ((y15.1.2.1 == 9) = true) (
                                          some (y15.1.2.2.1 == 9)) (
                                          some false)) (
                                        ifd ((y15.1.2.1 == 9) = true) (
                                          none) (
                                          some false)))) (
                                    ifd ((y15.1.2.1 == 8) = true) (
                                      none) (
                                      ifd ((y15.1.2.1 == 9) = true) (
                                        ifd ((y15.1.2.1 == 9) = true) (
                                          some (y15.1.2.2.1 == 9)) (
                                          some false)) (
                                        ifd ((y15.1.2.1 == 9) = true) (
                                          none) (
                                          some false))))) (
                                  ifd ((y15.1.2.1 == 8) = true) (
                                    none) (
                                    ifd ((y15.1.2.1 == 9) = true) (
                                      ifd ((y15.1.2.1 == 9) = true) (
                                        some (y15.1.2.2.1 == 9)) (
                                        some false)) (
                                      ifd ((y15.1.2.1 == 9) = true) (
                                        none) (
                                        some false))))) (
                                ifd ((y15.1.2.1 == 8) = true) (
                                  ifd ((y15.1.2.2.1 == 8) = true) (
                                    ifd ((y15.1.2.1 == 8) = true) (
                                      some true) (
                                      ifd ((y15.1.2.1 == 9) = true) (
                                        ifd ((y15.1.2.1 == 9) = true) (
                                          some (y15.1.2.2.1 == 9)) (
                                          some false)) (
                                        ifd ((y15.1.2.1 == 9) = true) (
                                          none) (
                                          some false)))) (
                                    ifd ((y15.1.2.1 == 8) = true) (
                                      ifd ((y15.1.2.2.1 == 9) = true) (
                                        ifd ((y15.1.2.2.1 == 9) = true) (
                                          ifd ((y15.1.2.2.1 == 9) = true) (
                                            some true) (
                                            none)) (
                                          none)) (
                                        ifd ((y15.1.2.1 == 9) = true) (
                                          ifd ((y15.1.2.2.1 == 9) = true) (
                                            ifd ((y15.1.2.2.1 == 9) = true) (
                                              some true) (
                                              none)) (
                                            ifd ((y15.1.2.1 == 9) = true) (
                                              ifd ((y15.1.2.2.1 == 9) = true) (
                                                some true) (
                                                some (y15.1.2.2.1 == 9))) (
                                              ifd ((y15.1.2.2.1 == 9) = true) (
                                                some true) (
                                                some false)))) (
                                          ifd ((y15.1.2.2.1 == 9) = true) (
                                            ifd ((y15.1.2.2.1 == 9) = true) (
                                              some true) (
                                              none)) (
                                            ifd ((y15.1.2.1 == 9) = true) (
                                              ifd ((y15.1.2.2.1 == 9) = true) (
                                                some true) (
                                                none)) (
                                              ifd ((y15.1.2.2.1 == 9) = true) (
                                                some true) (
                                                some false)))))) (
                                      ifd ((y15.1.2.1 == 9) = true) (
                                        ifd ((y15.1.2.1 == 9) = true) (
                                          some (y15.1.2.2.1 == 9)) (
                                          some false)) (
                                        ifd ((y15.1.2.1 == 9) = true) (
                                          none) (
                                          some false))))) (
                                  ifd ((y15.1.2.1 == 8) = true) (
                                    none) (
                                    ifd ((y15.1.2.1 == 9) = true) (
                                      ifd ((y15.1.2.1 == 9) = true) (
                                        some (y15.1.2.2.1 == 9)) (
                                        some false)) (
                                      ifd ((y15.1.2.1 == 9) = true) (
                                        none) (
                                        some false)))))) (
                              ifd ((y15.1.2.1 == 8) = true) (
                                none) (
                                ifd ((y15.1.2.1 == 8) = true) (
                                  none) (
                                  ifd ((y15.1.2.1 == 9) = true) (
                                    ifd ((y15.1.2.1 == 9) = true) (
                                      some (y15.1.2.2.1 == 9)) (
                                      some false)) (
                                    ifd ((y15.1.2.1 == 9) = true) (
                                      none) (
                                      some false))))))) (
                          ifd ((y15.1.2.1 == 7) = true) (
                            none) (
                            ifd ((y15.1.2.1 == 8) = true) (
                              ifd ((y15.1.2.2.1 == 8) = true) (
                                ifd ((y15.1.2.1 == 8) = true) (
                                  ifd ((y15.1.2.2.1 == 8) = true) (
                                    ifd ((y15.1.2.1 == 8) = true) (
                                      some true) (
                                      ifd ((y15.1.2.1 == 9) = true) (
                                        ifd ((y15.1.2.1 == 9) = true) (
                                          some (y15.1.2.2.1 == 9)) (
                                          some false)) (
                                        ifd ((y15.1.2.1 == 9) = true) (
                                          none) (
                                          some false)))) (
                                    ifd ((y15.1.2.1 == 8) = true) (
                                      none) (
                                      ifd ((y15.1.2.1 == 9) = true) (
                                        ifd ((y15.1.2.1 == 9) = true) (
                                          some (y15.1.2.2.1 == 9)) (
                                          some false)) (
                                        ifd ((y15.1.2.1 == 9) = true) (
                                          none) (
                                          some false))))) (
                                  ifd ((y15.1.2.1 == 8) = true) (
                                    none) (
                                    ifd ((y15.1.2.1 == 9) = true) (
                                      ifd ((y15.1.2.1 == 9) = true) (
                                        some (y15.1.2.2.1 == 9)) (
                                        some false)) (
                                      ifd ((y15.1.2.1 == 9) = true) (
                                        none) (
                                        some false))))) (
                                ifd ((y15.1.2.1 == 8) = true) (
                                  ifd ((y15.1.2.2.1 == 8) = true) (
                                    ifd ((y15.1.2.1 == 8) = true) (
                                      some true) (
                                      ifd ((y15.1.2.1 == 9) = true) (
                                        ifd ((y15.1.2.1 == 9) = true) (
                                          some (y15.1.2.2.1 == 9)) (
                                          some false)) (
                                        ifd ((y15.1.2.1 == 9) = true) (
                                          none) (
                                          some false)))) (
                                    ifd ((y15.1.2.1 == 8) = true) (
                                      ifd ((y15.1.2.2.1 == 9) = true) (
                                        ifd ((y15.1.2.2.1 == 9) = true) (
                                          ifd ((y15.1.2.2.1 == 9) = true) (
                                            some true) (
                                            none)) (
                                          none)) (
                                        ifd ((y15.1.2.1 == 9) = true) (
                                          ifd ((y15.1.2.2.1 == 9) = true) (
                                            ifd ((y15.1.2.2.1 == 9) = true) (
                                              some true) (
                                              none)) (
                                            ifd ((y15.1.2.1 == 9) = true) (
                                              ifd ((y15.1.2.2.1 == 9) = true) (
                                                some true) (
                                                some (y15.1.2.2.1 == 9))) (
                                              ifd ((y15.1.2.2.1 == 9) = true) (
                                                some true) (
                                                some false)))) (
                                          ifd ((y15.1.2.2.1 == 9) = true) (
                                            ifd ((y15.1.2.2.1 == 9) = true) (
                                              some true) (
                                              none)) (
                                            ifd ((y15.1.2.1 == 9) = true) (
                                              ifd ((y15.1.2.2.1 == 9) = true) (
                                                some true) (
                                                none)) (
                                              ifd ((y15.1.2.2.1 == 9) = true) (
                                                some true) (
                                                some false)))))) (
                                      ifd ((y15.1.2.1 == 9) = true) (
                                        ifd ((y15.1.2.1 == 9) = true) (
                                          some (y15.1.2.2.1 == 9)) (
                                          some false)) (
                                        ifd ((y15.1.2.1 == 9) = true) (
                                          none) (
                                          some false))))) (
                                  ifd ((y15.1.2.1 == 8) = true) (
                                    none) (
                                    ifd ((y15.1.2.1 == 9) = true) (
                                      ifd ((y15.1.2.1 == 9) = true) (
                                        some (y15.1.2.2.1 == 9)) (
                                        some false)) (
                                      ifd ((y15.1.2.1 == 9) = true) (
                                        none) (
                                        some false)))))) (
                              ifd ((y15.1.2.1 == 8) = true) (
                                none) (
                                ifd ((y15.1.2.1 == 8) = true) (
                                  none) (
                                  ifd ((y15.1.2.1 == 9) = true) (
                                    ifd ((y15.1.2.1 == 9) = true) (
                                      some (y15.1.2.2.1 == 9)) (
                                      some false)) (
                                    ifd ((y15.1.2.1 == 9) = true) (
                                      none) (
                                      some false)))))))) (
                        ifd ((y15.1.2.1 == 7) = true) (
                          none) (
                          ifd ((y15.1.2.1 == 8) = true) (
                            ifd ((y15.1.2.2.1 == 8) = true) (
                              ifd ((y15.1.2.1 == 8) = true) (
                                ifd ((y15.1.2.2.1 == 8) = true) (
                                  ifd ((y15.1.2.1 == 8) = true) (
                                    some true) (
                                    ifd ((y15.1.2.1 == 9) = true) (
                                      ifd ((y15.1.2.1 == 9) = true) (
                                        some (y15.1.2.2.1 == 9)) (
                                        some false)) (
                                      ifd ((y15.1.2.1 == 9) = true) (
                                        none) (
                                        some false)))) (
                                  ifd ((y15.1.2.1 == 8) = true) (
                                    none) (
                                    ifd ((y15.1.2.1 == 9) = true) (
                                      ifd ((y15.1.2.1 == 9) = true) (
                                        some (y15.1.2.2.1 == 9)) (
                                        some false)) (
                                      ifd ((y15.1.2.1 == 9) = true) (
                                        none) (
                                        some false))))) (
                                ifd ((y15.1.2.1 == 8) = true) (
                                  none) (
                                  ifd ((y15.1.2.1 == 9) = true) (
                                    ifd ((y15.1.2.1 == 9) = true) (
                                      some (y15.1.2.2.1 == 9)) (
                                      some false)) (
                                    ifd ((y15.1.2.1 == 9) = true) (
                                      none) (
                                      some false))))) (
                              ifd ((y15.1.2.1 == 8) = true) (
                                ifd ((y15.1.2.2.1 == 8) = true) (
                                  ifd ((y15.1.2.1 == 8) = true) (
                                    some true) (
                                    ifd ((y15.1.2.1 == 9) = true) (
                                      ifd ((y15.1.2.1 == 9) = true) (
                                        some (y15.1.2.2.1 == 9)) (
                                        some false)) (
                                      ifd ((y15.1.2.1 == 9) = true) (
                                        none) (
                                        some false)))) (
                                  ifd ((y15.1.2.1 == 8) = true) (
                                    ifd ((y15.1.2.2.1 == 9) = true) (
                                      ifd ((y15.1.2.2.1 == 9) = true) (
                                        ifd ((y15.1.2.2.1 == 9) = true) (
                                          some true) (
                                          none)) (
                                        none)) (
                                      ifd ((y15.1.2.1 == 9) = true) (
                                        ifd ((y15.1.2.2.1 == 9) = true) (
                                          ifd ((y15.1.2.2.1 == 9) = true) (
                                            some true) (
                                            none)) (
                                          ifd ((y15.1.2.1 == 9) = true) (
                                            ifd ((y15.1.2.2.1 == 9) = true) (
                                              some true) (
                                              some (y15.1.2.2.1 == 9))) (
                                            ifd ((y15.1.2.2.1 == 9) = true) (
                                              some true) (
                                              some false)))) (
                                        ifd ((y15.1.2.2.1 == 9) = true) (
                                          ifd ((y15.1.2.2.1 == 9) = true) (
                                            some true) (
                                            none)) (
                                          ifd ((y15.1.2.1 == 9) = true) (
                                            ifd ((y15.1.2.2.1 == 9) = true) (
                                              some true) (
                                              none)) (
                                            ifd ((y15.1.2.2.1 == 9) = true) (
                                              some true) (
                                              some false)))))) (
                                    ifd ((y15.1.2.1 == 9) = true) (
                                      ifd ((y15.1.2.1 == 9) = true) (
                                        some (y15.1.2.2.1 == 9)) (
                                        some false)) (
                                      ifd ((y15.1.2.1 == 9) = true) (
                                        none) (
                                        some false))))) (
                                ifd ((y15.1.2.1 == 8) = true) (
                                  none) (
                                  ifd ((y15.1.2.1 == 9) = true) (
                                    ifd ((y15.1.2.1 == 9) = true) (
                                      some (y15.1.2.2.1 == 9)) (
                                      some false)) (
                                    ifd ((y15.1.2.1 == 9) = true) (
                                      none) (
                                      some false)))))) (
                            ifd ((y15.1.2.1 == 8) = true) (
                              none) (
                              ifd ((y15.1.2.1 == 8) = true) (
                                none) (
                                ifd ((y15.1.2.1 == 9) = true) (
                                  ifd ((y15.1.2.1 == 9) = true) (
                                    some (y15.1.2.2.1 == 9)) (
                                    some false)) (
                                  ifd ((y15.1.2.1 == 9) = true) (
                                    none) (
                                    some false)))))))) (
                      ifd ((y15.1.2.1 == 7) = true) (
                        ifd ((y15.1.2.2.1 == 7) = true) (
                          ifd ((y15.1.2.1 == 7) = true) (
                            some true) (
                            ifd ((y15.1.2.1 == 8) = true) (
                              ifd ((y15.1.2.2.1 == 8) = true) (
                                ifd ((y15.1.2.1 == 8) = true) (
                                  ifd ((y15.1.2.2.1 == 8) = true) (
                                    ifd ((y15.1.2.1 == 8) = true) (
                                      some true) (
                                      ifd ((y15.1.2.1 == 9) = true) (
                                        ifd ((y15.1.2.1 == 9) = true) (
                                          some (y15.1.2.2.1 == 9)) (
                                          some false)) (
                                        ifd ((y15.1.2.1 == 9) = true) (
                                          none) (
                                          some false)))) (
                                    ifd ((y15.1.2.1 == 8) = true) (
                                      none) (
                                      ifd ((y15.1.2.1 == 9) = true) (
                                        ifd ((y15.1.2.1 == 9) = true) (
                                          some (y15.1.2.2.1 == 9)) (
                                          some false)) (
                                        ifd ((y15.1.2.1 == 9) = true) (
                                          none) (
                                          some false))))) (
                                  ifd ((y15.1.2.1 == 8) = true) (
                                    none) (
                                    ifd ((y15.1.2.1 == 9) = true) (
                                      ifd ((y15.1.2.1 == 9) = true) (
                                        some (y15.1.2.2.1 == 9)) (
                                        some false)) (
                                      ifd ((y15.1.2.1 == 9) = true) (
                                        none) (
                                        some false))))) (
                                ifd ((y15.1.2.1 == 8) = true) (
                                  ifd ((y15.1.2.2.1 == 8) = true) (
                                    ifd ((y15.1.2.1 == 8) = true) (
                                      some true) (
                                      ifd ((y15.1.2.1 == 9) = true) (
                                        ifd ((y15.1.2.1 == 9) = true) (
                                          some (y15.1.2.2.1 == 9)) (
                                          some false)) (
                                        ifd ((y15.1.2.1 == 9) = true) (
                                          none) (
                                          some false)))) (
                                    ifd ((y15.1.2.1 == 8) = true) (
                                      ifd ((y15.1.2.2.1 == 9) = true) (
                                        ifd ((y15.1.2.2.1 == 9) = true) (
                                          ifd ((y15.1.2.2.1 == 9) = true) (
                                            some true) (
                                            none)) (
                                          none)) (
                                        ifd ((y15.1.2.1 == 9) = true) (
                                          ifd ((y15.1.2.2.1 == 9) = true) (
                                            ifd ((y15.1.2.2.1 == 9) = true) (
                                              some true) (
                                              none)) (
                                            ifd ((y15.1.2.1 == 9) = true) (
                                              ifd ((y15.1.2.2.1 == 9) = true) (
                                                some true) (
                                                some (y15.1.2.2.1 == 9))) (
                                              ifd ((y15.1.2.2.1 == 9) = true) (
                                                some true) (
                                                some false)))) (
                                          ifd ((y15.1.2.2.1 == 9) = true) (
                                            ifd ((y15.1.2.2.1 == 9) = true) (
                                              some true) (
                                              none)) (
                                            ifd ((y15.1.2.1 == 9) = true) (
                                              ifd ((y15.1.2.2.1 == 9) = true) (
                                                some true) (
                                                none)) (
                                              ifd ((y15.1.2.2.1 == 9) = true) (
                                                some true) (
                                                some false)))))) (
                                      ifd ((y15.1.2.1 == 9) = true) (
                                        ifd ((y15.1.2.1 == 9) = true) (
                                          some (y15.1.2.2.1 == 9)) (
                                          some false)) (
                                        ifd ((y15.1.2.1 == 9) = true) (
                                          none) (
                                          some false))))) (
                                  ifd ((y15.1.2.1 == 8) = true) (
                                    none) (
                                    ifd ((y15.1.2.1 == 9) = true) (
                                      ifd ((y15.1.2.1 == 9) = true) (
                                        some (y15.1.2.2.1 == 9)) (
                                        some false)) (
                                      ifd ((y15.1.2.1 == 9) = true) (
                                        none) (
                                        some false)))))) (
                              ifd ((y15.1.2.1 == 8) = true) (
                                none) (
                                ifd ((y15.1.2.1 == 8) = true) (
                                  none) (
                                  ifd ((y15.1.2.1 == 9) = true) (
                                    ifd ((y15.1.2.1 == 9) = true) (
                                      some (y15.1.2.2.1 == 9)) (
                                      some false)) (
                                    ifd ((y15.1.2.1 == 9) = true) (
                                      none) (
                                      some false))))))) (
                          ifd ((y15.1.2.1 == 7) = true) (
                            ifd ((y15.1.2.2.1 == 8) = true) (
                              ifd ((y15.1.2.2.1 == 8) = true) (
                                ifd ((y15.1.2.2.1 == 8) = true) (
                                  some true) (
                                  none)) (
                                none)) (
                              ifd ((y15.1.2.1 == 8) = true) (
                                ifd ((y15.1.2.2.1 == 8) = true) (
                                  ifd ((y15.1.2.1 == 8) = true) (
                                    ifd ((y15.1.2.2.1 == 8) = true) (
                                      ifd ((y15.1.2.2.1 == 8) = true) (
                                        ifd ((y15.1.2.2.1 == 8) = true) (
                                          some true) (
                                          none)) (
                                        ifd ((y15.1.2.1 == 8) = true) (
                                          ifd ((y15.1.2.2.1 == 8) = true) (
                                            some true) (
                                            some true)) (
                                          ifd ((y15.1.2.2.1 == 8) = true) (
                                            some true) (
                                            ifd ((y15.1.2.1 == 9) = true) (
                                              ifd ((y15.1.2.1 == 9) = true) (
                                                some (y15.1.2.2.1 == 9)) (
                                                some false)) (
                                              ifd ((y15.1.2.1 == 9) = true) (
                                                none) (
                                                some false)))))) (
                                      ifd ((y15.1.2.2.1 == 8) = true) (
                                        ifd ((y15.1.2.2.1 == 8) = true) (
                                          some true) (
                                          none)) (
                                        ifd ((y15.1.2.1 == 8) = true) (
                                          ifd ((y15.1.2.2.1 == 8) = true) (
                                            some true) (
                                            none)) (
                                          ifd ((y15.1.2.2.1 == 8) = true) (
                                            some true) (
                                            ifd ((y15.1.2.1 == 9) = true) (
                                              ifd ((y15.1.2.1 == 9) = true) (
                                                some (y15.1.2.2.1 == 9)) (
                                                some false)) (
                                              ifd ((y15.1.2.1 == 9) = true) (
                                                none) (
                                                some false))))))) (
                                    ifd ((y15.1.2.2.1 == 8) = true) (
                                      ifd ((y15.1.2.2.1 == 8) = true) (
                                        some true) (
                                        none)) (
                                      ifd ((y15.1.2.1 == 8) = true) (
                                        ifd ((y15.1.2.2.1 == 8) = true) (
                                          some true) (
                                          none)) (
                                        ifd ((y15.1.2.2.1 == 8) = true) (
                                          some true) (
                                          ifd ((y15.1.2.1 == 9) = true) (
                                            ifd ((y15.1.2.1 == 9) = true) (
                                              some (y15.1.2.2.1 == 9)) (
                                              some false)) (
                                            ifd ((y15.1.2.1 == 9) = true) (
                                              none) (
                                              some false))))))) (
                                  ifd ((y15.1.2.1 == 8) = true) (
                                    ifd ((y15.1.2.2.1 == 8) = true) (
                                      ifd ((y15.1.2.2.1 == 8) = true) (
                                        ifd ((y15.1.2.2.1 == 8) = true) (
                                          some true) (
                                          none)) (
                                        ifd ((y15.1.2.1 == 8) = true) (
                                          ifd ((y15.1.2.2.1 == 8) = true) (
                                            some true) (
                                            some true)) (
                                          ifd ((y15.1.2.2.1 == 8) = true) (
                                            some true) (
                                            ifd ((y15.1.2.1 == 9) = true) (
                                              ifd ((y15.1.2.1 == 9) = true) (
                                                some (y15.1.2.2.1 == 9)) (
                                                some false)) (
                                              ifd ((y15.1.2.1 == 9) = true) (
                                                none) (
                                                some false)))))) (
                                      ifd ((y15.1.2.2.1 == 8) = true) (
                                        ifd ((y15.1.2.2.1 == 8) = true) (
                                          some true) (
                                          none)) (
                                        ifd ((y15.1.2.1 == 8) = true) (
                                          ifd ((y15.1.2.2.1 == 8) = true) (
                                            some true) (
                                            ifd ((y15.1.2.2.1 == 9) = true) (
                                              ifd ((y15.1.2.2.1 == 9) = true) (
                                                ifd ((y15.1.2.2.1 == 9) = true) (
                                                  some true) (
                                                  none)) (
                                                none)) (
                                              ifd ((y15.1.2.1 == 9) = true) (
                                                ifd ((y15.1.2.2.1 == 9) = true) (
                                                  ifd ((y15.1.2.2.1 == 9) = true) (
                                                    some true) (
                                                    none)) (
                                                  ifd ((y15.1.2.1 == 9) = true) (
                                                    ifd ((y15.1.2.2.1 == 9) = true) (
                                                      some true) (
                                                      some (y15.1.2.2.1 == 9))) (
                                                    ifd ((y15.1.2.2.1 == 9) = true) (
                                                      some true) (
                                                      some false)))) (
                                                ifd ((y15.1.2.2.1 == 9) = true) (
                                                  ifd ((y15.1.2.2.1 == 9) = true) (
                                                    some true) (
                                                    none)) (
                                                  ifd ((y15.1.2.1 == 9) = true) (
                                                    ifd ((y15.1.2.2.1 == 9) = true) (
                                                      some true) (
                                                      none)) (
                                                    ifd ((y15.1.2.2.1 == 9) = true) (
                                                      some true) (
                                                      some false))))))) (
                                          ifd ((y15.1.2.2.1 == 8) = true) (
                                            some true) (
                                            ifd ((y15.1.2.1 == 9) = true) (
                                              ifd ((y15.1.2.1 == 9) = true) (
                                                some (y15.1.2.2.1 == 9)) (
                                                some false)) (
                                              ifd ((y15.1.2.1 == 9) = true) (
                                                none) (
                                                some false))))))) (
                                    ifd ((y15.1.2.2.1 == 8) = true) (
                                      ifd ((y15.1.2.2.1 == 8) = true) (
                                        some true) (
                                        none)) (
                                      ifd ((y15.1.2.1 == 8) = true) (
                                        ifd ((y15.1.2.2.1 == 8) = true) (
                                          some true) (
                                          none)) (
                                        ifd ((y15.1.2.2.1 == 8) = true) (
                                          some true) (
                                          ifd ((y15.1.2.1 == 9) = true) (
                                            ifd ((y15.1.2.1 == 9) = true) (
                                              some (y15.1.2.2.1 == 9)) (
                                              some false)) (
                                            ifd ((y15.1.2.1 == 9) = true) (
                                              none) (
                                              some false)))))))) (
                                ifd ((y15.1.2.1 == 8) = true) (
                                  none) (
                                  ifd ((y15.1.2.2.1 == 8) = true) (
                                    ifd ((y15.1.2.2.1 == 8) = true) (
                                      some true) (
                                      none)) (
                                    ifd ((y15.1.2.1 == 8) = true) (
                                      ifd ((y15.1.2.2.1 == 8) = true) (
                                        some true) (
                                        none)) (
                                      ifd ((y15.1.2.2.1 == 8) = true) (
                                        some true) (
                                        ifd ((y15.1.2.1 == 9) = true) (
                                          ifd ((y15.1.2.1 == 9) = true) (
                                            some (y15.1.2.2.1 == 9)) (
                                            some false)) (
                                          ifd ((y15.1.2.1 == 9) = true) (
                                            none) (
                                            some false))))))))) (
                            ifd ((y15.1.2.1 == 8) = true) (
                              ifd ((y15.1.2.2.1 == 8) = true) (
                                ifd ((y15.1.2.1 == 8) = true) (
                                  ifd ((y15.1.2.2.1 == 8) = true) (
                                    ifd ((y15.1.2.1 == 8) = true) (
                                      some true) (
                                      ifd ((y15.1.2.1 == 9) = true) (
                                        ifd ((y15.1.2.1 == 9) = true) (
                                          some (y15.1.2.2.1 == 9)) (
                                          some false)) (
                                        ifd ((y15.1.2.1 == 9) = true) (
                                          none) (
                                          some false)))) (
                                    ifd ((y15.1.2.1 == 8) = true) (
                                      none) (
                                      ifd ((y15.1.2.1 == 9) = true) (
                                        ifd ((y15.1.2.1 == 9) = true) (
                                          some (y15.1.2.2.1 == 9)) (
                                          some false)) (
                                        ifd ((y15.1.2.1 == 9) = true) (
                                          none) (
                                          some false))))) (
                                  ifd ((y15.1.2.1 == 8) = true) (
                                    none) (
                                    ifd ((y15.1.2.1 == 9) = true) (
                                      ifd ((y15.1.2.1 == 9) = true) (
                                        some (y15.1.2.2.1 == 9)) (
                                        some false)) (
                                      ifd ((y15.1.2.1 == 9) = true) (
                                        none) (
                                        some false))))) (
                                ifd ((y15.1.2.1 == 8) = true) (
                                  ifd ((y15.1.2.2.1 == 8) = true) (
                                    ifd ((y15.1.2.1 == 8) = true) (
                                      some true) (
                                      ifd ((y15.1.2.1 == 9) = true) (
                                        ifd ((y15.1.2.1 == 9) = true) (
                                          some (y15.1.2.2.1 == 9)) (
                                          some false)) (
                                        ifd ((y15.1.2.1 == 9) = true) (
                                          none) (
                                          some false)))) (
                                    ifd ((y15.1.2.1 == 8) = true) (
                                      ifd ((y15.1.2.2.1 == 9) = true) (
                                        ifd ((y15.1.2.2.1 == 9) = true) (
                                          ifd ((y15.1.2.2.1 == 9) = true) (
                                            some true) (
                                            none)) (
                                          none)) (
                                        ifd ((y15.1.2.1 == 9) = true) (
                                          ifd ((y15.1.2.2.1 == 9) = true) (
                                            ifd ((y15.1.2.2.1 == 9) = true) (
                                              some true) (
                                              none)) (
                                            ifd ((y15.1.2.1 == 9) = true) (
                                              ifd ((y15.1.2.2.1 == 9) = true) (
                                                some true) (
                                                some (y15.1.2.2.1 == 9))) (
                                              ifd ((y15.1.2.2.1 == 9) = true) (
                                                some true) (
                                                some false)))) (
                                          ifd ((y15.1.2.2.1 == 9) = true) (
                                            ifd ((y15.1.2.2.1 == 9) = true) (
                                              some true) (
                                              none)) (
                                            ifd ((y15.1.2.1 == 9) = true) (
                                              ifd ((y15.1.2.2.1 == 9) = true) (
                                                some true) (
                                                none)) (
                                              ifd ((y15.1.2.2.1 == 9) = true) (
                                                some true) (
                                                some false)))))) (
                                      ifd ((y15.1.2.1 == 9) = true) (
                                        ifd ((y15.1.2.1 == 9) = true) (
                                          some (y15.1.2.2.1 == 9)) (
                                          some false)) (
                                        ifd ((y15.1.2.1 == 9) = true) (
                                          none) (
                                          some false))))) (
                                  ifd ((y15.1.2.1 == 8) = true) (
                                    none) (
                                    ifd ((y15.1.2.1 == 9) = true) (
                                      ifd ((y15.1.2.1 == 9) = true) (
                                        some (y15.1.2.2.1 == 9)) (
                                        some false)) (
                                      ifd ((y15.1.2.1 == 9) = true) (
                                        none) (
                                        some false)))))) (
                              ifd ((y15.1.2.1 == 8) = true) (
                                none) (
                                ifd ((y15.1.2.1 == 8) = true) (
                                  none) (
                                  ifd ((y15.1.2.1 == 9) = true) (
                                    ifd ((y15.1.2.1 == 9) = true) (
                                      some (y15.1.2.2.1 == 9)) (
                                      some false)) (
                                    ifd ((y15.1.2.1 == 9) = true) (
                                      none) (
                                      some false)))))))) (
                        ifd ((y15.1.2.1 == 7) = true) (
                          none) (
                          ifd ((y15.1.2.1 == 8) = true) (
                            ifd ((y15.1.2.2.1 == 8) = true) (
                              ifd ((y15.1.2.1 == 8) = true) (
                                ifd ((y15.1.2.2.1 == 8) = true) (
                                  ifd ((y15.1.2.1 == 8) = true) (
                                    some true) (
                                    ifd ((y15.1.2.1 == 9) = true) (
                                      ifd ((y15.1.2.1 == 9) = true) (
                                        some (y15.1.2.2.1 == 9)) (
                                        some false)) (
                                      ifd ((y15.1.2.1 == 9) = true) (
                                        none) (
                                        some false)))) (
                                  ifd ((y15.1.2.1 == 8) = true) (
                                    none) (
                                    ifd ((y15.1.2.1 == 9) = true) (
                                      ifd ((y15.1.2.1 == 9) = true) (
                                        some (y15.1.2.2.1 == 9)) (
                                        some false)) (
                                      ifd ((y15.1.2.1 == 9) = true) (
                                        none) (
                                        some false))))) (
                                ifd ((y15.1.2.1 == 8) = true) (
                                  none) (
                                  ifd ((y15.1.2.1 == 9) = true) (
                                    ifd ((y15.1.2.1 == 9) = true) (
                                      some (y15.1.2.2.1 == 9)) (
                                      some false)) (
                                    ifd ((y15.1.2.1 == 9) = true) (
                                      none) (
                                      some false))))) (
                              ifd ((y15.1.2.1 == 8) = true) (
                                ifd ((y15.1.2.2.1 == 8) = true) (
                                  ifd ((y15.1.2.1 == 8) = true) (
                                    some true) (
                                    ifd ((y15.1.2.1 == 9) = true) (
                                      ifd ((y15.1.2.1 == 9) = true) (
                                        some (y15.1.2.2.1 == 9)) (
                                        some false)) (
                                      ifd ((y15.1.2.1 == 9) = true) (
                                        none) (
                                        some false)))) (
                                  ifd ((y15.1.2.1 == 8) = true) (
                                    ifd ((y15.1.2.2.1 == 9) = true) (
                                      ifd ((y15.1.2.2.1 == 9) = true) (
                                        ifd ((y15.1.2.2.1 == 9) = true) (
                                          some true) (
                                          none)) (
                                        none)) (
                                      ifd ((y15.1.2.1 == 9) = true) (
                                        ifd ((y15.1.2.2.1 == 9) = true) (
                                          ifd ((y15.1.2.2.1 == 9) = true) (
                                            some true) (
                                            none)) (
                                          ifd ((y15.1.2.1 == 9) = true) (
                                            ifd ((y15.1.2.2.1 == 9) = true) (
                                              some true) (
                                              some (y15.1.2.2.1 == 9))) (
                                            ifd ((y15.1.2.2.1 == 9) = true) (
                                              some true) (
                                              some false)))) (
                                        ifd ((y15.1.2.2.1 == 9) = true) (
                                          ifd ((y15.1.2.2.1 == 9) = true) (
                                            some true) (
                                            none)) (
                                          ifd ((y15.1.2.1 == 9) = true) (
                                            ifd ((y15.1.2.2.1 == 9) = true) (
                                              some true) (
                                              none)) (
                                            ifd ((y15.1.2.2.1 == 9) = true) (
                                              some true) (
                                              some false)))))) (
                                    ifd ((y15.1.2.1 == 9) = true) (
                                      ifd ((y15.1.2.1 == 9) = true) (
                                        some (y15.1.2.2.1 == 9)) (
                                        some false)) (
                                      ifd ((y15.1.2.1 == 9) = true) (
                                        none) (
                                        some false))))) (
                                ifd ((y15.1.2.1 == 8) = true) (
                                  none) (
                                  ifd ((y15.1.2.1 == 9) = true) (
                                    ifd ((y15.1.2.1 == 9) = true) (
                                      some (y15.1.2.2.1 == 9)) (
                                      some false)) (
                                    ifd ((y15.1.2.1 == 9) = true) (
                                      none) (
                                      some false)))))) (
                            ifd ((y15.1.2.1 == 8) = true) (
                              none) (
                              ifd ((y15.1.2.1 == 8) = true) (
                                none) (
                                ifd ((y15.1.2.1 == 9) = true) (
                                  ifd ((y15.1.2.1 == 9) = true) (
                                    some (y15.1.2.2.1 == 9)) (
                                    some false)) (
                                  ifd ((y15.1.2.1 == 9) = true) (
                                    none) (
                                    some false))))))))) (
                    ifd ((y15.1.2.1 == 7) = true) (
                      none) (
                      ifd ((y15.1.2.1 == 7) = true) (
                        none) (
                        ifd ((y15.1.2.1 == 8) = true) (
                          ifd ((y15.1.2.2.1 == 8) = true) (
                            ifd ((y15.1.2.1 == 8) = true) (
                              ifd ((y15.1.2.2.1 == 8) = true) (
                                ifd ((y15.1.2.1 == 8) = true) (
                                  some true) (
                                  ifd ((y15.1.2.1 == 9) = true) (
                                    ifd ((y15.1.2.1 == 9) = true) (
                                      some (y15.1.2.2.1 == 9)) (
                                      some false)) (
                                    ifd ((y15.1.2.1 == 9) = true) (
                                      none) (
                                      some false)))) (
                                ifd ((y15.1.2.1 == 8) = true) (
                                  none) (
                                  ifd ((y15.1.2.1 == 9) = true) (
                                    ifd ((y15.1.2.1 == 9) = true) (
                                      some (y15.1.2.2.1 == 9)) (
                                      some false)) (
                                    ifd ((y15.1.2.1 == 9) = true) (
                                      none) (
                                      some false))))) (
                              ifd ((y15.1.2.1 == 8) = true) (
                                none) (
                                ifd ((y15.1.2.1 == 9) = true) (
                                  ifd ((y15.1.2.1 == 9) = true) (
                                    some (y15.1.2.2.1 == 9)) (
                                    some false)) (
                                  ifd ((y15.1.2.1 == 9) = true) (
                                    none) (
                                    some false))))) (
                            ifd ((y15.1.2.1 == 8) = true) (
                              ifd ((y15.1.2.2.1 == 8) = true) (
                                ifd ((y15.1.2.1 == 8) = true) (
                                  some true) (
                                  ifd ((y15.1.2.1 == 9) = true) (
                                    ifd ((y15.1.2.1 == 9) = true) (
                                      some (y15.1.2.2.1 == 9)) (
                                      some false)) (
                                    ifd ((y15.1.2.1 == 9) = true) (
                                      none) (
                                      some false)))) (
                                ifd ((y15.1.2.1 == 8) = true) (
                                  ifd ((y15.1.2.2.1 == 9) = true) (
                                    ifd ((y15.1.2.2.1 == 9) = true) (
                                      ifd ((y15.1.2.2.1 == 9) = true) (
                                        some true) (
                                        none)) (
                                      none)) (
                                    ifd ((y15.1.2.1 == 9) = true) (
                                      ifd ((y15.1.2.2.1 == 9) = true) (
                                        ifd ((y15.1.2.2.1 == 9) = true) (
                                          some true) (
                                          none)) (
                                        ifd ((y15.1.2.1 == 9) = true) (
                                          ifd ((y15.1.2.2.1 == 9) = true) (
                                            some true) (
                                            some (y15.1.2.2.1 == 9))) (
                                          ifd ((y15.1.2.2.1 == 9) = true) (
                                            some true) (
                                            some false)))) (
                                      ifd ((y15.1.2.2.1 == 9) = true) (
                                        ifd ((y15.1.2.2.1 == 9) = true) (
                                          some true) (
                                          none)) (
                                        ifd ((y15.1.2.1 == 9) = true) (
                                          ifd ((y15.1.2.2.1 == 9) = true) (
                                            some true) (
                                            none)) (
                                          ifd ((y15.1.2.2.1 == 9) = true) (
                                            some true) (
                                            some false)))))) (
                                  ifd ((y15.1.2.1 == 9) = true) (
                                    ifd ((y15.1.2.1 == 9) = true) (
                                      some (y15.1.2.2.1 == 9)) (
                                      some false)) (
                                    ifd ((y15.1.2.1 == 9) = true) (
                                      none) (
                                      some false))))) (
                              ifd ((y15.1.2.1 == 8) = true) (
                                none) (
                                ifd ((y15.1.2.1 == 9) = true) (
                                  ifd ((y15.1.2.1 == 9) = true) (
                                    some (y15.1.2.2.1 == 9)) (
                                    some false)) (
                                  ifd ((y15.1.2.1 == 9) = true) (
                                    none) (
                                    some false)))))) (
                          ifd ((y15.1.2.1 == 8) = true) (
                            none) (
                            ifd ((y15.1.2.1 == 8) = true) (
                              none) (
                              ifd ((y15.1.2.1 == 9) = true) (
                                ifd ((y15.1.2.1 == 9) = true) (
                                  some (y15.1.2.2.1 == 9)) (
                                  some false)) (
                                ifd ((y15.1.2.1 == 9) = true) (
                                  none) (
                                  some false))))))))))))))))) (
        none)) (
      none)))
theorem ref1_Continues_eq (a0 : List Int) (a1 : Int) (a2 : Int) (pc : PC prog) (lp : LP) : got ref1_Continues_t (pcall prog (runO prog cfg (hand prog cfg lp pc 6 tbl 5) pc 6) 19 [(.c (.slice .ro (.int .i64) a0)), (.c (.int .i64 a1)), (.c (.int .i64 a2))]) = ref1_Continues_B pc lp a0 a1 a2 := by kernel_rfl
theorem ref1_Continues_ap (E : AppE prog pcN pc lN lp) (a0 : List Int) (a1 : Int) (a2 : Int) : Approx (fun N => ref1_Continues_B (pcN N) (lN N) a0 a1 a2) (ref1_Continues_B pc lp a0 a1 a2) := by
  delta ref1_Continues_B
  exact (Approx.bnd (ref1_Continues_C1_a E) (fun y0 => (Approx.ifd (Approx.const _) (Approx.ifd (Approx.bnd (Approx.bnd (ref1_Class_ca E) fun x1 => (Approx.const _)) fun x2 => (Approx.ifd (Approx.bnd (Approx.bnd (ref1_Class_ca E) fun x3 => (Approx.const _)) fun x4 => (Approx.bnd (ref1_Continues_C2_a E) (fun y5 => (Approx.ifd (Approx.const _) (Approx.bnd (ref1_Continues_C3_a E) (fun y14 => (Approx.ifd (Approx.const _) (Approx.bnd (ref1_Continues_C4_a E) (fun y15 => (Approx.ifd (Approx.const _) (Approx.ifd (Approx.const _) (Approx.ifd (Approx.const _) (Approx.ifd (Approx.ifd (Approx.ifd (Approx.ifd (Approx.ifd (Approx.const _) (Approx.ifd (Approx.ifd (Approx.ifd (Approx.ifd (Approx.ifd (Approx.const _) (Approx.ifd (Approx.ifd (Approx.const _) (Approx.const _)) (Approx.ifd Approx.none (Approx.const _)))) (Approx.ifd Approx.none (Approx.ifd (Approx.ifd (Approx.const _) (Approx.const _)) (Approx.ifd Approx.none (Approx.const _))))) (Approx.ifd Approx.none (Approx.ifd (Approx.ifd (Approx.const _) (Approx.const _)) (Approx.ifd Approx.none (Approx.const _))))) (Approx.ifd (Approx.ifd (Approx.ifd (Approx.const _) (Approx.ifd (Approx.ifd (Approx.const _) (Approx.const _)) (Approx.ifd Approx.none (Approx.const _)))) (Approx.ifd (Approx.ifd (Approx.ifd (Approx.ifd (Approx.const _) Approx.none) Approx.none) (Approx.ifd (Approx.ifd (Approx.ifd (Approx.const _) Approx.none) (Approx.ifd (Approx.ifd (Approx.const _) (Approx.const _)) (Approx.ifd (Approx.const _) (Approx.const _)))) (Approx.ifd (Approx.ifd (Approx.const _) Approx.none) (Approx.ifd (Approx.ifd (Approx.const _) Approx.none) (Approx.ifd (Approx.const _) (Approx.const _)))))) (Approx.ifd (Approx.ifd (Approx.const _) (Approx.const _)) (Approx.ifd Approx.none (Approx.const _))))) (Approx.ifd Approx.none (Approx.ifd (Approx.ifd (Approx.const _) (Approx.const _)) (Approx.ifd Approx.none (Approx.const _)))))) (Approx.ifd Approx.none (Approx.ifd Approx.none (Approx.ifd (Approx.ifd (Approx.const _) (Approx.const _)) (Approx.ifd Approx.none (Approx.const _))))))) (Approx.ifd Approx.none (Approx.ifd (Approx.ifd (Approx.ifd (Approx.ifd (Approx.ifd (Approx.const _) (Approx.ifd (Approx.ifd (Approx.const _) (Approx.const _)) (Approx.ifd Approx.none (Approx.const _)))) (Approx.ifd Approx.none (Approx.ifd (Approx.ifd (Approx.const _) (Approx.const _)) (Approx.ifd Approx.none (Approx.const _))))) (Approx.ifd Approx.none (Approx.ifd (Approx.ifd (Approx.const _) (Approx.const _)) (Approx.ifd Approx.none (Approx.const _))))) (Approx.ifd (Approx.ifd (Approx.ifd (Approx.const _) (Approx.ifd (Approx.ifd (Approx.const _) (Approx.const _)) (Approx.ifd Approx.none (Approx.const _)))) (Approx.ifd (Approx.ifd (Approx.ifd (Approx.ifd (Approx.const _) Approx.none) Approx.none) (Approx.ifd (Approx.ifd (Approx.ifd (Approx.const _) Approx.none) (Approx.ifd (Approx.ifd (Approx.const _) (Approx.const _)) (Approx.ifd (Approx.const _) (Approx.const _)))) (Approx.ifd (Approx.ifd (Approx.const _) Approx.none) (Approx.ifd (Approx.ifd (Approx.const _) Approx.none) (Approx.ifd (Approx.const _) (Approx.const _)))))) (Approx.ifd (Approx.ifd (Approx.const _) (Approx.const _)) (Approx.ifd Approx.none (Approx.const _))))) (Approx.ifd Approx.none (Approx.ifd (Approx.ifd (Approx.const _) (Approx.const _)) (Approx.ifd Approx.none (Approx.const _)))))) (Approx.ifd Approx.none (Approx.ifd Approx.none (Approx.ifd (Approx.ifd (Approx.const _) (Approx.const _)) (Approx.ifd Approx.none (Approx.const _)))))))) (Approx.ifd Approx.none (Approx.ifd (Approx.ifd (Approx.ifd (Approx.ifd (Approx.ifd (Approx.const _) (Approx.ifd (Approx.ifd (Approx.const _) (Approx.const _)) (Approx.ifd Approx.none (Approx.const _)))) (Approx.ifd Approx.none (Approx.ifd (Approx.ifd (Approx.const _) (Approx.const _)) (Approx.ifd Approx.none (Approx.const _))))) (Approx.ifd Approx.none (Approx.ifd (Approx.ifd (Approx.const _) (Approx.const _)) (Approx.ifd Approx.none (Approx.const _))))) (Approx.ifd (Approx.ifd (Approx.ifd (Approx.const _) (Approx.ifd (Approx.ifd (Approx.const _) (Approx.const _)) (Approx.ifd Approx.none (Approx.const _)))) (Approx.ifd (Approx.ifd (Approx.ifd (Approx.ifd (Approx.const _) Approx.none) Approx.none) (Approx.ifd (Approx.ifd (Approx.ifd (Approx.const _) Approx.none) (Approx.ifd (Approx.ifd (Approx.const _) (Approx.const _)) (Approx.ifd (Approx.const _) (Approx.const _)))) (Approx.ifd (Approx.ifd (Approx.const _) Approx.none) (Approx.ifd (Approx.ifd (Approx.const _) Approx.none) (Approx.ifd (Approx.const _) (Approx.const _)))))) (Approx.ifd (Approx.ifd (Approx.const _) (Approx.const _)) (Approx.ifd Approx.none (Approx.const _))))) (Approx.ifd Approx.none (Approx.ifd (Approx.ifd (Approx.const _) (Approx.const _)) (Approx.ifd Approx.none (Approx.const _)))))) (Approx.ifd Approx.none (Approx.ifd Approx.none (Approx.ifd (Approx.ifd (Approx.const _) (Approx.const _)) (Approx.ifd Approx.none (Approx.const _)))))))) (Approx.ifd (Approx.ifd (Approx.ifd (Approx.const _) (Approx.ifd (Approx.ifd (Approx.ifd (Approx.ifd (Approx.ifd (Approx.const _) (Approx.ifd (Approx.ifd (Approx.const _) (Approx.const _)) (Approx.ifd Approx.none (Approx.const _)))) (Approx.ifd Approx.none (Approx.ifd (Approx.ifd (Approx.const _) (Approx.const _)) (Approx.ifd Approx.none (Approx.const _))))) (Approx.ifd Approx.none (Approx.ifd (Approx.ifd (Approx.const _) (Approx.const _)) (Approx.ifd Approx.none (Approx.const _))))) (Approx.ifd (Approx.ifd (Approx.ifd (Approx.const _) (Approx.ifd (Approx.ifd (Approx.const _) (Approx.const _)) (Approx.ifd Approx.none (Approx.const _)))) (Approx.ifd (Approx.ifd (Approx.ifd (Approx.ifd (Approx.const _) Approx.none) Approx.none) (Approx.ifd (Approx.ifd (Approx.ifd (Approx.const _) Approx.none) (Approx.ifd (Approx.ifd (Approx.const _) (Approx.const _)) (Approx.ifd (Approx.const _) (Approx.const _)))) (Approx.ifd (Approx.ifd (Approx.const _) Approx.none) (Approx.ifd (Approx.ifd (Approx.const _) Approx.none) (Approx.ifd (Approx.const _) (Approx.const _)))))) (Approx.ifd (Approx.ifd (Approx.const _) (Approx.const _)) (Approx.ifd Approx.none (Approx.const _))))) (Approx.ifd Approx.none (Approx.ifd (Approx.ifd (Approx.const _) (Approx.const _)) (Approx.ifd Approx.none (Approx.const _)))))) (Approx.ifd Approx.none (Approx.ifd Approx.none (Approx.ifd (Approx.ifd (Approx.const _) (Approx.const _)) (Approx.ifd Approx.none (Approx.const _))))))) (Approx.ifd (Approx.ifd (Approx.ifd (Approx.ifd (Approx.const _) Approx.none) Approx.none) (Approx.ifd (Approx.ifd (Approx.ifd (Approx.ifd (Approx.ifd (Approx.ifd (Approx.const _) Approx.none) (Approx.ifd (Approx.ifd (Approx.const _) (Approx.const _)) (Approx.ifd (Approx.const _) (Approx.ifd (Approx.ifd (Approx.const _) (Approx.const _)) (Approx.ifd Approx.none (Approx.const _)))))) (Approx.ifd (Approx.ifd (Approx.const _) Approx.none) (Approx.ifd (Approx.ifd (Approx.const _) Approx.none) (Approx.ifd (Approx.const _) (Approx.ifd (Approx.ifd (Approx.const _) (Approx.const _)) (Approx.ifd Approx.none (Approx.const _))))))) (Approx.ifd (Approx.ifd (Approx.const _) Approx.none) (Approx.ifd (Approx.ifd (Approx.const _) Approx.none) (Approx.ifd (Approx.const _) (Approx.ifd (Approx.ifd (Approx.const _) (Approx.const _)) (Approx.ifd Approx.none (Approx.const _))))))) (Approx.ifd (Approx.ifd (Approx.ifd (Approx.ifd (Approx.const _) Approx.none) (Approx.ifd (Approx.ifd (Approx.const _) (Approx.const _)) (Approx.ifd (Approx.const _) (Approx.ifd (Approx.ifd (Approx.const _) (Approx.const _)) (Approx.ifd Approx.none (Approx.const _)))))) (Approx.ifd (Approx.ifd (Approx.const _) Approx.none) (Approx.ifd (Approx.ifd (Approx.const _) (Approx.ifd (Approx.ifd (Approx.ifd (Approx.const _) Approx.none) Approx.none) (Approx.ifd (Approx.ifd (Approx.ifd (Approx.const _) Approx.none) (Approx.ifd (Approx.ifd (Approx.const _) (Approx.const _)) (Approx.ifd (Approx.const _) (Approx.const _)))) (Approx.ifd (Approx.ifd (Approx.const _) Approx.none) (Approx.ifd (Approx.ifd (Approx.const _) Approx.none) (Approx.ifd (Approx.const _) (Approx.const _))))))) (Approx.ifd (Approx.const _) (Approx.ifd (Approx.ifd (Approx.const _) (Approx.const _)) (Approx.ifd Approx.none (Approx.const _))))))) (Approx.ifd (Approx.ifd (Approx.const _) Approx.none) (Approx.ifd (Approx.ifd (Approx.const _) Approx.none) (Approx.ifd (Approx.const _) (Approx.ifd (Approx.ifd (Approx.const _) (Approx.const _)) (Approx.ifd Approx.none (Approx.const _)))))))) (Approx.ifd Approx.none (Approx.ifd (Approx.ifd (Approx.const _) Approx.none) (Approx.ifd (Approx.ifd (Approx.const _) Approx.none) (Approx.ifd (Approx.const _) (Approx.ifd (Approx.ifd (Approx.const _) (Approx.const _)) (Approx.ifd Approx.none (Approx.const _))))))))) (Approx.ifd (Approx.ifd (Approx.ifd (Approx.ifd (Approx.ifd (Approx.const _) (Approx.ifd (Approx.ifd (Approx.const _) (Approx.const _)) (Approx.ifd Approx.none (Approx.const _)))) (Approx.ifd Approx.none (Approx.ifd (Approx.ifd (Approx.const _) (Approx.const _)) (Approx.ifd Approx.none (Approx.const _))))) (Approx.ifd Approx.none (Approx.ifd (Approx.ifd (Approx.const _) (Approx.const _)) (Approx.ifd Approx.none (Approx.const _))))) (Approx.ifd (Approx.ifd (Approx.ifd (Approx.const _) (Approx.ifd (Approx.ifd (Approx.const _) (Approx.const _)) (Approx.ifd Approx.none (Approx.const _)))) (Approx.ifd (Approx.ifd (Approx.ifd (Approx.ifd (Approx.const _) Approx.none) Approx.none) (Approx.ifd (Approx.ifd (Approx.ifd (Approx.const _) Approx.none) (Approx.ifd (Approx.ifd (Approx.const _) (Approx.const _)) (Approx.ifd (Approx.const _) (Approx.const _)))) (Approx.ifd (Approx.ifd (Approx.const _) Approx.none) (Approx.ifd (Approx.ifd (Approx.const _) Approx.none) (Approx.ifd (Approx.const _) (Approx.const _)))))) (Approx.ifd (Approx.ifd (Approx.const _) (Approx.const _)) (Approx.ifd Approx.none (Approx.const _))))) (Approx.ifd Approx.none (Approx.ifd (Approx.ifd (Approx.const _) (Approx.const _)) (Approx.ifd Approx.none (Approx.const _)))))) (Approx.ifd Approx.none (Approx.ifd Approx.none (Approx.ifd (Approx.ifd (Approx.const _) (Approx.const _)) (Approx.ifd Approx.none (Approx.const _)))))))) (Approx.ifd Approx.none (Approx.ifd (Approx.ifd (Approx.ifd (Approx.ifd (Approx.ifd (Approx.const _) (Approx.ifd (Approx.ifd (Approx.const _) (Approx.const _)) (Approx.ifd Approx.none (Approx.const _)))) (Approx.ifd Approx.none (Approx.ifd (Approx.ifd (Approx.const _) (Approx.const _)) (Approx.ifd Approx.none (Approx.const _))))) (Approx.ifd Approx.none (Approx.ifd (Approx.ifd (Approx.const _) (Approx.const _)) (Approx.ifd Approx.none (Approx.const _))))) (Approx.ifd (Approx.ifd (Approx.ifd (Approx.const _) (Approx.ifd (Approx.ifd (Approx.const _) (Approx.const _)) (Approx.ifd Approx.none (Approx.const _)))) (Approx.ifd (Approx.ifd (Approx.ifd (Approx.ifd (Approx.const _) Approx.none) Approx.none) (Approx.ifd (Approx.ifd (Approx.ifd (Approx.const _) Approx.none) (Approx.ifd (Approx.ifd (Approx.const _) (Approx.const _)) (Approx.ifd (Approx.const _) (Approx.const _)))) (Approx.ifd (Approx.ifd (Approx.const _) Approx.none) (Approx.ifd (Approx.ifd (Approx.const _) Approx.none) (Approx.ifd (Approx.const _) (Approx.const _)))))) (Approx.ifd (Approx.ifd (Approx.const _) (Approx.const _)) (Approx.ifd Approx.none (Approx.const _))))) (Approx.ifd Approx.none (Approx.ifd (Approx.ifd (Approx.const _) (Approx.const _)) (Approx.ifd Approx.none (Approx.const _)))))) (Approx.ifd Approx.none (Approx.ifd Approx.none (Approx.ifd (Approx.ifd (Approx.const _) (Approx.const _)) (Approx.ifd Approx.none (Approx.const _))))))))) (Approx.ifd Approx.none (Approx.ifd Approx.none (Approx.ifd (Approx.ifd (Approx.ifd (Approx.ifd (Approx.ifd (Approx.const _) (Approx.ifd (Approx.ifd (Approx.const _) (Approx.const _)) (Approx.ifd Approx.none (Approx.const _)))) (Approx.ifd Approx.none (Approx.ifd (Approx.ifd (Approx.const _) (Approx.const _)) (Approx.ifd Approx.none (Approx.const _))))) (Approx.ifd Approx.none (Approx.ifd (Approx.ifd (Approx.const _) (Approx.const _)) (Approx.ifd Approx.none (Approx.const _))))) (Approx.ifd (Approx.ifd (Approx.ifd (Approx.const _) (Approx.ifd (Approx.ifd (Approx.const _) (Approx.const _)) (Approx.ifd Approx.none (Approx.const _)))) (Approx.ifd (Approx.ifd (Approx.ifd (Approx.ifd (Approx.const _) Approx.none) Approx.none) (Approx.ifd (Approx.ifd (Approx.ifd (Approx.const _) Approx.none) (Approx.ifd (Approx.ifd (Approx.const _) (Approx.const _)) (Approx.ifd (Approx.const _) (Approx.const _)))) (Approx.ifd (Approx.ifd (Approx.const _) Approx.none) (Approx.ifd (Approx.ifd (Approx.const _) Approx.none) (Approx.ifd (Approx.const _) (Approx.const _)))))) (Approx.ifd (Approx.ifd (Approx.const _) (Approx.const _)) (Approx.ifd Approx.none (Approx.const _))))) (Approx.ifd Approx.none (Approx.ifd (Approx.ifd (Approx.const _) (Approx.const _)) (Approx.ifd Approx.none (Approx.const _)))))) (Approx.ifd Approx.none (Approx.ifd Approx.none (Approx.ifd (Approx.ifd (Approx.const _) (Approx.const _)) (Approx.ifd Approx.none (Approx.const _))))))))))))))))))))) Approx.none)) Approx.none))))
theorem ref1_Continues_of {a0 : List Int} {a1 : Int} {a2 : Int} {y : Bool} (h : ref1_Continues_B (pcL prog cfg) lpL a0 a1 a2 = some y) : ref1_Continues_c (pcL prog cfg) a0 a1 a2 = some y := fn_of rfl (ref1_Continues_eq a0 a1 a2) (ref1_Continues_ap (appN prog cfg) a0 a1 a2) h

-- ref1_Class, part 207
abbrev ref1_Class_C1_D := ((Int × Unit) × Unit)
abbrev ref1_Class_C1_X := ((Int × (Bool × Unit)) × Unit)
noncomputable def ref1_Class_C1 (pc : PC prog) (lp : LP) (d : ref1_Class_C1_D) : Option ref1_Class_C1_X :=
  bnd (bnd (ref1_In_c pc d.1.1 0 31) fun (x4 : Bool) =>
  some x4) fun (x5 : Bool) =>
  ifd (x5 = true) (
    ifd (x5 = true) (
      some ((d.1.1, true, ()), ())) (
      none)) (
    bnd (bnd (ref1_In_c pc d.1.1 127 159) fun (x6 : Bool) =>
    some x6) fun (x7 : Bool) =>
    ifd (x5 = true) (
      some ((d.1.1, true, ()), ())) (
      some ((d.1.1, x7, ()), ())))
theorem ref1_Class_C1_a (E : AppE prog pcN pc lN lp) {d : ref1_Class_C1_D} : Approx (fun N => ref1_Class_C1 (pcN N) (lN N) d) (ref1_Class_C1 pc lp d) := by
  delta ref1_Class_C1
  exact (Approx.bnd (Approx.bnd (ref1_In_ca E) fun x4 => (Approx.const _)) fun x5 => (Approx.ifd (Approx.ifd (Approx.const _) Approx.none) (Approx.bnd (Approx.bnd (ref1_In_ca E) fun x6 => (Approx.const _)) fun x7 => (Approx.ifd (Approx.const _) (Approx.const _)))))

-- ref1_Class, part 831
abbrev ref1_Class_C2_D := ((Int × Unit) × Unit)
abbrev ref1_Class_C2_X := ((Int × (Bool × Unit)) × Unit)
noncomputable def ref1_Class_C2 (pc : PC prog) (lp : LP) (d : ref1_Class_C2_D) : Option ref1_Class_C2_X :=
  bnd (bnd (ref1_In_c pc d.1.1 768 879) fun (x23 : Bool) =>
  some x23) fun (x24 : Bool) =>
  ifd (x24 = true) (
    ifd (x24 = true) (
      some ((d.1.1, true, ()), ())) (
      none)) (
    bnd (bnd (ref1_In_c pc d.1.1 6832 6911) fun (x25 : Bool) =>
    some x25) fun (x26 : Bool) =>
    ifd (x24 = true) (
      some ((d.1.1, true, ()), ())) (
      ifd (x26 = true) (
        ifd (x26 = true) (
          some ((d.1.1, true, ()), ())) (
          none)) (
        bnd (bnd (ref1_In_c pc d.1.1 7616 7679) fun (x27 : Bool) =>
        some x27) fun (x28 : Bool) =>
        ifd (x26 = true) (
          some ((d.1.1, true, ()), ())) (
          ifd (x28 = true) (
            ifd (x28 = true) (
              some ((d.1.1, true, ()), ())) (
              none)) (
            bnd (bnd (ref1_In_c pc d.1.1 8400 8447) fun (x29 : Bool) =>
            some x29) fun (x30 : Bool) =>
            ifd (x28 = true) (
              some ((d.1.1, true, ()), ())) (
              ifd (x30 = true) (
                ifd (x30 = true) (
                  some ((d.1.1, true, ()), ())) (
                  none)) (
                bnd (bnd (ref1_In_c pc d.1.1 65024 65039) fun (x31 : Bool) =>
                some x31) fun (x32 : Bool) =>
                ifd (x30 = true) (
                  some ((d.1.1, true, ()), ())) (
                  ifd (x32 = true) (
                    ifd (x32 = true) (
                      some ((d.1.1, true, ()), ())) (
                      none)) (
                    bnd (bnd (ref1_In_c pc d.1.1 65056 65071) fun (x33 : Bool) =>
                    some x33) fun (x34 : Bool) =>
                    ifd (x32 = true) (
                      some ((d.1.1, true, ()), ())) (
                      ifd (x34 = true) (
                        ifd (x34 = true) (
                          some ((d.1.1, true, ()), ())) (
                          none)) (
                        bnd (bnd (ref1_In_c pc d.1.1 127995 127999) fun (x35 : Bool) =>
                        some x35) fun (x36 : Bool) =>
                        ifd (x34 = true) (
                          some ((d.1.1, true, ()), ())) (
                          some ((d.1.1, x36, ()), ())))))))))))))
theorem ref1_Class_C2_a (E : AppE prog pcN pc lN lp) {d : ref1_Class_C2_D} : Approx (fun N => ref1_Class_C2 (pcN N) (lN N) d) (ref1_Class_C2 pc lp d) := by
  delta ref1_Class_C2
  exact (Approx.bnd (Approx.bnd (ref1_In_ca E) fun x23 => (Approx.const _)) fun x24 => (Approx.ifd (Approx.ifd (Approx.const _) Approx.none) (Approx.bnd (Approx.bnd (ref1_In_ca E) fun x25 => (Approx.const _)) fun x26 => (Approx.ifd (Approx.const _) (Approx.ifd (Approx.ifd (Approx.const _) Approx.none) (Approx.bnd (Approx.bnd (ref1_In_ca E) fun x27 => (Approx.const _)) fun x28 => (Approx.ifd (Approx.const _) (Approx.ifd (Approx.ifd (Approx.const _) Approx.none) (Approx.bnd (Approx.bnd (ref1_In_ca E) fun x29 => (Approx.const _)) fun x30 => (Approx.ifd (Approx.const _) (Approx.ifd (Approx.ifd (Approx.const _) Approx.none) (Approx.bnd (Approx.bnd (ref1_In_ca E) fun x31 => (Approx.const _)) fun x32 => (Approx.ifd (Approx.const _) (Approx.ifd (Approx.ifd (Approx.const _) Approx.none) (Approx.bnd (Approx.bnd (ref1_In_ca E) fun x33 => (Approx.const _)) fun x34 => (Approx.ifd (Approx.const _) (Approx.ifd (Approx.ifd (Approx.const _) Approx.none) (Approx.bnd (Approx.bnd (ref1_In_ca E) fun x35 => (Approx.const _)) fun x36 => (Approx.ifd (Approx.const _) (Approx.const _))))))))))))))))))))

noncomputable def ref1_Class_B (pc : PC prog) (lp : LP) (a0 : Int) : Option Int :=
  ifd ((a0 == 13) = true) (
    some 1) (
    ifd ((a0 == 10) = true) (
      some 2) (
      bnd (ref1_Class_C1 pc lp ((a0, ()), ())) (fun (y8 : ((Int × (Bool × Unit)) × Unit)) =>
      ifd (y8.1.2.1 = true) (
        some 3) (
        bnd (ref1_Class_C2 pc lp ((y8.1.1, ()), ())) (fun (y37 : ((Int × (Bool × Unit)) × Unit)) =>
        ifd (y37.1.2.1 = true) (
          some 4) (
          ifd ((y37.1.1 == 8205) = true) (
            some 5) (
            bnd (bnd (ref1_In_c pc y37.1.1 127462 127487) fun (x38 : Bool) =>
            some x38) fun (x39 : Bool) =>
            ifd (x39 = true) (
              some 6) (
              bnd (bnd (ref1_In_c pc y37.1.1 4352 4447) fun (x40 : Bool) =>
              some x40) fun (x41 : Bool) =>
              ifd (x41 = true) (
                some 7) (
                bnd (bnd (ref1_In_c pc y37.1.1 4448 4519) fun (x42 : Bool) =>
                some x42) fun (x43 : Bool) =>
                ifd (x43 = true) (
                  some 8) (
                  bnd (bnd (ref1_In_c pc y37.1.1 4520 4607) fun (x44 : Bool) =>
                  some x44) fun (x45 : Bool) =>
                  ifd (x45 = true) (
                    some 9) (
                    some 0)))))))))))
theorem ref1_Class_eq (a0 : Int) (pc : PC prog) (lp : LP) : got ref1_Class_t (pcall prog (runO prog cfg (hand prog cfg lp pc 6 tbl 5) pc 6) 20 [(.c (.int .i64 a0))]) = ref1_Class_B pc lp a0 := by kernel_rfl
theorem ref1_Class_ap (E : AppE prog pcN pc lN lp) (a0 : Int) : Approx (fun N => ref1_Class_B (pcN N) (lN N) a0) (ref1_Class_B pc lp a0) := by
  delta ref1_Class_B
  exact (Approx.ifd (Approx.const _) (Approx.ifd (Approx.const _) (Approx.bnd (ref1_Class_C1_a E) (fun y8 => (Approx.ifd (Approx.const _) (Approx.bnd (ref1_Class_C2_a E) (fun y37 => (Approx.ifd (Approx.const _) (Approx.ifd (Approx.const _) (Approx.bnd (Approx.bnd (ref1_In_ca E) fun x38 => (Approx.const _)) fun x39 => (Approx.ifd (Approx.const _) (Approx.bnd (Approx.bnd (ref1_In_ca E) fun x40 => (Approx.const _)) fun x41 => (Approx.ifd (Approx.const _) (Approx.bnd (Approx.bnd (ref1_In_ca E) fun x42 => (Approx.const _)) fun x43 => (Approx.ifd (Approx.const _) (Approx.bnd (Approx.bnd (ref1_In_ca E) fun x44 => (Approx.const _)) fun x45 => (Approx.ifd (Approx.const _) (Approx.const _))))))))))))))))))
theorem ref1_Class_of {a0 : Int} {y : Int} (h : ref1_Class_B (pcL prog cfg) lpL a0 = some y) : ref1_Class_c (pcL prog cfg) a0 = some y := fn_of rfl (ref1_Class_eq a0) (ref1_Class_ap (appN prog cfg) a0) h

-- grapheme_width, part 58
abbrev grapheme_width_C1_D := (((List Int) × (Int × Unit)) × Unit)
abbrev grapheme_width_C1_X := (((List Int) × (Int × (Bool × Unit))) × Unit)
noncomputable def grapheme_width_C1 (pc : PC prog) (lp : LP) (d : grapheme_width_C1_D) : Option grapheme_width_C1_X :=
  ifd ((d.1.2.1 == 1) = true) (
    some ((d.1.1, d.1.2.1, (d.1.2.1 == 1), ()), ())) (
    ifd ((d.1.2.1 == 2) = true) (
      some ((d.1.1, d.1.2.1, (d.1.2.1 == 2), ()), ())) (
      ifd ((d.1.2.1 == 3) = true) (
        some ((d.1.1, d.1.2.1, (d.1.2.1 == 3), ()), ())) (
        ifd ((d.1.2.1 == 4) = true) (
          some ((d.1.1, d.1.2.1, (d.1.2.1 == 4), ()), ())) (
          some ((d.1.1, d.1.2.1, (d.1.2.1 == 5), ()), ())))))
theorem grapheme_width_C1_a (E : AppE prog pcN pc lN lp) {d : grapheme_width_C1_D} : Approx (fun N => grapheme_width_C1 (pcN N) (lN N) d) (grapheme_width_C1 pc lp d) := by
  delta grapheme_width_C1
  exact (Approx.ifd (Approx.const _) (Approx.ifd (Approx.const _) (Approx.ifd (Approx.const _) (Approx.ifd (Approx.const _) (Approx.const _)))))

-- grapheme_width, loop 122
abbrev grapheme_width_L2_D := ((Unit × Unit) × (((List Int) × Nat) × Unit))
abbrev grapheme_width_L2_X := (((Int × Unit) × (((List Int) × Nat) × Unit)) ⊕ (Unit × (((List Int) × Nat) × Unit)))
noncomputable def grapheme_width_L2_R (pc : PC prog) (lp : LP) (ψ : grapheme_width_L2_D → Option grapheme_width_L2_X) (d : grapheme_width_L2_D) : Option grapheme_width_L2_X :=
  ifd (d.2.1.2 < (List.length d.2.1.1)) (
    bnd (bnd (grapheme_isWide_c pc (((decRune d.2.1.1 d.2.1.2).1 : Nat) : Int)) fun (x7 : Bool) =>
    some x7) fun (x8 : Bool) =>
    ifd (x8 = true) (
      some (Sum.inl ((2, ()), ((d.2.1.1, (d.2.1.2 + (decRune d.2.1.1 d.2.1.2).2)), ())))) (
      ψ (((), ()), ((d.2.1.1, (d.2.1.2 + (decRune d.2.1.1 d.2.1.2).2)), ())))) (
    some (Sum.inr ((), ((d.2.1.1, d.2.1.2), ()))))
noncomputable def grapheme_width_L2 (pc : PC prog) (lp : LP) (d : grapheme_width_L2_D) : Option grapheme_width_L2_X := lp grapheme_width_L2_D grapheme_width_L2_X (grapheme_width_L2_R pc lp) d
theorem grapheme_width_L2_ap (E : AppE prog pcN pc lN lp) : ContR (fun N => grapheme_width_L2_R (pcN N) (lN N)) (grapheme_width_L2_R pc lp) := fun ψN ψ h d => by
  delta grapheme_width_L2_R
  exact (Approx.ifd (Approx.bnd (Approx.bnd (grapheme_isWide_ca E) fun x7 => (Approx.const _)) fun x8 => (Approx.ifd (Approx.const _) (h _))) (Approx.const _))
theorem grapheme_width_L2_a (E : AppE prog pcN pc lN lp) {d : grapheme_width_L2_D} : Approx (fun N => grapheme_width_L2 (pcN N) (lN N) d) (grapheme_width_L2 pc lp d) := E.loop (grapheme_width_L2_ap E) d
theorem grapheme_width_L2_of {d : grapheme_width_L2_D} {x : grapheme_width_L2_X} (h : grapheme_width_L2_R (pcL prog cfg) lpL (grapheme_width_L2 (pcL prog cfg) lpL) d = some x) : grapheme_width_L2 (pcL prog cfg) lpL d = some x := lpL_step (grapheme_width_L2_ap (appL prog cfg)) h

noncomputable def grapheme_width_B (pc : PC prog) (lp : LP) (a0 : List Int) : Option Int :=
  bnd (bnd (unicode_utf8_DecodeRuneInString_c pc a0) fun (x0 : (Int × (Int × Unit))) =>
  some (x0.1, (x0.2.1, ()))) fun (x1 : (Int × (Int × Unit))) =>
  bnd (bnd (grapheme_class_c pc x1.1) fun (x2 : Int) =>
  some x2) fun (x3 : Int) =>
  bnd (grapheme_width_C1 pc lp ((a0, x3, ()), ())) (fun (y4 : (((List Int) × (Int × (Bool × Unit))) × Unit)) =>
  ifd (y4.1.2.2.1 = true) (
    some 0) (
    ifd ((y4.1.2.1 == 6) = true) (
      some 2) (
      bnd (grapheme_width_L2 pc lp (((), ()), ((y4.1.1, 0), ()))) (Sum.elim (fun (y9 : ((Int × Unit) × (((List Int) × Nat) × Unit))) =>
      some y9.1.1) (fun (y10 : (Unit × (((List Int) × Nat) × Unit))) =>
      some 1)))))
theorem grapheme_width_eq (a0 : List Int) (pc : PC prog) (lp : LP) : got grapheme_width_t (pcall prog (runO prog cfg (hand prog cfg lp pc 6 tbl 5) pc 6) 21 [(.c (.str a0))]) = grapheme_width_B pc lp a0 := by kernel_rfl
theorem grapheme_width_ap (E : AppE prog pcN pc lN lp) (a0 : List Int) : Approx (fun N => grapheme_width_B (pcN N) (lN N) a0) (grapheme_width_B pc lp a0) := by
  delta grapheme_width_B
  exact (Approx.bnd (Approx.bnd (unicode_utf8_DecodeRuneInString_ca E) fun x0 => (Approx.const _)) fun x1 => (Approx.bnd (Approx.bnd (grapheme_class_ca E) fun x2 => (Approx.const _)) fun x3 => (Approx.bnd (grapheme_width_C1_a E) (fun y4 => (Approx.ifd (Approx.const _) (Approx.ifd (Approx.const _) (Approx.bnd (grapheme_width_L2_a E) (Approx.sum (fun y9 => (Approx.const _)) (fun y10 => (Approx.const _))))))))))
theorem grapheme_width_of {a0 : List Int} {y : Int} (h : grapheme_width_B (pcL prog cfg) lpL a0 = some y) : grapheme_width_c (pcL prog cfg) a0 = some y := fn_of rfl (grapheme_width_eq a0) (grapheme_width_ap (appN prog cfg) a0) h

noncomputable def ref1_In_B (pc : PC prog) (lp : LP) (a0 : Int) (a1 : Int) (a2 : Int) : Option Bool :=
  ifd ((decide (a0 ≥ a1)) = true) (
    ifd ((decide (a0 ≥ a1)) = true) (
      some (decide (a0 ≤ a2))) (
      some false)) (
    ifd ((decide (a0 ≥ a1)) = true) (
      none) (
      some false))
theorem ref1_In_eq (a0 : Int) (a1 : Int) (a2 : Int) (pc : PC prog) (lp : LP) : got ref1_In_t (pcall prog (runO prog cfg (hand prog cfg lp pc 6 tbl 5) pc 6) 22 [(.c (.int .i64 a0)), (.c (.int .i64 a1)), (.c (.int .i64 a2))]) = ref1_In_B pc lp a0 a1 a2 := by kernel_rfl
theorem ref1_In_ap (E : AppE prog pcN pc lN lp) (a0 : Int) (a1 : Int) (a2 : Int) : Approx (fun N => ref1_In_B (pcN N) (lN N) a0 a1 a2) (ref1_In_B pc lp a0 a1 a2) := by
  delta ref1_In_B
  exact (Approx.ifd (Approx.ifd (Approx.const _) (Approx.const _)) (Approx.ifd Approx.none (Approx.const _)))
theorem ref1_In_of {a0 : Int} {a1 : Int} {a2 : Int} {y : Bool} (h : ref1_In_B (pcL prog cfg) lpL a0 a1 a2 = some y) : ref1_In_c (pcL prog cfg) a0 a1 a2 = some y := fn_of rfl (ref1_In_eq a0 a1 a2) (ref1_In_ap (appN prog cfg) a0 a1 a2) h

noncomputable def ref1_Wide_B (pc : PC prog) (lp : LP) (a0 : Int) : Option Bool :=
  bnd (bnd (ref1_In_c pc a0 4352 4447) fun (x0 : Bool) =>
  some x0) fun (x1 : Bool) =>
  ifd (x1 = true) (
    ifd (x1 = true) (
      some true) (
      none)) (
    bnd (bnd (ref1_In_c pc a0 11904 42191) fun (x2 : Bool) =>
    some x2) fun (x3 : Bool) =>
    ifd (x1 = true) (
      some true) (
      ifd (x3 = true) (
        ifd (x3 = true) (
          some true) (
          none)) (
        bnd (bnd (ref1_In_c pc a0 44032 55203) fun (x4 : Bool) =>
        some x4) fun (x5 : Bool) =>
        ifd (x3 = true) (
          some true) (
          ifd (x5 = true) (
            ifd (x5 = true) (
              some true) (
              none)) (
            bnd (bnd (ref1_In_c pc a0 63744 64255) fun (x6 : Bool) =>
            some x6) fun (x7 : Bool) =>
            ifd (x5 = true) (
              some true) (
              ifd (x7 = true) (
                ifd (x7 = true) (
                  some true) (
                  none)) (
                bnd (bnd (ref1_In_c pc a0 65072 65135) fun (x8 : Bool) =>
                some x8) fun (x9 : Bool) =>
                ifd (x7 = true) (
                  some true) (
                  ifd (x9 = true) (
                    ifd (x9 = true) (
                      some true) (
                      none)) (
                    bnd (bnd (ref1_In_c pc a0 65280 65376) fun (x10 : Bool) =>
                    some x10) fun (x11 : Bool) =>
                    ifd (x9 = true) (
                      some true) (
                      ifd (x11 = true) (
                        ifd (x11 = true) (
                          some true) (
                          none)) (
                        bnd (bnd (ref1_In_c pc a0 65504 65510) fun (x12 : Bool) =>
                        some x12) fun (x13 : Bool) =>
                        ifd (x11 = true) (
                          some true) (
                          ifd (x13 = true) (
                            ifd (x13 = true) (
                              some true) (
                              none)) (
                            bnd (bnd (ref1_In_c pc a0 127744 129791) fun (x14 : Bool) =>
                            some x14) fun (x15 : Bool) =>
                            ifd (x13 = true) (
                              some true) (
                              ifd (x15 = true) (
                                ifd (x15 = true) (
                                  some true) (
                                  none)) (
                                bnd (bnd (ref1_In_c pc a0 131072 262141) fun (x16 : Bool) =>
                                some x16) fun (x17 : Bool) =>
                                ifd (x15 = true) (
                                  some true) (
                                  some x17))))))))))))))))
theorem ref1_Wide_eq (a0 : Int) (pc : PC prog) (lp : LP) : got ref1_Wide_t (pcall prog (runO prog cfg (hand prog cfg lp pc 6 tbl 5) pc 6) 23 [(.c (.int .i64 a0))]) = ref1_Wide_B pc lp a0 := by kernel_rfl
theorem ref1_Wide_ap (E : AppE prog pcN pc lN lp) (a0 : Int) : Approx (fun N => ref1_Wide_B (pcN N) (lN N) a0) (ref1_Wide_B pc lp a0) := by
  delta ref1_Wide_B
  exact (Approx.bnd (Approx.bnd (ref1_In_ca E) fun x0 => (Approx.const _)) fun x1 => (Approx.ifd (Approx.ifd (Approx.const _) Approx.none) (Approx.bnd (Approx.bnd (ref1_In_ca E) fun x2 => (Approx.const _)) fun x3 => (Approx.ifd (Approx.const _) (Approx.ifd (Approx.ifd (Approx.const _) Approx.none) (Approx.bnd (Approx.bnd (ref1_In_ca E) fun x4 => (Approx.const _)) fun x5 => (Approx.ifd (Approx.const _) (Approx.ifd (Approx.ifd (Approx.const _) Approx.none) (Approx.bnd (Approx.bnd (ref1_In_ca E) fun x6 => (Approx.const _)) fun x7 => (Approx.ifd (Approx.const _) (Approx.ifd (Approx.ifd (Approx.const _) Approx.none) (Approx.bnd (Approx.bnd (ref1_In_ca E) fun x8 => (Approx.const _)) fun x9 => (Approx.ifd (Approx.const _) (Approx.ifd (Approx.ifd (Approx.const _) Approx.none) (Approx.bnd (Approx.bnd (ref1_In_ca E) fun x10 => (Approx.const _)) fun x11 => (Approx.ifd (Approx.const _) (Approx.ifd (Approx.ifd (Approx.const _) Approx.none) (Approx.bnd (Approx.bnd (ref1_In_ca E) fun x12 => (Approx.const _)) fun x13 => (Approx.ifd (Approx.const _) (Approx.ifd (Approx.ifd (Approx.const _) Approx.none) (Approx.bnd (Approx.bnd (ref1_In_ca E) fun x14 => (Approx.const _)) fun x15 => (Approx.ifd (Approx.const _) (Approx.ifd (Approx.ifd (Approx.const _) Approx.none) (Approx.bnd (Approx.bnd (ref1_In_ca E) fun x16 => (Approx.const _)) fun x17 => (Approx.ifd (Approx.const _) (Approx.const _))))))))))))))))))))))))))
theorem ref1_Wide_of {a0 : Int} {y : Bool} (h : ref1_Wide_B (pcL prog cfg) lpL a0 = some y) : ref1_Wide_c (pcL prog cfg) a0 = some y := fn_of rfl (ref1_Wide_eq a0) (ref1_Wide_ap (appN prog cfg) a0) h

-- unicode_utf8_decodeRuneInStringSlow, part 4094
abbrev unicode_utf8_decodeRuneInStringSlow_C1_D := (((List Int) × (Int × (Int × (Unit × (Int × Unit))))) × ((Int × (Int × Unit)) × Unit))
abbrev unicode_utf8_decodeRuneInStringSlow_C1_X := (((List Int) × (Int × (Int × (Int × (Bool × Unit))))) × ((Int × (Int × Unit)) × Unit))
noncomputable def unicode_utf8_decodeRuneInStringSlow_C1 (pc : PC prog) (lp : LP) (d : unicode_utf8_decodeRuneInStringSlow_C1_D) : Option unicode_utf8_decodeRuneInStringSlow_C1_X :=
  ifd ((decide (d.1.2.2.2.2.1 < d.2.1.1)) = true) (
    ifd ((decide (d.1.2.2.2.2.1 < d.2.1.1)) = true) (
      some ((d.1.1, d.1.2.1, d.1.2.2.1, d.1.2.2.2.2.1, true, ()), ((d.2.1.1, d.2.1.2.1, ()), ()))) (
      none)) (
    ifd ((decide (d.1.2.2.2.2.1 < d.2.1.1)) = true) (
      some ((d.1.1, d.1.2.1, d.1.2.2.1, d.1.2.2.2.2.1, true, ()), ((d.2.1.1, d.2.1.2.1, ()), ()))) (
      some ((d.1.1, d.1.2.1, d.1.2.2.1, d.1.2.2.2.2.1, (decide (d.2.1.2.1 < d.1.2.2.2.2.1)), ()), ((d.2.1.1, d.2.1.2.1, ()), ()))))
theorem unicode_utf8_decodeRuneInStringSlow_C1_a (E : AppE prog pcN pc lN lp) {d : unicode_utf8_decodeRuneInStringSlow_C1_D} : Approx (fun N => unicode_utf8_decodeRuneInStringSlow_C1 (pcN N) (lN N) d) (unicode_utf8_decodeRuneInStringSlow_C1 pc lp d) := by
  delta unicode_utf8_decodeRuneInStringSlow_C1
  exact (Approx.ifd (Approx.ifd (Approx.const _) Approx.none) (Approx.ifd (Approx.const _) (Approx.const _)))

-- unicode_utf8_decodeRuneInStringSlow, part 32766
abbrev unicode_utf8_decodeRuneInStringSlow_C2_D := (((List Int) × (Int × (Int × (Int × (Int × Unit))))) × ((Int × (Int × Unit)) × Unit))
abbrev unicode_utf8_decodeRuneInStringSlow_C2_X := (((List Int) × (Int × (Int × (Int × (Int × (Bool × Unit)))))) × ((Int × (Int × Unit)) × Unit))
noncomputable def unicode_utf8_decodeRuneInStringSlow_C2 (pc : PC prog) (lp : LP) (d : unicode_utf8_decodeRuneInStringSlow_C2_D) : Option unicode_utf8_decodeRuneInStringSlow_C2_X :=
  ifd ((decide (d.1.2.2.2.2.1 < 128)) = true) (
    ifd ((decide (d.1.2.2.2.2.1 < 128)) = true) (
      some ((d.1.1, d.1.2.1, d.1.2.2.1, d.1.2.2.2.1, d.1.2.2.2.2.1, true, ()), ((d.2.1.1, d.2.1.2.1, ()), ()))) (
      none)) (
    ifd ((decide (d.1.2.2.2.2.1 < 128)) = true) (
      some ((d.1.1, d.1.2.1, d.1.2.2.1, d.1.2.2.2.1, d.1.2.2.2.2.1, true, ()), ((d.2.1.1, d.2.1.2.1, ()), ()))) (
      some ((d.1.1, d.1.2.1, d.1.2.2.1, d.1.2.2.2.1, d.1.2.2.2.2.1, (decide ((191 : Int) < d.1.2.2.2.2.1)), ()), ((d.2.1.1, d.2.1.2.1, ()), ()))))
theorem unicode_utf8_decodeRuneInStringSlow_C2_a (E : AppE prog pcN pc lN lp) {d : unicode_utf8_decodeRuneInStringSlow_C2_D} : Approx (fun N => unicode_utf8_decodeRuneInStringSlow_C2 (pcN N) (lN N) d) (unicode_utf8_decodeRuneInStringSlow_C2 pc lp d) := by
  delta unicode_utf8_decodeRuneInStringSlow_C2
  exact (Approx.ifd (Approx.ifd (Approx.const _) Approx.none) (Approx.ifd (Approx.const _) (Approx.const _)))

-- unicode_utf8_decodeRuneInStringSlow, part 262142
abbrev unicode_utf8_decodeRuneInStringSlow_C3_D := ((Int × (Int × (Int × (Int × Unit)))) × ((Int × (Int × Unit)) × Unit))
abbrev unicode_utf8_decodeRuneInStringSlow_C3_X := ((Int × (Int × (Int × (Int × (Bool × Unit))))) × ((Int × (Int × Unit)) × Unit))
noncomputable def unicode_utf8_decodeRuneInStringSlow_C3 (pc : PC prog) (lp : LP) (d : unicode_utf8_decodeRuneInStringSlow_C3_D) : Option unicode_utf8_decodeRuneInStringSlow_C3_X :=
  ifd ((decide (d.1.2.2.2.1 < 128)) = true) (
    ifd ((decide (d.1.2.2.2.1 < 128)) = true) (
      some ((d.1.1, d.1.2.1, d.1.2.2.1, d.1.2.2.2.1, true, ()), ((d.2.1.1, d.2.1.2.1, ()), ()))) (
      none)) (
    ifd ((decide (d.1.2.2.2.1 < 128)) = true) (
      some ((d.1.1, d.1.2.1, d.1.2.2.1, d.1.2.2.2.1, true, ()), ((d.2.1.1, d.2.1.2.1, ()), ()))) (
      some ((d.1.1, d.1.2.1, d.1.2.2.1, d.1.2.2.2.1, (decide ((191 : Int) < d.1.2.2.2.1)), ()), ((d.2.1.1, d.2.1.2.1, ()), ()))))
theorem unicode_utf8_decodeRuneInStringSlow_C3_a (E : AppE prog pcN pc lN lp) {d : unicode_utf8_decodeRuneInStringSlow_C3_D} : Approx (fun N => unicode_utf8_decodeRuneInStringSlow_C3 (pcN N) (lN N) d) (unicode_utf8_decodeRuneInStringSlow_C3 pc lp d) := by
  delta unicode_utf8_decodeRuneInStringSlow_C3
  exact (Approx.ifd (Approx.ifd (Approx.const _) Approx.none) (Approx.ifd (Approx.const _) (Approx.const _)))

noncomputable def unicode_utf8_decodeRuneInStringSlow_B (pc : PC prog) (lp : LP) (a0 : List Int) : Option (Int × (Int × Unit)) :=
  ifd ((decide ((((List.length a0) : Nat) : Int) < 1)) = true) (
    some (65533, (0, ()))) (
    ifd ((decide (((0 : Int) ≤ 0) ∧ ((0 : Int) < (((List.length a0) : Nat) : Int)))) = true) (
      ifd ((decide (((0 : Int) ≤ (List.getD a0 (Int.toNat 0) 0)) ∧ ((List.getD a0 (Int.toNat 0) 0) < 256))) = true) (
        ifd ((decide ((List.getD firstL (Int.toNat (List.getD a0 (Int.toNat 0) 0)) 0) ≥ 240)) = true) (
          ifd ((decide (((0 : Int) ≤ 0) ∧ ((0 : Int) < (((List.length a0) : Nat) : Int)))) = true) (
            some ((ibits .or .i32 (ibits .andNot .i32 (Go.IntKind.wrap .i32 (List.getD a0 (Int.toNat 0) 0)) (Int.fdiv (Go.IntKind.wrap .i32 ((Go.IntKind.wrap .i32 (List.getD firstL (Int.toNat (List.getD a0 (Int.toNat 0) 0)) 0)) * ((2 : Int) ^ (min (Int.toNat 31) 32)))) ((2 : Int) ^ (min (Int.toNat 31) 32)))) (ibits .and .i32 65533 (Int.fdiv (Go.IntKind.wrap .i32 ((Go.IntKind.wrap .i32 (List.getD firstL (Int.toNat (List.getD a0 (Int.toNat 0) 0)) 0)) * ((2 : Int) ^ (min (Int.toNat 31) 32)))) ((2 : Int) ^ (min (Int.toNat 31) 32))))), (1, ()))) (
            none)) (
          ifd ((decide (((0 : Int) ≤ (Int.fdiv (List.getD firstL (Int.toNat (List.getD a0 (Int.toNat 0) 0)) 0) ((2 : Int) ^ (min (Int.toNat 4) 8)))) ∧ ((Int.fdiv (List.getD firstL (Int.toNat (List.getD a0 (Int.toNat 0) 0)) 0) ((2 : Int) ^ (min (Int.toNat 4) 8))) < 16))) = true) (
            ifd ((decide ((((List.length a0) : Nat) : Int) < (Go.IntKind.wrap .i64 (ibits .and .u8 (List.getD firstL (Int.toNat (List.getD a0 (Int.toNat 0) 0)) 0) 7)))) = true) (
              some (65533, (1, ()))) (
              ifd ((decide (((0 : Int) ≤ 1) ∧ ((1 : Int) < (((List.length a0) : Nat) : Int)))) = true) (
                bnd (unicode_utf8_decodeRuneInStringSlow_C1 pc lp ((a0, (List.getD a0 (Int.toNat 0) 0), (Go.IntKind.wrap .i64 (ibits .and .u8 (List.getD firstL (Int.toNat (List.getD a0 (Int.toNat 0) 0)) 0) 7)), (), (List.getD a0 (Int.toNat 1) 0), ()), (((List.getD acceptP (Int.toNat (Int.fdiv (List.getD firstL (Int.toNat (List.getD a0 (Int.toNat 0) 0)) 0) ((2 : Int) ^ (min (Int.toNat 4) 8)))) (0, (0, ()))).1, (List.getD acceptP (Int.toNat (Int.fdiv (List.getD firstL (Int.toNat (List.getD a0 (Int.toNat 0) 0)) 0) ((2 : Int) ^ (min (Int.toNat 4) 8)))) (0, (0, ()))).2.1, ()), ()))) (fun (y0 : (((List Int) × (Int × (Int × (Int × (Bool × Unit))))) × ((Int × (Int × Unit)) × Unit))) =>
                ifd (y0.1.2.2.2.2.1 = true) (
                  some (65533, (1, ()))) (
                  ifd ((decide (y0.1.2.2.1 ≤ 2)) = true) (
                    some ((ibits .or .i32 (Go.IntKind.wrap .i32 ((Go.IntKind.wrap .i32 (ibits .and .u8 y0.1.2.1 31)) * ((2 : Int) ^ (min (Int.toNat 6) 32)))) (Go.IntKind.wrap .i32 (ibits .and .u8 y0.1.2.2.2.1 63))), (2, ()))) (
                    ifd ((decide (((0 : Int) ≤ 2) ∧ ((2 : Int) < (((List.length y0.1.1) : Nat) : Int)))) = true) (
                      bnd (unicode_utf8_decodeRuneInStringSlow_C2 pc lp ((y0.1.1, y0.1.2.1, y0.1.2.2.1, y0.1.2.2.2.1, (List.getD y0.1.1 (Int.toNat 2) 0), ()), ((y0.2.1.1, y0.2.1.2.1, ()), ()))) (fun (y1 : (((List Int) × (Int × (Int × (Int × (Int × (Bool × Unit)))))) × ((Int × (Int × Unit)) × Unit))) =>
                      ifd (y1.1.2.2.2.2.2.1 = true) (
                        some (65533, (1, ()))) (
                        ifd ((decide (y1.1.2.2.1 ≤ 3)) = true) (
                          some ((ibits .or .i32 (ibits .or .i32 (Go.IntKind.wrap .i32 ((Go.IntKind.wrap .i32 (ibits .and .u8 y1.1.2.1 15)) * ((2 : Int) ^ (min (Int.toNat 12) 32)))) (Go.IntKind.wrap .i32 ((Go.IntKind.wrap .i32 (ibits .and .u8 y1.1.2.2.2.1 63)) * ((2 : Int) ^ (min (Int.toNat 6) 32))))) (Go.IntKind.wrap .i32 (ibits .and .u8 y1.1.2.2.2.2.1 63))), (3, ()))) (
                          ifd ((decide (((0 : Int) ≤ 3) ∧ ((3 : Int) < (((List.length y1.1.1) : Nat) : Int)))) = true) (
                            bnd (unicode_utf8_decodeRuneInStringSlow_C3 pc lp ((y1.1.2.1, y1.1.2.2.2.1, y1.1.2.2.2.2.1, (List.getD y1.1.1 (Int.toNat 3) 0), ()), ((y1.2.1.1, y1.2.1.2.1, ()), ()))) (fun (y2 : ((Int × (Int × (Int × (Int × (Bool × Unit))))) × ((Int × (Int × Unit)) × Unit))) =>
                            ifd (y2.1.2.2.2.2.1 = true) (
                              some (65533, (1, ()))) (
                              some ((ibits .or .i32 (ibits .or .i32 (ibits .or .i32 (Go.IntKind.wrap .i32 ((Go.IntKind.wrap .i32 (ibits .and .u8 y2.1.1 7)) * ((2 : Int) ^ (min (Int.toNat 18) 32)))) (Go.IntKind.wrap .i32 ((Go.IntKind.wrap .i32 (ibits .and .u8 y2.1.2.1 63)) * ((2 : Int) ^ (min (Int.toNat 12) 32))))) (Go.IntKind.wrap .i32 ((Go.IntKind.wrap .i32 (ibits .and .u8 y2.1.2.2.1 63)) * ((2 : Int) ^ (min (Int.toNat 6) 32))))) (Go.IntKind.wrap .i32 (ibits .and .u8 y2.1.2.2.2.1 63))), (4, ()))))) (
                            none))))) (
                      none))))) (
                none))) (
            none))) (
        none)) (
      none))
theorem unicode_utf8_decodeRuneInStringSlow_eq (a0 : List Int) (pc : PC prog) (lp : LP) : got unicode_utf8_decodeRuneInStringSlow_t (pcall prog (runO prog cfg (hand prog cfg lp pc 6 tbl 5) pc 6) 29 [(.c (.str a0))]) = unicode_utf8_decodeRuneInStringSlow_B pc lp a0 := by kernel_rfl
theorem unicode_utf8_decodeRuneInStringSlow_ap (E : AppE prog pcN pc lN lp) (a0 : List Int) : Approx (fun N => unicode_utf8_decodeRuneInStringSlow_B (pcN N) (lN N) a0) (unicode_utf8_decodeRuneInStringSlow_B pc lp a0) := by
  delta unicode_utf8_decodeRuneInStringSlow_B
  exact (Approx.ifd (Approx.const _) (Approx.ifd (Approx.ifd (Approx.ifd (Approx.ifd (Approx.const _) Approx.none) (Approx.ifd (Approx.ifd (Approx.const _) (Approx.ifd (Approx.bnd (unicode_utf8_decodeRuneInStringSlow_C1_a E) (fun y0 => (Approx.ifd (Approx.const _) (Approx.ifd (Approx.const _) (Approx.ifd (Approx.bnd (unicode_utf8_decodeRuneInStringSlow_C2_a E) (fun y1 => (Approx.ifd (Approx.const _) (Approx.ifd (Approx.const _) (Approx.ifd (Approx.bnd (unicode_utf8_decodeRuneInStringSlow_C3_a E) (fun y2 => (Approx.ifd (Approx.const _) (Approx.const _)))) Approx.none))))) Approx.none))))) Approx.none)) Approx.none)) Approx.none) Approx.none))
theorem unicode_utf8_decodeRuneInStringSlow_of {a0 : List Int} {y : (Int × (Int × Unit))} (h : unicode_utf8_decodeRuneInStringSlow_B (pcL prog cfg) lpL a0 = some y) : unicode_utf8_decodeRuneInStringSlow_c (pcL prog cfg) a0 = some y := fn_of rfl (unicode_utf8_decodeRuneInStringSlow_eq a0) (unicode_utf8_decodeRuneInStringSlow_ap (appN prog cfg) a0) h

-- grapheme_isWide, loop 26
abbrev grapheme_isWide_L1_D := ((Int × ((Int × (Int × (Int × (Int × (Int × (Int × (Int × (Int × (Int × (Int × (Int × (Int × (Int × (Int × (Int × (Int × (Int × (Int × (Int × (Int × (Int × (Int × (Int × (Int × (Int × (Int × (Int × Unit))))))))))))))))))))))))))) × (Int × Unit))) × Unit)
abbrev grapheme_isWide_L1_X := (((Bool × Unit) × Unit) ⊕ (Unit × Unit))
noncomputable def grapheme_isWide_L1_R (pc : PC prog) (lp : LP) (ψ : grapheme_isWide_L1_D → Option grapheme_isWide_L1_X) (d : grapheme_isWide_L1_D) : Option grapheme_isWide_L1_X :=
  ifd ((decide (d.1.2.2.1 < 9)) = true) (
    ifd ((decide (((0 : Int) ≤ d.1.2.2.1) ∧ (d.1.2.2.1 < 9))) = true) (
      ifd ((decide (d.1.1 ≥ (List.getD ([(d.1.2.1.1, (d.1.2.1.2.1, (d.1.2.1.2.2.1, ()))), (d.1.2.1.2.2.2.1, (d.1.2.1.2.2.2.2.1, (d.1.2.1.2.2.2.2.2.1, ()))), (d.1.2.1.2.2.2.2.2.2.1, (d.1.2.1.2.2.2.2.2.2.2.1, (d.1.2.1.2.2.2.2.2.2.2.2.1, ()))), (d.1.2.1.2.2.2.2.2.2.2.2.2.1, (d.1.2.1.2.2.2.2.2.2.2.2.2.2.1, (d.1.2.1.2.2.2.2.2.2.2.2.2.2.2.1, ()))), (d.1.2.1.2.2.2.2.2.2.2.2.2.2.2.2.1, (d.1.2.1.2.2.2.2.2.2.2.2.2.2.2.2.2.1, (d.1.2.1.2.2.2.2.2.2.2.2.2.2.2.2.2.2.1, ()))), (d.1.2.1.2.2.2.2.2.2.2.2.2.2.2.2.2.2.2.1, (d.1.2.1.2.2.2.2.2.2.2.2.2.2.2.2.2.2.2.2.1, (d.1.2.1.2.2.2.2.2.2.2.2.2.2.2.2.2.2.2.2.2.1, ()))), (d.1.2.1.2.2.2.2.2.2.2.2.2.2.2.2.2.2.2.2.2.2.1, (d.1.2.1.2.2.2.2.2.2.2.2.2.2.2.2.2.2.2.2.2.2.2.1, (d.1.2.1.2.2.2.2.2.2.2.2.2.2.2.2.2.2.2.2.2.2.2.2.1, ()))), (d.1.2.1.2.2.2.2.2.2.2.2.2.2.2.2.2.2.2.2.2.2.2.2.2.1, (d.1.2.1.2.2.2.2.2.2.2.2.2.2.2.2.2.2.2.2.2.2.2.2.2.2.1, (d.1.2.1.2.2.2.2.2.2.2.2.2.2.2.2.2.2.2.2.2.2.2.2.2.2.2.1, ()))), (d.1.2.1.2.2.2.2.2.2.2.2.2.2.2.2.2.2.2.2.2.2.2.2.2.2.2.2.1, (d.1.2.1.2.2.2.2.2.2.2.2.2.2.2.2.2.2.2.2.2.2.2.2.2.2.2.2.2.1, (d.1.2.1.2.2.2.2.2.2.2.2.2.2.2.2.2.2.2.2.2.2.2.2.2.2.2.2.2.2.1, ())))] : List (Int × (Int × (Int × Unit)))) (Int.toNat d.1.2.2.1) (0, (0, (0, ())))).1)) = true) (
        ifd ((decide (d.1.1 ≥ (List.getD ([(d.1.2.1.1, (d.1.2.1.2.1, (d.1.2.1.2.2.1, ()))), (d.1.2.1.2.2.2.1, (d.1.2.1.2.2.2.2.1, (d.1.2.1.2.2.2.2.2.1, ()))), (d.1.2.1.2.2.2.2.2.2.1, (d.1.2.1.2.2.2.2.2.2.2.1, (d.1.2.1.2.2.2.2.2.2.2.2.1, ()))), (d.1.2.1.2.2.2.2.2.2.2.2.2.1, (d.1.2.1.2.2.2.2.2.2.2.2.2.2.1, (d.1.2.1.2.2.2.2.2.2.2.2.2.2.2.1, ()))), (d.1.2.1.2.2.2.2.2.2.2.2.2.2.2.2.1, (d.1.2.1.2.2.2.2.2.2.2.2.2.2.2.2.2.1, (d.1.2.1.2.2.2.2.2.2.2.2.2.2.2.2.2.2.1, ()))), (d.1.2.1.2.2.2.2.2.2.2.2.2.2.2.2.2.2.2.1, (d.1.2.1.2.2.2.2.2.2.2.2.2.2.2.2.2.2.2.2.1, (d.1.2.1.2.2.2.2.2.2.2.2.2.2.2.2.2.2.2.2.2.1, ()))), (d.1.2.1.2.2.2.2.2.2.2.2.2.2.2.2.2.2.2.2.2.2.1, (d.1.2.1.2.2.2.2.2.2.2.2.2.2.2.2.2.2.2.2.2.2.2.1, (d.1.2.1.2.2.2.2.2.2.2.2.2.2.2.2.2.2.2.2.2.2.2.2.1, ()))), (d.1.2.1.2.2.2.2.2.2.2.2.2.2.2.2.2.2.2.2.2.2.2.2.2.1, (d.1.2.1.2.2.2.2.2.2.2.2.2.2.2.2.2.2.2.2.2.2.2.2.2.2.1, (d.1.2.1.2.2.2.2.2.2.2.2.2.2.2.2.2.2.2.2.2.2.2.2.2.2.2.1, ()))), (d.1.2.1.2.2.2.2.2.2.2.2.2.2.2.2.2.2.2.2.2.2.2.2.2.2.2.2.1, (d.1.2.1.2.2.2.2.2.2.2.2.2.2.2.2.2.2.2.2.2.2.2.2.2.2.2.2.2.1, (d.1.2.1.2.2.2.2.2.2.2.2.2.2.2.2.2.2.2.2.2.2.2.2.2.2.2.2.2.2.1, ())))] : List (Int × (Int × (Int × Unit)))) (Int.toNat d.1.2.2.1) (0, (0, (0, ())))).1)) = true) (
          ifd ((decide (d.1.1 ≤ (List.getD ([(d.1.2.1.1, (d.1.2.1.2.1, (d.1.2.1.2.2.1, ()))), (d.1.2.1.2.2.2.1, (d.1.2.1.2.2.2.2.1, (d.1.2.1.2.2.2.2.2.1, ()))), (d.1.2.1.2.2.2.2.2.2.1, (d.1.2.1.2.2.2.2.2.2.2.1, (d.1.2.1.2.2.2.2.2.2.2.2.1, ()))), (d.1.2.1.2.2.2.2.2.2.2.2.2.1, (d.1.2.1.2.2.2.2.2.2.2.2.2.2.1, (d.1.2.1.2.2.2.2.2.2.2.2.2.2.2.1, ()))), (d.1.2.1.2.2.2.2.2.2.2.2.2.2.2.2.1, (d.1.2.1.2.2.2.2.2.2.2.2.2.2.2.2.2.1, (d.1.2.1.2.2.2.2.2.2.2.2.2.2.2.2.2.2.1, ()))), (d.1.2.1.2.2.2.2.2.2.2.2.2.2.2.2.2.2.2.1, (d.1.2.1.2.2.2.2.2.2.2.2.2.2.2.2.2.2.2.2.1, (d.1.2.1.2.2.2.2.2.2.2.2.2.2.2.2.2.2.2.2.2.1, ()))), (d.1.2.1.2.2.2.2.2.2.2.2.2.2.2.2.2.2.2.2.2.2.1, (d.1.2.1.2.2.2.2.2.2.2.2.2.2.2.2.2.2.2.2.2.2.2.1, (d.1.2.1.2.2.2.2.2.2.2.2.2.2.2.2.2.2.2.2.2.2.2.2.1, ()))), (d.1.2.1.2.2.2.2.2.2.2.2.2.2.2.2.2.2.2.2.2.2.2.2.2.1, (d.1.2.1.2.2.2.2.2.2.2.2.2.2.2.2.2.2.2.2.2.2.2.2.2.2.1, (d.1.2.1.2.2.2.2.2.2.2.2.2.2.2.2.2.2.2.2.2.2.2.2.2.2.2.1, ()))), (d.1.2.1.2.2.2.2.2.2.2.2.2.2.2.2.2.2.2.2.2.2.2.2.2.2.2.2.1, (d.1.2.1.2.2.2.2.2.2.2.2.2.2.2.2.2.2.2.2.2.2.2.2.2.2.2.2.2.1, (d.1.2.1.2.2.2.2.2.2.2.2.2.2.2.2.2.2.2.2.2.2.2.2.2.2.2.2.2.2.1, ())))] : List (Int × (Int × (Int × Unit)))) (Int.toNat d.1.2.2.1) (0, (0, (0, ())))).2.1)) = true) (
            some (Sum.inl ((true, ()), ()))) (
            ψ ((d.1.1, (d.1.2.1.1, d.1.2.1.2.1, d.1.2.1.2.2.1, d.1.2.1.2.2.2.1, d.1.2.1.2.2.2.2.1, d.1.2.1.2.2.2.2.2.1, d.1.2.1.2.2.2.2.2.2.1, d.1.2.1.2.2.2.2.2.2.2.1, d.1.2.1.2.2.2.2.2.2.2.2.1, d.1.2.1.2.2.2.2.2.2.2.2.2.1, d.1.2.1.2.2.2.2.2.2.2.2.2.2.1, d.1.2.1.2.2.2.2.2.2.2.2.2.2.2.1, d.1.2.1.2.2.2.2.2.2.2.2.2.2.2.2.1, d.1.2.1.2.2.2.2.2.2.2.2.2.2.2.2.2.1, d.1.2.1.2.2.2.2.2.2.2.2.2.2.2.2.2.2.1, d.1.2.1.2.2.2.2.2.2.2.2.2.2.2.2.2.2.2.1, d.1.2.1.2.2.2.2.2.2.2.2.2.2.2.2.2.2.2.2.1, d.1.2.1.2.2.2.2.2.2.2.2.2.2.2.2.2.2.2.2.2.1, d.1.2.1.2.2.2.2.2.2.2.2.2.2.2.2.2.2.2.2.2.2.1, d.1.2.1.2.2.2.2.2.2.2.2.2.2.2.2.2.2.2.2.2.2.2.1, d.1.2.1.2.2.2.2.2.2.2.2.2.2.2.2.2.2.2.2.2.2.2.2.1, d.1.2.1.2.2.2.2.2.2.2.2.2.2.2.2.2.2.2.2.2.2.2.2.2.1, d.1.2.1.2.2.2.2.2.2.2.2.2.2.2.2.2.2.2.2.2.2.2.2.2.2.1, d.1.2.1.2.2.2.2.2.2.2.2.2.2.2.2.2.2.2.2.2.2.2.2.2.2.2.1, d.1.2.1.2.2.2.2.2.2.2.2.2.2.2.2.2.2.2.2.2.2.2.2.2.2.2.2.1, d.1.2.1.2.2.2.2.2.2.2.2.2.2.2.2.2.2.2.2.2.2.2.2.2.2.2.2.2.1, d.1.2.1.2.2.2.2.2.2.2.2.2.2.2.2.2.2.2.2.2.2.2.2.2.2.2.2.2.2.1, ()), (Go.IntKind.wrap .i64 (d.1.2.2.1 + 1)), ()), ()))) (
          ψ ((d.1.1, (d.1.2.1.1, d.1.2.1.2.1, d.1.2.1.2.2.1, d.1.2.1.2.2.2.1, d.1.2.1.2.2.2.2.1, d.1.2.1.2.2.2.2.2.1, d.1.2.1.2.2.2.2.2.2.1, d.1.2.1.2.2.2.2.2.2.2.1, d.1.2.1.2.2.2.2.2.2.2.2.1, d.1.2.1.2.2.2.2.2.2.2.2.2.1, d.1.2.1.2.2.2.2.2.2.2.2.2.2.1, d.1.2.1.2.2.2.2.2.2.2.2.2.2.2.1, d.1.2.1.2.2.2.2.2.2.2.2.2.2.2.2.1, d.1.2.1.2.2.2.2.2.2.2.2.2.2.2.2.2.1, d.1.2.1.2.2.2.2.2.2.2.2.2.2.2.2.2.2.1, d.1.2.1.2.2.2.2.2.2.2.2.2.2.2.2.2.2.2.1, d.1.2.1.2.2.2.2.2.2.2.2.2.2.2.2.2.2.2.2.1, d.1.2.1.2.2.2.2.2.2.2.2.2.2.2.2.2.2.2.2.2.1, d.1.2.1.2.2.2.2.2.2.2.2.2.2.2.2.2.2.2.2.2.2.1, d.1.2.1.2.2.2.2.2.2.2.2.2.2.2.2.2.2.2.2.2.2.2.1, d.1.2.1.2.2.2.2.2.2.2.2.2.2.2.2.2.2.2.2.2.2.2.2.1, d.1.2.1.2.2.2.2.2.2.2.2.2.2.2.2.2.2.2.2.2.2.2.2.2.1, d.1.2.1.2.2.2.2.2.2.2.2.2.2.2.2.2.2.2.2.2.2.2.2.2.2.1, d.1.2.1.2.2.2.2.2.2.2.2.2.2.2.2.2.2.2.2.2.2.2.2.2.2.2.1, d.1.2.1.2.2.2.2.2.2.2.2.2.2.2.2.2.2.2.2.2.2.2.2.2.2.2.2.1, d.1.2.1.2.2.2.2.2.2.2.2.2.2.2.2.2.2.2.2.2.2.2.2.2.2.2.2.2.1, d.1.2.1.2.2.2.2.2.2.2.2.2.2.2.2.2.2.2.2.2.2.2.2.2.2.2.2.2.2.1, ()), (Go.IntKind.wrap .i64 (d.1.2.2.1 + 1)), ()), ()))) (
        ifd ((decide (d.1.1 ≥ (List.getD ([(d.1.2.1.1, (d.1.2.1.2.1, (d.1.2.1.2.2.1, ()))), (d.1.2.1.2.2.2.1, (d.1.2.1.2.2.2.2.1, (d.1.2.1.2.2.2.2.2.1, ()))), (d.1.2.1.2.2.2.2.2.2.1, (d.1.2.1.2.2.2.2.2.2.2.1, (d.1.2.1.2.2.2.2.2.2.2.2.1, ()))), (d.1.2.1.2.2.2.2.2.2.2.2.2.1, (d.1.2.1.2.2.2.2.2.2.2.2.2.2.1, (d.1.2.1.2.2.2.2.2.2.2.2.2.2.2.1, ()))), (d.1.2.1.2.2.2.2.2.2.2.2.2.2.2.2.1, (d.1.2.1.2.2.2.2.2.2.2.2.2.2.2.2.2.1, (d.1.2.1.2.2.2.2.2.2.2.2.2.2.2.2.2.2.1, ()))), (d.1.2.1.2.2.2.2.2.2.2.2.2.2.2.2.2.2.2.1, (d.1.2.1.2.2.2.2.2.2.2.2.2.2.2.2.2.2.2.2.1, (d.1.2.1.2.2.2.2.2.2.2.2.2.2.2.2.2.2.2.2.2.1, ()))), (d.1.2.1.2.2.2.2.2.2.2.2.2.2.2.2.2.2.2.2.2.2.1, (d.1.2.1.2.2.2.2.2.2.2.2.2.2.2.2.2.2.2.2.2.2.2.1, (d.1.2.1.2.2.2.2.2.2.2.2.2.2.2.2.2.2.2.2.2.2.2.2.1, ()))), (d.1.2.1.2.2.2.2.2.2.2.2.2.2.2.2.2.2.2.2.2.2.2.2.2.1, (d.1.2.1.2.2.2.2.2.2.2.2.2.2.2.2.2.2.2.2.2.2.2.2.2.2.1, (d.1.2.1.2.2.2.2.2.2.2.2.2.2.2.2.2.2.2.2.2.2.2.2.2.2.2.1, ()))), (d.1.2.1.2.2.2.2.2.2.2.2.2.2.2.2.2.2.2.2.2.2.2.2.2.2.2.2.1, (d.1.2.1.2.2.2.2.2.2.2.2.2.2.2.2.2.2.2.2.2.2.2.2.2.2.2.2.2.1, (d.1.2.1.2.2.2.2.2.2.2.2.2.2.2.2.2.2.2.2.2.2.2.2.2.2.2.2.2.2.1, ())))] : List (Int × (Int × (Int × Unit)))) (Int.toNat d.1.2.2.1) (0, (0, (0, ())))).1)) = true) (
          none) (
          ψ ((d.1.1, (d.1.2.1.1, d.1.2.1.2.1, d.1.2.1.2.2.1, d.1.2.1.2.2.2.1, d.1.2.1.2.2.2.2.1, d.1.2.1.2.2.2.2.2.1, d.1.2.1.2.2.2.2.2.2.1, d.1.2.1.2.2.2.2.2.2.2.1, d.1.2.1.2.2.2.2.2.2.2.2.1, d.1.2.1.2.2.2.2.2.2.2.2.2.1, d.1.2.1.2.2.2.2.2.2.2.2.2.2.1, d.1.2.1.2.2.2.2.2.2.2.2.2.2.2.1, d.1.2.1.2.2.2.2.2.2.2.2.2.2.2.2.1, d.1.2.1.2.2.2.2.2.2.2.2.2.2.2.2.2.1, d.1.2.1.2.2.2.2.2.2.2.2.2.2.2.2.2.2.1, d.1.2.1.2.2.2.2.2.2.2.2.2.2.2.2.2.2.2.1, d.1.2.1.2.2.2.2.2.2.2.2.2.2.2.2.2.2.2.2.1, d.1.2.1.2.2.2.2.2.2.2.2.2.2.2.2.2.2.2.2.2.1, d.1.2.1.2.2.2.2.2.2.2.2.2.2.2.2.2.2.2.2.2.2.1, d.1.2.1.2.2.2.2.2.2.2.2.2.2.2.2.2.2.2.2.2.2.2.1, d.1.2.1.2.2.2.2.2.2.2.2.2.2.2.2.2.2.2.2.2.2.2.2.1, d.1.2.1.2.2.2.2.2.2.2.2.2.2.2.2.2.2.2.2.2.2.2.2.2.1, d.1.2.1.2.2.2.2.2.2.2.2.2.2.2.2.2.2.2.2.2.2.2.2.2.2.1, d.1.2.1.2.2.2.2.2.2.2.2.2.2.2.2.2.2.2.2.2.2.2.2.2.2.2.1, d.1.2.1.2.2.2.2.2.2.2.2.2.2.2.2.2.2.2.2.2.2.2.2.2.2.2.2.1, d.1.2.1.2.2.2.2.2.2.2.2.2.2.2.2.2.2.2.2.2.2.2.2.2.2.2.2.2.1, d.1.2.1.2.2.2.2.2.2.2.2.2.2.2.2.2.2.2.2.2.2.2.2.2.2.2.2.2.2.1, ()), (Go.IntKind.wrap .i64 (d.1.2.2.1 + 1)), ()), ())))) (
      none)) (
    some (Sum.inr ((), ())))
noncomputable def grapheme_isWide_L1 (pc : PC prog) (lp : LP) (d : grapheme_isWide_L1_D) : Option grapheme_isWide_L1_X := lp grapheme_isWide_L1_D grapheme_isWide_L1_X (grapheme_isWide_L1_R pc lp) d
theorem grapheme_isWide_L1_ap (E : AppE prog pcN pc lN lp) : ContR (fun N => grapheme_isWide_L1_R (pcN N) (lN N)) (grapheme_isWide_L1_R pc lp) := fun ψN ψ h d => by
  delta grapheme_isWide_L1_R
  exact (Approx.ifd (Approx.ifd (Approx.ifd (Approx.ifd (Approx.ifd (Approx.const _) (h _)) (h _)) (Approx.ifd Approx.none (h _))) Approx.none) (Approx.const _))
theorem grapheme_isWide_L1_a (E : AppE prog pcN pc lN lp) {d : grapheme_isWide_L1_D} : Approx (fun N => grapheme_isWide_L1 (pcN N) (lN N) d) (grapheme_isWide_L1 pc lp d) := E.loop (grapheme_isWide_L1_ap E) d
theorem grapheme_isWide_L1_of {d : grapheme_isWide_L1_D} {x : grapheme_isWide_L1_X} (h : grapheme_isWide_L1_R (pcL prog cfg) lpL (grapheme_isWide_L1 (pcL prog cfg) lpL) d = some x) : grapheme_isWide_L1 (pcL prog cfg) lpL d = some x := lpL_step (grapheme_isWide_L1_ap (appL prog cfg)) h

noncomputable def grapheme_isWide_B (pc : PC prog) (lp : LP) (a0 : Int) : Option Bool :=
  bnd (grapheme_isWide_L1 pc lp ((a0, (4352, 4447, 0, 11904, 42191, 0, 44032, 55203, 0, 63744, 64255, 0, 65072, 65135, 0, 65280, 65376, 0, 65504, 65510, 0, 127744, 129791, 0, 131072, 262141, 0, ()), 0, ()), ())) (Sum.elim (fun (y0 : ((Bool × Unit) × Unit)) =>
  some y0.1.1) (fun (y1 : (Unit × Unit)) =>
  some false))
theorem grapheme_isWide_eq (a0 : Int) (pc : PC prog) (lp : LP) : got grapheme_isWide_t (pcall prog (runO prog cfg (hand prog cfg lp pc 6 tbl 5) pc 6) 28 [(.c (.int .i32 a0))]) = grapheme_isWide_B pc lp a0 := by kernel_rfl
theorem grapheme_isWide_ap (E : AppE prog pcN pc lN lp) (a0 : Int) : Approx (fun N => grapheme_isWide_B (pcN N) (lN N) a0) (grapheme_isWide_B pc lp a0) := by
  delta grapheme_isWide_B
  exact (Approx.bnd (grapheme_isWide_L1_a E) (Approx.sum (fun y0 => (Approx.const _)) (fun y1 => (Approx.const _))))
theorem grapheme_isWide_of {a0 : Int} {y : Bool} (h : grapheme_isWide_B (pcL prog cfg) lpL a0 = some y) : grapheme_isWide_c (pcL prog cfg) a0 = some y := fn_of rfl (grapheme_isWide_eq a0) (grapheme_isWide_ap (appN prog cfg) a0) h

end Go.Proofs.YtagnebpehdonaaaDoorSim
