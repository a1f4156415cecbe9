/- The program's functions, as they compute. Printed by wip/gen. -/
import Derived.Test.YthhllkiefncbnaaDoorGen0
namespace Go.Proofs.YthhllkiefncbnaaDoorSim
open Go Go.Proofs
open Go.Proofs.Tryd (prog)
set_option linter.unusedVariables false
set_option linter.unusedSimpArgs false
set_option maxRecDepth 100000

variable {pcN : Nat → PC prog} {pc : PC prog} {lN : Nat → LP} {lp : LP}

noncomputable def law1_FoldMatchesSpec_B (pc : PC prog) (lp : LP) (a0 : List Int) (a1 : List Int) : Option Bool :=
  bnd (bnd (law1_foldExample_c pc ) fun (x0 : Bool) =>
  some x0) fun (x1 : Bool) =>
  ifd ((!x1) = true) (
    some false) (
    bnd (bnd (fold_Fold_c pc a0 a1) fun (x2 : ((List (List Int)) × ((Int × (Int × Unit)) × Unit))) =>
    some (x2.1, ((x2.2.1.1, (x2.2.1.2.1, ())), ()))) fun (x3 : ((List (List Int)) × ((Int × (Int × Unit)) × Unit))) =>
    bnd (bnd (ref1_FoldFault_c pc a0 a1) fun (x4 : (Int × (Int × Unit))) =>
    some (x4.1, (x4.2.1, ()))) fun (x5 : (Int × (Int × Unit))) =>
    ifd ((x5.1 != 0) = true) (
      ifd (((x3.2.1.1 == x5.1) && ((x3.2.1.2.1 == x5.2.1) && true)) = true) (
        ifd (((x3.2.1.1 == x5.1) && ((x3.2.1.2.1 == x5.2.1) && true)) = true) (
          some ((((List.length x3.1) : Nat) : Int) == 0)) (
          some false)) (
        ifd (((x3.2.1.1 == x5.1) && ((x3.2.1.2.1 == x5.2.1) && true)) = true) (
          none) (
          some false))) (
      ifd ((x3.2.1.1 == 0) = true) (
        bnd (bnd (ref1_Folded_c pc a0 a1) fun (x6 : (List (List Int))) =>
        some x6) fun (x7 : (List (List Int))) =>
        bnd (bnd (ref1_Strings_c pc x3.1 x7) fun (x8 : Bool) =>
        some x8) fun (x9 : Bool) =>
        ifd ((x3.2.1.1 == 0) = true) (
          some x9) (
          some false)) (
        ifd ((x3.2.1.1 == 0) = true) (
          none) (
          some false))))
theorem law1_FoldMatchesSpec_eq (a0 : List Int) (a1 : List Int) (pc : PC prog) (lp : LP) : got law1_FoldMatchesSpec_t (pcall prog (runO prog cfg (hand prog cfg lp pc 6 tbl 5) pc 6) 3 [(.c (.str a0)), (.c (.str a1))]) = law1_FoldMatchesSpec_B pc lp a0 a1 := by kernel_rfl
theorem law1_FoldMatchesSpec_ap (E : AppE prog pcN pc lN lp) (a0 : List Int) (a1 : List Int) : Approx (fun N => law1_FoldMatchesSpec_B (pcN N) (lN N) a0 a1) (law1_FoldMatchesSpec_B pc lp a0 a1) := by
  delta law1_FoldMatchesSpec_B
  exact (Approx.bnd (Approx.bnd (law1_foldExample_ca E) fun x0 => (Approx.const _)) fun x1 => (Approx.ifd (Approx.const _) (Approx.bnd (Approx.bnd (fold_Fold_ca E) fun x2 => (Approx.const _)) fun x3 => (Approx.bnd (Approx.bnd (ref1_FoldFault_ca E) fun x4 => (Approx.const _)) fun x5 => (Approx.ifd (Approx.ifd (Approx.ifd (Approx.const _) (Approx.const _)) (Approx.ifd Approx.none (Approx.const _))) (Approx.ifd (Approx.bnd (Approx.bnd (ref1_Folded_ca E) fun x6 => (Approx.const _)) fun x7 => (Approx.bnd (Approx.bnd (ref1_Strings_ca E) fun x8 => (Approx.const _)) fun x9 => (Approx.ifd (Approx.const _) (Approx.const _)))) (Approx.ifd Approx.none (Approx.const _))))))))
theorem law1_FoldMatchesSpec_of {a0 : List Int} {a1 : List Int} {y : Bool} (h : law1_FoldMatchesSpec_B (pcL prog cfg) lpL a0 a1 = some y) : law1_FoldMatchesSpec_c (pcL prog cfg) a0 a1 = some y := fn_of rfl (law1_FoldMatchesSpec_eq a0 a1) (law1_FoldMatchesSpec_ap (appN prog cfg) a0 a1) h

-- law1_FoldRoundTrip, part 30
abbrev law1_FoldRoundTrip_C1_D := (((List Int) × ((List Int) × ((List (List Int)) × (Unit × Unit)))) × ((Int × (Int × Unit)) × Unit))
abbrev law1_FoldRoundTrip_C1_X := (((List Int) × ((List Int) × ((List (List Int)) × (Unit × (Bool × Unit))))) × ((Int × (Int × Unit)) × Unit))
noncomputable def law1_FoldRoundTrip_C1 (pc : PC prog) (lp : LP) (d : law1_FoldRoundTrip_C1_D) : Option law1_FoldRoundTrip_C1_X :=
  ifd ((d.2.1.1 != 0) = true) (
    ifd ((d.2.1.1 != 0) = true) (
      some ((d.1.1, d.1.2.1, d.1.2.2.1, (), true, ()), ((d.2.1.1, d.2.1.2.1, ()), ()))) (
      none)) (
    ifd ((d.2.1.1 != 0) = true) (
      some ((d.1.1, d.1.2.1, d.1.2.2.1, (), true, ()), ((d.2.1.1, d.2.1.2.1, ()), ()))) (
      some ((d.1.1, d.1.2.1, d.1.2.2.1, (), (decide ((((List.length d.1.2.2.1) : Nat) : Int) > 300)), ()), ((d.2.1.1, d.2.1.2.1, ()), ()))))
theorem law1_FoldRoundTrip_C1_a (E : AppE prog pcN pc lN lp) {d : law1_FoldRoundTrip_C1_D} : Approx (fun N => law1_FoldRoundTrip_C1 (pcN N) (lN N) d) (law1_FoldRoundTrip_C1 pc lp d) := by
  delta law1_FoldRoundTrip_C1
  exact (Approx.ifd (Approx.ifd (Approx.const _) Approx.none) (Approx.ifd (Approx.const _) (Approx.const _)))

-- law1_FoldRoundTrip, part 122
abbrev law1_FoldRoundTrip_C2_D := (((List (List Int)) × (Unit × Unit)) × ((Int × (Int × Unit)) × Unit))
abbrev law1_FoldRoundTrip_C2_X := ((Bool × Unit) × ((Int × (Int × Unit)) × Unit))
noncomputable def law1_FoldRoundTrip_C2 (pc : PC prog) (lp : LP) (d : law1_FoldRoundTrip_C2_D) : Option law1_FoldRoundTrip_C2_X :=
  ifd ((d.2.1.1 == 0) = true) (
    ifd ((d.2.1.1 == 0) = true) (
      some ((true, ()), ((d.2.1.1, d.2.1.2.1, ()), ()))) (
      none)) (
    ifd ((d.2.1.1 == 0) = true) (
      some ((true, ()), ((d.2.1.1, d.2.1.2.1, ()), ()))) (
      some ((((((List.length d.1.1) : Nat) : Int) == 0), ()), ((d.2.1.1, d.2.1.2.1, ()), ()))))
theorem law1_FoldRoundTrip_C2_a (E : AppE prog pcN pc lN lp) {d : law1_FoldRoundTrip_C2_D} : Approx (fun N => law1_FoldRoundTrip_C2 (pcN N) (lN N) d) (law1_FoldRoundTrip_C2 pc lp d) := by
  delta law1_FoldRoundTrip_C2
  exact (Approx.ifd (Approx.ifd (Approx.const _) Approx.none) (Approx.ifd (Approx.const _) (Approx.const _)))

noncomputable def law1_FoldRoundTrip_B (pc : PC prog) (lp : LP) (a0 : List Int) (a1 : List Int) : Option Bool :=
  bnd (bnd (law1_foldExample_c pc ) fun (x0 : Bool) =>
  some x0) fun (x1 : Bool) =>
  ifd ((!x1) = true) (
    some false) (
    bnd (bnd (fold_Fold_c pc a0 a1) fun (x2 : ((List (List Int)) × ((Int × (Int × Unit)) × Unit))) =>
    some (x2.1, ((x2.2.1.1, (x2.2.1.2.1, ())), ()))) fun (x3 : ((List (List Int)) × ((Int × (Int × Unit)) × Unit))) =>
    bnd (law1_FoldRoundTrip_C1 pc lp ((a0, a1, x3.1, (), ()), ((x3.2.1.1, x3.2.1.2.1, ()), ()))) (fun (y4 : (((List Int) × ((List Int) × ((List (List Int)) × (Unit × (Bool × Unit))))) × ((Int × (Int × Unit)) × Unit))) =>
    ifd (y4.1.2.2.2.2.1 = true) (
      bnd (law1_FoldRoundTrip_C2 pc lp ((y4.1.2.2.1, (), ()), ((y4.2.1.1, y4.2.1.2.1, ()), ()))) (fun (y5 : ((Bool × Unit) × ((Int × (Int × Unit)) × Unit))) =>
      some y5.1.1)) (
      bnd (bnd (fold_Unfold_c pc y4.1.2.2.1) fun (x6 : ((List Int) × ((List Int) × ((Int × (Int × Unit)) × Unit)))) =>
      some (x6.1, (x6.2.1, ((x6.2.2.1.1, (x6.2.2.1.2.1, ())), ())))) fun (x7 : ((List Int) × ((List Int) × ((Int × (Int × Unit)) × Unit)))) =>
      ifd ((x7.2.2.1.1 == 0) = true) (
        ifd ((x7.2.2.1.1 == 0) = true) (
          ifd ((x7.1 == y4.1.1) = true) (
            ifd ((x7.1 == y4.1.1) = true) (
              some (x7.2.1 == y4.1.2.1)) (
              some false)) (
            ifd ((x7.1 == y4.1.1) = true) (
              none) (
              some false))) (
          some false)) (
        ifd ((x7.2.2.1.1 == 0) = true) (
          none) (
          some false)))))
theorem law1_FoldRoundTrip_eq (a0 : List Int) (a1 : List Int) (pc : PC prog) (lp : LP) : got law1_FoldRoundTrip_t (pcall prog (runO prog cfg (hand prog cfg lp pc 6 tbl 5) pc 6) 4 [(.c (.str a0)), (.c (.str a1))]) = law1_FoldRoundTrip_B pc lp a0 a1 := by kernel_rfl
theorem law1_FoldRoundTrip_ap (E : AppE prog pcN pc lN lp) (a0 : List Int) (a1 : List Int) : Approx (fun N => law1_FoldRoundTrip_B (pcN N) (lN N) a0 a1) (law1_FoldRoundTrip_B pc lp a0 a1) := by
  delta law1_FoldRoundTrip_B
  exact (Approx.bnd (Approx.bnd (law1_foldExample_ca E) fun x0 => (Approx.const _)) fun x1 => (Approx.ifd (Approx.const _) (Approx.bnd (Approx.bnd (fold_Fold_ca E) fun x2 => (Approx.const _)) fun x3 => (Approx.bnd (law1_FoldRoundTrip_C1_a E) (fun y4 => (Approx.ifd (Approx.bnd (law1_FoldRoundTrip_C2_a E) (fun y5 => (Approx.const _))) (Approx.bnd (Approx.bnd (fold_Unfold_ca E) fun x6 => (Approx.const _)) fun x7 => (Approx.ifd (Approx.ifd (Approx.ifd (Approx.ifd (Approx.const _) (Approx.const _)) (Approx.ifd Approx.none (Approx.const _))) (Approx.const _)) (Approx.ifd Approx.none (Approx.const _))))))))))
theorem law1_FoldRoundTrip_of {a0 : List Int} {a1 : List Int} {y : Bool} (h : law1_FoldRoundTrip_B (pcL prog cfg) lpL a0 a1 = some y) : law1_FoldRoundTrip_c (pcL prog cfg) a0 a1 = some y := fn_of rfl (law1_FoldRoundTrip_eq a0 a1) (law1_FoldRoundTrip_ap (appN prog cfg) a0 a1) h

-- law1_FoldShortLines, part 8009
abbrev law1_FoldShortLines_C1_D := (((List Int) × ((List Int) × ((List (List Int)) × (Int × (Int × Unit))))) × ((Int × (Int × Unit)) × Unit))
abbrev law1_FoldShortLines_C1_X := (((List Int) × ((List Int) × ((List (List Int)) × (Int × (Int × Unit))))) × ((Int × (Int × Unit)) × Unit))
noncomputable def law1_FoldShortLines_C1 (pc : PC prog) (lp : LP) (d : law1_FoldShortLines_C1_D) : Option law1_FoldShortLines_C1_X :=
  ifd ((d.1.2.2.2.1 == 0) = true) (
    some ((d.1.1, d.1.2.1, d.1.2.2.1, d.1.2.2.2.1, (Go.IntKind.wrap .i64 ((((List.length d.1.1) : Nat) : Int) + 3)), ()), ((d.2.1.1, d.2.1.2.1, ()), ()))) (
    some ((d.1.1, d.1.2.1, d.1.2.2.1, d.1.2.2.2.1, d.1.2.2.2.2.1, ()), ((d.2.1.1, d.2.1.2.1, ()), ())))
theorem law1_FoldShortLines_C1_a (E : AppE prog pcN pc lN lp) {d : law1_FoldShortLines_C1_D} : Approx (fun N => law1_FoldShortLines_C1 (pcN N) (lN N) d) (law1_FoldShortLines_C1 pc lp d) := by
  delta law1_FoldShortLines_C1
  exact (Approx.ifd (Approx.const _) (Approx.const _))

-- law1_FoldShortLines, part 512616
abbrev law1_FoldShortLines_C2_D := (((List Int) × ((List Int) × ((List (List Int)) × (Int × (Int × Unit))))) × ((Int × (Int × Unit)) × Unit))
abbrev law1_FoldShortLines_C2_X := (((List Int) × ((List Int) × ((List (List Int)) × (Int × (Int × (Bool × Unit)))))) × ((Int × (Int × Unit)) × Unit))
noncomputable def law1_FoldShortLines_C2 (pc : PC prog) (lp : LP) (d : law1_FoldShortLines_C2_D) : Option law1_FoldShortLines_C2_X :=
  ifd ((decide (((0 : Int) ≤ d.1.2.2.2.1) ∧ (d.1.2.2.2.1 < (((List.length d.1.2.2.1) : Nat) : Int)))) = true) (
    ifd ((decide (d.1.2.2.2.2.1 < (((List.length (List.getD d.1.2.2.1 (Int.toNat d.1.2.2.2.1) ([] : List Int))) : Nat) : Int))) = true) (
      ifd ((decide (((0 : Int) ≤ d.1.2.2.2.1) ∧ (d.1.2.2.2.1 < (((List.length d.1.2.2.1) : Nat) : Int)))) = true) (
        ifd ((decide (d.1.2.2.2.2.1 < (((List.length (List.getD d.1.2.2.1 (Int.toNat d.1.2.2.2.1) ([] : List Int))) : Nat) : Int))) = true) (
          some ((d.1.1, d.1.2.1, d.1.2.2.1, d.1.2.2.2.1, d.1.2.2.2.2.1, (decide ((((List.length (List.getD d.1.2.2.1 (Int.toNat d.1.2.2.2.1) ([] : List Int))) : Nat) : Int) > 78)), ()), ((d.2.1.1, d.2.1.2.1, ()), ()))) (
          some ((d.1.1, d.1.2.1, d.1.2.2.1, d.1.2.2.2.1, d.1.2.2.2.2.1, false, ()), ((d.2.1.1, d.2.1.2.1, ()), ())))) (
        none)) (
      ifd ((decide (d.1.2.2.2.2.1 < (((List.length (List.getD d.1.2.2.1 (Int.toNat d.1.2.2.2.1) ([] : List Int))) : Nat) : Int))) = true) (
        none) (
        some ((d.1.1, d.1.2.1, d.1.2.2.1, d.1.2.2.2.1, d.1.2.2.2.2.1, false, ()), ((d.2.1.1, d.2.1.2.1, ()), ()))))) (
    none)
theorem law1_FoldShortLines_C2_a (E : AppE prog pcN pc lN lp) {d : law1_FoldShortLines_C2_D} : Approx (fun N => law1_FoldShortLines_C2 (pcN N) (lN N) d) (law1_FoldShortLines_C2 pc lp d) := by
  delta law1_FoldShortLines_C2
  exact (Approx.ifd (Approx.ifd (Approx.ifd (Approx.ifd (Approx.const _) (Approx.const _)) Approx.none) (Approx.ifd Approx.none (Approx.const _))) Approx.none)

-- law1_FoldShortLines, loop 128154
abbrev law1_FoldShortLines_L3_D := (((List Int) × ((List Int) × ((List (List Int)) × (Int × (Int × Unit))))) × ((Int × (Int × Unit)) × Unit))
abbrev law1_FoldShortLines_L3_X := (((Bool × Unit) × ((Int × (Int × Unit)) × Unit)) ⊕ (((List Int) × ((List Int) × ((List (List Int)) × (Int × Unit)))) × ((Int × (Int × Unit)) × Unit)))
noncomputable def law1_FoldShortLines_L3_R (pc : PC prog) (lp : LP) (ψ : law1_FoldShortLines_L3_D → Option law1_FoldShortLines_L3_X) (d : law1_FoldShortLines_L3_D) : Option law1_FoldShortLines_L3_X :=
  bnd (law1_FoldShortLines_C2 pc lp ((d.1.1, d.1.2.1, d.1.2.2.1, d.1.2.2.2.1, d.1.2.2.2.2.1, ()), ((d.2.1.1, d.2.1.2.1, ()), ()))) (fun (y10 : (((List Int) × ((List Int) × ((List (List Int)) × (Int × (Int × (Bool × Unit)))))) × ((Int × (Int × Unit)) × Unit))) =>
  ifd (y10.1.2.2.2.2.2.1 = true) (
    ifd ((decide (((0 : Int) ≤ y10.1.2.2.2.1) ∧ (y10.1.2.2.2.1 < (((List.length y10.1.2.2.1) : Nat) : Int)))) = true) (
      ifd ((decide (((0 : Int) ≤ y10.1.2.2.2.2.1) ∧ (y10.1.2.2.2.2.1 < (((List.length (List.getD y10.1.2.2.1 (Int.toNat y10.1.2.2.2.1) ([] : List Int))) : Nat) : Int)))) = true) (
        bnd (bnd (ref1_Blank_c pc (List.getD (List.getD y10.1.2.2.1 (Int.toNat y10.1.2.2.2.1) ([] : List Int)) (Int.toNat y10.1.2.2.2.2.1) 0)) fun (x11 : Bool) =>
        some x11) fun (x12 : Bool) =>
        ifd (x12 = true) (
          ifd ((decide (((0 : Int) ≤ y10.1.2.2.2.1) ∧ (y10.1.2.2.2.1 < (((List.length y10.1.2.2.1) : Nat) : Int)))) = true) (
            ifd ((decide (((0 : Int) ≤ (Go.IntKind.wrap .i64 (y10.1.2.2.2.2.1 - 1))) ∧ ((Go.IntKind.wrap .i64 (y10.1.2.2.2.2.1 - 1)) < (((List.length (List.getD y10.1.2.2.1 (Int.toNat y10.1.2.2.2.1) ([] : List Int))) : Nat) : Int)))) = true) (
              bnd (bnd (ref1_Blank_c pc (List.getD (List.getD y10.1.2.2.1 (Int.toNat y10.1.2.2.2.1) ([] : List Int)) (Int.toNat (Go.IntKind.wrap .i64 (y10.1.2.2.2.2.1 - 1))) 0)) fun (x13 : Bool) =>
              some x13) fun (x14 : Bool) =>
              ifd (x12 = true) (
                ifd ((!x14) = true) (
                  some (Sum.inl ((false, ()), ((y10.2.1.1, y10.2.1.2.1, ()), ())))) (
                  ψ ((y10.1.1, y10.1.2.1, y10.1.2.2.1, y10.1.2.2.2.1, (Go.IntKind.wrap .i64 (y10.1.2.2.2.2.1 + 1)), ()), ((y10.2.1.1, y10.2.1.2.1, ()), ())))) (
                ψ ((y10.1.1, y10.1.2.1, y10.1.2.2.1, y10.1.2.2.2.1, (Go.IntKind.wrap .i64 (y10.1.2.2.2.2.1 + 1)), ()), ((y10.2.1.1, y10.2.1.2.1, ()), ())))) (
              none)) (
            none)) (
          ifd (x12 = true) (
            none) (
            ψ ((y10.1.1, y10.1.2.1, y10.1.2.2.1, y10.1.2.2.2.1, (Go.IntKind.wrap .i64 (y10.1.2.2.2.2.1 + 1)), ()), ((y10.2.1.1, y10.2.1.2.1, ()), ()))))) (
        none)) (
      none)) (
    some (Sum.inr ((y10.1.1, y10.1.2.1, y10.1.2.2.1, y10.1.2.2.2.1, ()), ((y10.2.1.1, y10.2.1.2.1, ()), ())))))
noncomputable def law1_FoldShortLines_L3 (pc : PC prog) (lp : LP) (d : law1_FoldShortLines_L3_D) : Option law1_FoldShortLines_L3_X := lp law1_FoldShortLines_L3_D law1_FoldShortLines_L3_X (law1_FoldShortLines_L3_R pc lp) d
theorem law1_FoldShortLines_L3_ap (E : AppE prog pcN pc lN lp) : ContR (fun N => law1_FoldShortLines_L3_R (pcN N) (lN N)) (law1_FoldShortLines_L3_R pc lp) := fun ψN ψ h d => by
  delta law1_FoldShortLines_L3_R
  exact (Approx.bnd (law1_FoldShortLines_C2_a E) (fun y10 => (Approx.ifd (Approx.ifd (Approx.ifd (Approx.bnd (Approx.bnd (ref1_Blank_ca E) fun x11 => (Approx.const _)) fun x12 => (Approx.ifd (Approx.ifd (Approx.ifd (Approx.bnd (Approx.bnd (ref1_Blank_ca E) fun x13 => (Approx.const _)) fun x14 => (Approx.ifd (Approx.ifd (Approx.const _) (h _)) (h _))) Approx.none) Approx.none) (Approx.ifd Approx.none (h _)))) Approx.none) Approx.none) (Approx.const _))))
theorem law1_FoldShortLines_L3_a (E : AppE prog pcN pc lN lp) {d : law1_FoldShortLines_L3_D} : Approx (fun N => law1_FoldShortLines_L3 (pcN N) (lN N) d) (law1_FoldShortLines_L3 pc lp d) := E.loop (law1_FoldShortLines_L3_ap E) d
theorem law1_FoldShortLines_L3_of {d : law1_FoldShortLines_L3_D} {x : law1_FoldShortLines_L3_X} (h : law1_FoldShortLines_L3_R (pcL prog cfg) lpL (law1_FoldShortLines_L3 (pcL prog cfg) lpL) d = some x) : law1_FoldShortLines_L3 (pcL prog cfg) lpL d = some x := lpL_step (law1_FoldShortLines_L3_ap (appL prog cfg)) h

-- law1_FoldShortLines, loop 250
abbrev law1_FoldShortLines_L4_D := (((List Int) × ((List Int) × ((List (List Int)) × (Int × Unit)))) × ((Int × (Int × Unit)) × Unit))
abbrev law1_FoldShortLines_L4_X := (((Bool × Unit) × ((Int × (Int × Unit)) × Unit)) ⊕ (((List (List Int)) × Unit) × ((Int × (Int × Unit)) × Unit)))
noncomputable def law1_FoldShortLines_L4_R (pc : PC prog) (lp : LP) (ψ : law1_FoldShortLines_L4_D → Option law1_FoldShortLines_L4_X) (d : law1_FoldShortLines_L4_D) : Option law1_FoldShortLines_L4_X :=
  ifd ((decide (d.1.2.2.2.1 < (((List.length d.1.2.2.1) : Nat) : Int))) = true) (
    bnd (law1_FoldShortLines_C1 pc lp ((d.1.1, d.1.2.1, d.1.2.2.1, d.1.2.2.2.1, 1, ()), ((d.2.1.1, d.2.1.2.1, ()), ()))) (fun (y19 : (((List Int) × ((List Int) × ((List (List Int)) × (Int × (Int × Unit))))) × ((Int × (Int × Unit)) × Unit))) =>
    bnd (law1_FoldShortLines_L3 pc lp ((y19.1.1, y19.1.2.1, y19.1.2.2.1, y19.1.2.2.2.1, y19.1.2.2.2.2.1, ()), ((y19.2.1.1, y19.2.1.2.1, ()), ()))) (Sum.elim (fun (y20 : ((Bool × Unit) × ((Int × (Int × Unit)) × Unit))) =>
    some (Sum.inl ((y20.1.1, ()), ((y20.2.1.1, y20.2.1.2.1, ()), ())))) (fun (y21 : (((List Int) × ((List Int) × ((List (List Int)) × (Int × Unit)))) × ((Int × (Int × Unit)) × Unit))) =>
    ifd ((decide (((0 : Int) ≤ y21.1.2.2.2.1) ∧ (y21.1.2.2.2.1 < (((List.length y21.1.2.2.1) : Nat) : Int)))) = true) (
      ifd (((List.getD y21.1.2.2.1 (Int.toNat y21.1.2.2.2.1) ([] : List Int)) == ([] : List Int)) = true) (
        ifd (((List.getD y21.1.2.2.1 (Int.toNat y21.1.2.2.2.1) ([] : List Int)) == ([] : List Int)) = true) (
          ifd (((List.getD y21.1.2.2.1 (Int.toNat y21.1.2.2.2.1) ([] : List Int)) == ([] : List Int)) = true) (
            some (Sum.inl ((false, ()), ((y21.2.1.1, y21.2.1.2.1, ()), ())))) (
            none)) (
          none)) (
        ifd ((!(y21.1.2.1 == ([] : List Int))) = true) (
          ifd ((decide (((0 : Int) ≤ y21.1.2.2.2.1) ∧ (y21.1.2.2.2.1 < (((List.length y21.1.2.2.1) : Nat) : Int)))) = true) (
            ifd ((decide (((0 : Int) ≤ y21.1.2.2.2.1) ∧ (y21.1.2.2.2.1 < (((List.length y21.1.2.2.1) : Nat) : Int)))) = true) (
              ifd ((decide (((0 : Int) ≤ (Go.IntKind.wrap .i64 ((((List.length (List.getD y21.1.2.2.1 (Int.toNat y21.1.2.2.2.1) ([] : List Int))) : Nat) : Int) - 1))) ∧ ((Go.IntKind.wrap .i64 ((((List.length (List.getD y21.1.2.2.1 (Int.toNat y21.1.2.2.2.1) ([] : List Int))) : Nat) : Int) - 1)) < (((List.length (List.getD y21.1.2.2.1 (Int.toNat y21.1.2.2.2.1) ([] : List Int))) : Nat) : Int)))) = true) (
                bnd (bnd (ref1_Blank_c pc (List.getD (List.getD y21.1.2.2.1 (Int.toNat y21.1.2.2.2.1) ([] : List Int)) (Int.toNat (Go.IntKind.wrap .i64 ((((List.length (List.getD y21.1.2.2.1 (Int.toNat y21.1.2.2.2.1) ([] : List Int))) : Nat) : Int) - 1))) 0)) fun (x22 : Bool) =>
                some x22) fun (x23 : Bool) =>
                ifd (((List.getD y21.1.2.2.1 (Int.toNat y21.1.2.2.2.1) ([] : List Int)) == ([] : List Int)) = true) (
                  ifd (((List.getD y21.1.2.2.1 (Int.toNat y21.1.2.2.2.1) ([] : List Int)) == ([] : List Int)) = true) (
                    some (Sum.inl ((false, ()), ((y21.2.1.1, y21.2.1.2.1, ()), ())))) (
                    none)) (
                  ifd ((!(y21.1.2.1 == ([] : List Int))) = true) (
                    ifd (((List.getD y21.1.2.2.1 (Int.toNat y21.1.2.2.2.1) ([] : List Int)) == ([] : List Int)) = true) (
                      some (Sum.inl ((false, ()), ((y21.2.1.1, y21.2.1.2.1, ()), ())))) (
                      ifd (x23 = true) (
                        some (Sum.inl ((false, ()), ((y21.2.1.1, y21.2.1.2.1, ()), ())))) (
                        ψ ((y21.1.1, y21.1.2.1, y21.1.2.2.1, (Go.IntKind.wrap .i64 (y21.1.2.2.2.1 + 1)), ()), ((y21.2.1.1, y21.2.1.2.1, ()), ()))))) (
                    ifd (((List.getD y21.1.2.2.1 (Int.toNat y21.1.2.2.2.1) ([] : List Int)) == ([] : List Int)) = true) (
                      some (Sum.inl ((false, ()), ((y21.2.1.1, y21.2.1.2.1, ()), ())))) (
                      ψ ((y21.1.1, y21.1.2.1, y21.1.2.2.1, (Go.IntKind.wrap .i64 (y21.1.2.2.2.1 + 1)), ()), ((y21.2.1.1, y21.2.1.2.1, ()), ())))))) (
                none)) (
              none)) (
            none)) (
          ifd (((List.getD y21.1.2.2.1 (Int.toNat y21.1.2.2.2.1) ([] : List Int)) == ([] : List Int)) = true) (
            ifd (((List.getD y21.1.2.2.1 (Int.toNat y21.1.2.2.2.1) ([] : List Int)) == ([] : List Int)) = true) (
              some (Sum.inl ((false, ()), ((y21.2.1.1, y21.2.1.2.1, ()), ())))) (
              none)) (
            ifd ((!(y21.1.2.1 == ([] : List Int))) = true) (
              ifd (((List.getD y21.1.2.2.1 (Int.toNat y21.1.2.2.2.1) ([] : List Int)) == ([] : List Int)) = true) (
                some (Sum.inl ((false, ()), ((y21.2.1.1, y21.2.1.2.1, ()), ())))) (
                none)) (
              ifd (((List.getD y21.1.2.2.1 (Int.toNat y21.1.2.2.2.1) ([] : List Int)) == ([] : List Int)) = true) (
                some (Sum.inl ((false, ()), ((y21.2.1.1, y21.2.1.2.1, ()), ())))) (
                ψ ((y21.1.1, y21.1.2.1, y21.1.2.2.1, (Go.IntKind.wrap .i64 (y21.1.2.2.2.1 + 1)), ()), ((y21.2.1.1, y21.2.1.2.1, ()), ())))))))) (
      none))))) (
    some (Sum.inr ((d.1.2.2.1, ()), ((d.2.1.1, d.2.1.2.1, ()), ()))))
noncomputable def law1_FoldShortLines_L4 (pc : PC prog) (lp : LP) (d : law1_FoldShortLines_L4_D) : Option law1_FoldShortLines_L4_X := lp law1_FoldShortLines_L4_D law1_FoldShortLines_L4_X (law1_FoldShortLines_L4_R pc lp) d
theorem law1_FoldShortLines_L4_ap (E : AppE prog pcN pc lN lp) : ContR (fun N => law1_FoldShortLines_L4_R (pcN N) (lN N)) (law1_FoldShortLines_L4_R pc lp) := fun ψN ψ h d => by
  delta law1_FoldShortLines_L4_R
  exact (Approx.ifd (Approx.bnd (law1_FoldShortLines_C1_a E) (fun y19 => (Approx.bnd (law1_FoldShortLines_L3_a E) (Approx.sum (fun y20 => (Approx.const _)) (fun y21 => (Approx.ifd (Approx.ifd (Approx.ifd (Approx.ifd (Approx.const _) Approx.none) Approx.none) (Approx.ifd (Approx.ifd (Approx.ifd (Approx.ifd (Approx.bnd (Approx.bnd (ref1_Blank_ca E) fun x22 => (Approx.const _)) fun x23 => (Approx.ifd (Approx.ifd (Approx.const _) Approx.none) (Approx.ifd (Approx.ifd (Approx.const _) (Approx.ifd (Approx.const _) (h _))) (Approx.ifd (Approx.const _) (h _))))) Approx.none) Approx.none) Approx.none) (Approx.ifd (Approx.ifd (Approx.const _) Approx.none) (Approx.ifd (Approx.ifd (Approx.const _) Approx.none) (Approx.ifd (Approx.const _) (h _)))))) Approx.none)))))) (Approx.const _))
theorem law1_FoldShortLines_L4_a (E : AppE prog pcN pc lN lp) {d : law1_FoldShortLines_L4_D} : Approx (fun N => law1_FoldShortLines_L4 (pcN N) (lN N) d) (law1_FoldShortLines_L4 pc lp d) := E.loop (law1_FoldShortLines_L4_ap E) d
theorem law1_FoldShortLines_L4_of {d : law1_FoldShortLines_L4_D} {x : law1_FoldShortLines_L4_X} (h : law1_FoldShortLines_L4_R (pcL prog cfg) lpL (law1_FoldShortLines_L4 (pcL prog cfg) lpL) d = some x) : law1_FoldShortLines_L4 (pcL prog cfg) lpL d = some x := lpL_step (law1_FoldShortLines_L4_ap (appL prog cfg)) h

noncomputable def law1_FoldShortLines_B (pc : PC prog) (lp : LP) (a0 : List Int) (a1 : List Int) : Option Bool :=
  bnd (bnd (law1_foldExample_c pc ) fun (x0 : Bool) =>
  some x0) fun (x1 : Bool) =>
  ifd ((!x1) = true) (
    some false) (
    bnd (bnd (fold_Fold_c pc a0 a1) fun (x2 : ((List (List Int)) × ((Int × (Int × Unit)) × Unit))) =>
    some (x2.1, ((x2.2.1.1, (x2.2.1.2.1, ())), ()))) fun (x3 : ((List (List Int)) × ((Int × (Int × Unit)) × Unit))) =>
    ifd ((x3.2.1.1 != 0) = true) (
      some ((((List.length x3.1) : Nat) : Int) == 0)) (
      bnd (law1_FoldShortLines_L4 pc lp ((a0, a1, x3.1, 0, ()), ((x3.2.1.1, x3.2.1.2.1, ()), ()))) (Sum.elim (fun (y24 : ((Bool × Unit) × ((Int × (Int × Unit)) × Unit))) =>
      some y24.1.1) (fun (y25 : (((List (List Int)) × Unit) × ((Int × (Int × Unit)) × Unit))) =>
      some (decide ((((List.length y25.1.1) : Nat) : Int) > 0))))))
theorem law1_FoldShortLines_eq (a0 : List Int) (a1 : List Int) (pc : PC prog) (lp : LP) : got law1_FoldShortLines_t (pcall prog (runO prog cfg (hand prog cfg lp pc 6 tbl 5) pc 6) 5 [(.c (.str a0)), (.c (.str a1))]) = law1_FoldShortLines_B pc lp a0 a1 := by kernel_rfl
theorem law1_FoldShortLines_ap (E : AppE prog pcN pc lN lp) (a0 : List Int) (a1 : List Int) : Approx (fun N => law1_FoldShortLines_B (pcN N) (lN N) a0 a1) (law1_FoldShortLines_B pc lp a0 a1) := by
  delta law1_FoldShortLines_B
  exact (Approx.bnd (Approx.bnd (law1_foldExample_ca E) fun x0 => (Approx.const _)) fun x1 => (Approx.ifd (Approx.const _) (Approx.bnd (Approx.bnd (fold_Fold_ca E) fun x2 => (Approx.const _)) fun x3 => (Approx.ifd (Approx.const _) (Approx.bnd (law1_FoldShortLines_L4_a E) (Approx.sum (fun y24 => (Approx.const _)) (fun y25 => (Approx.const _))))))))
theorem law1_FoldShortLines_of {a0 : List Int} {a1 : List Int} {y : Bool} (h : law1_FoldShortLines_B (pcL prog cfg) lpL a0 a1 = some y) : law1_FoldShortLines_c (pcL prog cfg) a0 a1 = some y := fn_of rfl (law1_FoldShortLines_eq a0 a1) (law1_FoldShortLines_ap (appN prog cfg) a0 a1) h

-- law1_UnfoldMatchesSpec, part 122
abbrev law1_UnfoldMatchesSpec_C1_D := (((List Int) × ((List Int) × (Unit × Unit))) × ((Int × (Int × Unit)) × Unit))
abbrev law1_UnfoldMatchesSpec_C1_X := ((Bool × Unit) × ((Int × (Int × Unit)) × Unit))
noncomputable def law1_UnfoldMatchesSpec_C1 (pc : PC prog) (lp : LP) (d : law1_UnfoldMatchesSpec_C1_D) : Option law1_UnfoldMatchesSpec_C1_X :=
  bnd (bnd (ref1_At_c pc 2 (-1)) fun (x6 : (Int × (Int × Unit))) =>
  some (x6.1, (x6.2.1, ()))) fun (x7 : (Int × (Int × Unit))) =>
  ifd (((d.2.1.1 == x7.1) && ((d.2.1.2.1 == x7.2.1) && true)) = true) (
    ifd (((d.2.1.1 == x7.1) && ((d.2.1.2.1 == x7.2.1) && true)) = true) (
      ifd ((d.1.1 == ([] : List Int)) = true) (
        ifd ((d.1.1 == ([] : List Int)) = true) (
          some (((d.1.2.1 == ([] : List Int)), ()), ((d.2.1.1, d.2.1.2.1, ()), ()))) (
          some ((false, ()), ((d.2.1.1, d.2.1.2.1, ()), ())))) (
        ifd ((d.1.1 == ([] : List Int)) = true) (
          none) (
          some ((false, ()), ((d.2.1.1, d.2.1.2.1, ()), ()))))) (
      some ((false, ()), ((d.2.1.1, d.2.1.2.1, ()), ())))) (
    ifd (((d.2.1.1 == x7.1) && ((d.2.1.2.1 == x7.2.1) && true)) = true) (
      none) (
      some ((false, ()), ((d.2.1.1, d.2.1.2.1, ()), ()))))
theorem law1_UnfoldMatchesSpec_C1_a (E : AppE prog pcN pc lN lp) {d : law1_UnfoldMatchesSpec_C1_D} : Approx (fun N => law1_UnfoldMatchesSpec_C1 (pcN N) (lN N) d) (law1_UnfoldMatchesSpec_C1 pc lp d) := by
  delta law1_UnfoldMatchesSpec_C1
  exact (Approx.bnd (Approx.bnd (ref1_At_ca E) fun x6 => (Approx.const _)) fun x7 => (Approx.ifd (Approx.ifd (Approx.ifd (Approx.ifd (Approx.const _) (Approx.const _)) (Approx.ifd Approx.none (Approx.const _))) (Approx.const _)) (Approx.ifd Approx.none (Approx.const _))))

-- law1_UnfoldMatchesSpec, part 8100
abbrev law1_UnfoldMatchesSpec_C2_D := (((List (List Int)) × ((List Int) × ((List Int) × (Unit × ((List Int) × (Int × Unit)))))) × ((Int × (Int × Unit)) × Unit))
abbrev law1_UnfoldMatchesSpec_C2_X := (((List (List Int)) × ((List Int) × ((List Int) × (Unit × ((List Int) × (Int × (Bool × Unit))))))) × ((Int × (Int × Unit)) × Unit))
noncomputable def law1_UnfoldMatchesSpec_C2 (pc : PC prog) (lp : LP) (d : law1_UnfoldMatchesSpec_C2_D) : Option law1_UnfoldMatchesSpec_C2_X :=
  ifd ((decide (d.1.2.2.2.2.2.1 > 0)) = true) (
    ifd ((decide (((0 : Int) ≤ d.1.2.2.2.2.2.1) ∧ (d.1.2.2.2.2.2.1 < (((List.length d.1.1) : Nat) : Int)))) = true) (
      ifd (((List.getD d.1.1 (Int.toNat d.1.2.2.2.2.2.1) ([] : List Int)) == ([] : List Int)) = true) (
        ifd ((decide (d.1.2.2.2.2.2.1 > 0)) = true) (
          ifd (((List.getD d.1.1 (Int.toNat d.1.2.2.2.2.2.1) ([] : List Int)) == ([] : List Int)) = true) (
            ifd ((decide (d.1.2.2.2.2.2.1 > 0)) = true) (
              some ((d.1.1, d.1.2.1, d.1.2.2.1, (), d.1.2.2.2.2.1, d.1.2.2.2.2.2.1, true, ()), ((d.2.1.1, d.2.1.2.1, ()), ()))) (
              some ((d.1.1, d.1.2.1, d.1.2.2.1, (), d.1.2.2.2.2.1, d.1.2.2.2.2.2.1, false, ()), ((d.2.1.1, d.2.1.2.1, ()), ())))) (
            ifd ((decide (d.1.2.2.2.2.2.1 > 0)) = true) (
              none) (
              some ((d.1.1, d.1.2.1, d.1.2.2.1, (), d.1.2.2.2.2.1, d.1.2.2.2.2.2.1, false, ()), ((d.2.1.1, d.2.1.2.1, ()), ()))))) (
          ifd ((decide (d.1.2.2.2.2.2.1 > 0)) = true) (
            none) (
            some ((d.1.1, d.1.2.1, d.1.2.2.1, (), d.1.2.2.2.2.1, d.1.2.2.2.2.2.1, false, ()), ((d.2.1.1, d.2.1.2.1, ()), ()))))) (
        ifd ((decide (((0 : Int) ≤ d.1.2.2.2.2.2.1) ∧ (d.1.2.2.2.2.2.1 < (((List.length d.1.1) : Nat) : Int)))) = true) (
          ifd ((decide (((0 : Int) ≤ 0) ∧ ((0 : Int) < (((List.length (List.getD d.1.1 (Int.toNat d.1.2.2.2.2.2.1) ([] : List Int))) : Nat) : Int)))) = true) (
            bnd (bnd (ref1_Blank_c pc (List.getD (List.getD d.1.1 (Int.toNat d.1.2.2.2.2.2.1) ([] : List Int)) (Int.toNat 0) 0)) fun (x13 : Bool) =>
            some x13) fun (x14 : Bool) =>
            ifd ((decide (d.1.2.2.2.2.2.1 > 0)) = true) (
              ifd (((List.getD d.1.1 (Int.toNat d.1.2.2.2.2.2.1) ([] : List Int)) == ([] : List Int)) = true) (
                ifd ((decide (d.1.2.2.2.2.2.1 > 0)) = true) (
                  some ((d.1.1, d.1.2.1, d.1.2.2.1, (), d.1.2.2.2.2.1, d.1.2.2.2.2.2.1, true, ()), ((d.2.1.1, d.2.1.2.1, ()), ()))) (
                  some ((d.1.1, d.1.2.1, d.1.2.2.1, (), d.1.2.2.2.2.1, d.1.2.2.2.2.2.1, false, ()), ((d.2.1.1, d.2.1.2.1, ()), ())))) (
                ifd ((decide (d.1.2.2.2.2.2.1 > 0)) = true) (
                  some ((d.1.1, d.1.2.1, d.1.2.2.1, (), d.1.2.2.2.2.1, d.1.2.2.2.2.2.1, (!x14), ()), ((d.2.1.1, d.2.1.2.1, ()), ()))) (
                  some ((d.1.1, d.1.2.1, d.1.2.2.1, (), d.1.2.2.2.2.1, d.1.2.2.2.2.2.1, false, ()), ((d.2.1.1, d.2.1.2.1, ()), ()))))) (
              ifd ((decide (d.1.2.2.2.2.2.1 > 0)) = true) (
                none) (
                some ((d.1.1, d.1.2.1, d.1.2.2.1, (), d.1.2.2.2.2.1, d.1.2.2.2.2.2.1, false, ()), ((d.2.1.1, d.2.1.2.1, ()), ()))))) (
            none)) (
          none))) (
      none)) (
    ifd ((decide (d.1.2.2.2.2.2.1 > 0)) = true) (
      none) (
      ifd ((decide (d.1.2.2.2.2.2.1 > 0)) = true) (
        none) (
        some ((d.1.1, d.1.2.1, d.1.2.2.1, (), d.1.2.2.2.2.1, d.1.2.2.2.2.2.1, false, ()), ((d.2.1.1, d.2.1.2.1, ()), ())))))
theorem law1_UnfoldMatchesSpec_C2_a (E : AppE prog pcN pc lN lp) {d : law1_UnfoldMatchesSpec_C2_D} : Approx (fun N => law1_UnfoldMatchesSpec_C2 (pcN N) (lN N) d) (law1_UnfoldMatchesSpec_C2 pc lp d) := by
  delta law1_UnfoldMatchesSpec_C2
  exact (Approx.ifd (Approx.ifd (Approx.ifd (Approx.ifd (Approx.ifd (Approx.ifd (Approx.const _) (Approx.const _)) (Approx.ifd Approx.none (Approx.const _))) (Approx.ifd Approx.none (Approx.const _))) (Approx.ifd (Approx.ifd (Approx.bnd (Approx.bnd (ref1_Blank_ca E) fun x13 => (Approx.const _)) fun x14 => (Approx.ifd (Approx.ifd (Approx.ifd (Approx.const _) (Approx.const _)) (Approx.ifd (Approx.const _) (Approx.const _))) (Approx.ifd Approx.none (Approx.const _)))) Approx.none) Approx.none)) Approx.none) (Approx.ifd Approx.none (Approx.ifd Approx.none (Approx.const _))))

-- law1_UnfoldMatchesSpec, loop 129610
abbrev law1_UnfoldMatchesSpec_L3_D := (((List (List Int)) × ((List Int) × ((List Int) × (Unit × ((List Int) × (Int × (Bool × (Int × Unit)))))))) × ((Int × (Int × Unit)) × Unit))
abbrev law1_UnfoldMatchesSpec_L3_X := (((List (List Int)) × ((List Int) × ((List Int) × (Unit × ((List Int) × (Int × (Bool × Unit))))))) × ((Int × (Int × Unit)) × Unit))
noncomputable def law1_UnfoldMatchesSpec_L3_R (pc : PC prog) (lp : LP) (ψ : law1_UnfoldMatchesSpec_L3_D → Option law1_UnfoldMatchesSpec_L3_X) (d : law1_UnfoldMatchesSpec_L3_D) : Option law1_UnfoldMatchesSpec_L3_X :=
  ifd ((decide (((0 : Int) ≤ d.1.2.2.2.2.2.1) ∧ (d.1.2.2.2.2.2.1 < (((List.length d.1.1) : Nat) : Int)))) = true) (
    ifd ((decide (d.1.2.2.2.2.2.2.2.1 < (((List.length (List.getD d.1.1 (Int.toNat d.1.2.2.2.2.2.1) ([] : List Int))) : Nat) : Int))) = true) (
      ifd (d.1.2.2.2.2.2.2.1 = true) (
        ifd (d.1.2.2.2.2.2.2.1 = true) (
          ψ ((d.1.1, d.1.2.1, d.1.2.2.1, (), d.1.2.2.2.2.1, d.1.2.2.2.2.2.1, true, (Go.IntKind.wrap .i64 (d.1.2.2.2.2.2.2.2.1 + 1)), ()), ((d.2.1.1, d.2.1.2.1, ()), ()))) (
          none)) (
        ifd ((decide (((0 : Int) ≤ d.1.2.2.2.2.2.1) ∧ (d.1.2.2.2.2.2.1 < (((List.length d.1.1) : Nat) : Int)))) = true) (
          ifd ((decide (((0 : Int) ≤ d.1.2.2.2.2.2.2.2.1) ∧ (d.1.2.2.2.2.2.2.2.1 < (((List.length (List.getD d.1.1 (Int.toNat d.1.2.2.2.2.2.1) ([] : List Int))) : Nat) : Int)))) = true) (
            bnd (bnd (ref1_OneOf_c pc (List.getD (List.getD d.1.1 (Int.toNat d.1.2.2.2.2.2.1) ([] : List Int)) (Int.toNat d.1.2.2.2.2.2.2.2.1) 0) ([13, 10, 0] : List Int)) fun (x18 : Bool) =>
            some x18) fun (x19 : Bool) =>
            ifd (d.1.2.2.2.2.2.2.1 = true) (
              ψ ((d.1.1, d.1.2.1, d.1.2.2.1, (), d.1.2.2.2.2.1, d.1.2.2.2.2.2.1, true, (Go.IntKind.wrap .i64 (d.1.2.2.2.2.2.2.2.1 + 1)), ()), ((d.2.1.1, d.2.1.2.1, ()), ()))) (
              ψ ((d.1.1, d.1.2.1, d.1.2.2.1, (), d.1.2.2.2.2.1, d.1.2.2.2.2.2.1, x19, (Go.IntKind.wrap .i64 (d.1.2.2.2.2.2.2.2.1 + 1)), ()), ((d.2.1.1, d.2.1.2.1, ()), ())))) (
            none)) (
          none))) (
      some ((d.1.1, d.1.2.1, d.1.2.2.1, (), d.1.2.2.2.2.1, d.1.2.2.2.2.2.1, d.1.2.2.2.2.2.2.1, ()), ((d.2.1.1, d.2.1.2.1, ()), ())))) (
    none)
noncomputable def law1_UnfoldMatchesSpec_L3 (pc : PC prog) (lp : LP) (d : law1_UnfoldMatchesSpec_L3_D) : Option law1_UnfoldMatchesSpec_L3_X := lp law1_UnfoldMatchesSpec_L3_D law1_UnfoldMatchesSpec_L3_X (law1_UnfoldMatchesSpec_L3_R pc lp) d
theorem law1_UnfoldMatchesSpec_L3_ap (E : AppE prog pcN pc lN lp) : ContR (fun N => law1_UnfoldMatchesSpec_L3_R (pcN N) (lN N)) (law1_UnfoldMatchesSpec_L3_R pc lp) := fun ψN ψ h d => by
  delta law1_UnfoldMatchesSpec_L3_R
  exact (Approx.ifd (Approx.ifd (Approx.ifd (Approx.ifd (h _) Approx.none) (Approx.ifd (Approx.ifd (Approx.bnd (Approx.bnd (ref1_OneOf_ca E) fun x18 => (Approx.const _)) fun x19 => (Approx.ifd (h _) (h _))) Approx.none) Approx.none)) (Approx.const _)) Approx.none)
theorem law1_UnfoldMatchesSpec_L3_a (E : AppE prog pcN pc lN lp) {d : law1_UnfoldMatchesSpec_L3_D} : Approx (fun N => law1_UnfoldMatchesSpec_L3 (pcN N) (lN N) d) (law1_UnfoldMatchesSpec_L3 pc lp d) := E.loop (law1_UnfoldMatchesSpec_L3_ap E) d
theorem law1_UnfoldMatchesSpec_L3_of {d : law1_UnfoldMatchesSpec_L3_D} {x : law1_UnfoldMatchesSpec_L3_X} (h : law1_UnfoldMatchesSpec_L3_R (pcL prog cfg) lpL (law1_UnfoldMatchesSpec_L3 (pcL prog cfg) lpL) d = some x) : law1_UnfoldMatchesSpec_L3 (pcL prog cfg) lpL d = some x := lpL_step (law1_UnfoldMatchesSpec_L3_ap (appL prog cfg)) h

-- law1_UnfoldMatchesSpec, loop 506
abbrev law1_UnfoldMatchesSpec_L4_D := (((List (List Int)) × ((List Int) × ((List Int) × (Unit × ((List Int) × (Int × Unit)))))) × ((Int × (Int × Unit)) × Unit))
abbrev law1_UnfoldMatchesSpec_L4_X := (((Bool × Unit) × ((Int × (Int × Unit)) × Unit)) ⊕ (((List Int) × ((List Int) × (Unit × ((List Int) × Unit)))) × ((Int × (Int × Unit)) × Unit)))
noncomputable def law1_UnfoldMatchesSpec_L4_R (pc : PC prog) (lp : LP) (ψ : law1_UnfoldMatchesSpec_L4_D → Option law1_UnfoldMatchesSpec_L4_X) (d : law1_UnfoldMatchesSpec_L4_D) : Option law1_UnfoldMatchesSpec_L4_X :=
  ifd ((decide (d.1.2.2.2.2.2.1 < (((List.length d.1.1) : Nat) : Int))) = true) (
    bnd (law1_UnfoldMatchesSpec_C2 pc lp ((d.1.1, d.1.2.1, d.1.2.2.1, (), d.1.2.2.2.2.1, d.1.2.2.2.2.2.1, ()), ((d.2.1.1, d.2.1.2.1, ()), ()))) (fun (y23 : (((List (List Int)) × ((List Int) × ((List Int) × (Unit × ((List Int) × (Int × (Bool × Unit))))))) × ((Int × (Int × Unit)) × Unit))) =>
    bnd (law1_UnfoldMatchesSpec_L3 pc lp ((y23.1.1, y23.1.2.1, y23.1.2.2.1, (), y23.1.2.2.2.2.1, y23.1.2.2.2.2.2.1, y23.1.2.2.2.2.2.2.1, 0, ()), ((y23.2.1.1, y23.2.1.2.1, ()), ()))) (fun (y24 : (((List (List Int)) × ((List Int) × ((List Int) × (Unit × ((List Int) × (Int × (Bool × Unit))))))) × ((Int × (Int × Unit)) × Unit))) =>
    ifd (y24.1.2.2.2.2.2.2.1 = true) (
      bnd (bnd (ref1_At_c pc 11 y24.1.2.2.2.2.2.1) fun (x25 : (Int × (Int × Unit))) =>
      some (x25.1, (x25.2.1, ()))) fun (x26 : (Int × (Int × Unit))) =>
      ifd (((y24.2.1.1 == x26.1) && ((y24.2.1.2.1 == x26.2.1) && true)) = true) (
        ifd (((y24.2.1.1 == x26.1) && ((y24.2.1.2.1 == x26.2.1) && true)) = true) (
          ifd ((y24.1.2.1 == ([] : List Int)) = true) (
            ifd ((y24.1.2.1 == ([] : List Int)) = true) (
              some (Sum.inl (((y24.1.2.2.1 == ([] : List Int)), ()), ((y24.2.1.1, y24.2.1.2.1, ()), ())))) (
              some (Sum.inl ((false, ()), ((y24.2.1.1, y24.2.1.2.1, ()), ()))))) (
            ifd ((y24.1.2.1 == ([] : List Int)) = true) (
              none) (
              some (Sum.inl ((false, ()), ((y24.2.1.1, y24.2.1.2.1, ()), ())))))) (
          some (Sum.inl ((false, ()), ((y24.2.1.1, y24.2.1.2.1, ()), ()))))) (
        ifd (((y24.2.1.1 == x26.1) && ((y24.2.1.2.1 == x26.2.1) && true)) = true) (
          none) (
          some (Sum.inl ((false, ()), ((y24.2.1.1, y24.2.1.2.1, ()), ())))))) (
      ifd ((decide (((0 : Int) ≤ y24.1.2.2.2.2.2.1) ∧ (y24.1.2.2.2.2.2.1 < (((List.length y24.1.1) : Nat) : Int)))) = true) (
        ifd ((decide (((List.length y24.1.2.2.2.2.1) + (List.length (List.getD y24.1.1 (Int.toNat y24.1.2.2.2.2.2.1) ([] : List Int)))) ≤ 9223372036854775807)) = true) (
          ψ ((y24.1.1, y24.1.2.1, y24.1.2.2.1, (), (y24.1.2.2.2.2.1 ++ (List.getD y24.1.1 (Int.toNat y24.1.2.2.2.2.2.1) ([] : List Int))), (Go.IntKind.wrap .i64 (y24.1.2.2.2.2.2.1 + 1)), ()), ((y24.2.1.1, y24.2.1.2.1, ()), ()))) (
          none)) (
        none))))) (
    some (Sum.inr ((d.1.2.1, d.1.2.2.1, (), d.1.2.2.2.2.1, ()), ((d.2.1.1, d.2.1.2.1, ()), ()))))
noncomputable def law1_UnfoldMatchesSpec_L4 (pc : PC prog) (lp : LP) (d : law1_UnfoldMatchesSpec_L4_D) : Option law1_UnfoldMatchesSpec_L4_X := lp law1_UnfoldMatchesSpec_L4_D law1_UnfoldMatchesSpec_L4_X (law1_UnfoldMatchesSpec_L4_R pc lp) d
theorem law1_UnfoldMatchesSpec_L4_ap (E : AppE prog pcN pc lN lp) : ContR (fun N => law1_UnfoldMatchesSpec_L4_R (pcN N) (lN N)) (law1_UnfoldMatchesSpec_L4_R pc lp) := fun ψN ψ h d => by
  delta law1_UnfoldMatchesSpec_L4_R
  exact (Approx.ifd (Approx.bnd (law1_UnfoldMatchesSpec_C2_a E) (fun y23 => (Approx.bnd (law1_UnfoldMatchesSpec_L3_a E) (fun y24 => (Approx.ifd (Approx.bnd (Approx.bnd (ref1_At_ca E) fun x25 => (Approx.const _)) fun x26 => (Approx.ifd (Approx.ifd (Approx.ifd (Approx.ifd (Approx.const _) (Approx.const _)) (Approx.ifd Approx.none (Approx.const _))) (Approx.const _)) (Approx.ifd Approx.none (Approx.const _)))) (Approx.ifd (Approx.ifd (h _) Approx.none) Approx.none)))))) (Approx.const _))
theorem law1_UnfoldMatchesSpec_L4_a (E : AppE prog pcN pc lN lp) {d : law1_UnfoldMatchesSpec_L4_D} : Approx (fun N => law1_UnfoldMatchesSpec_L4 (pcN N) (lN N) d) (law1_UnfoldMatchesSpec_L4 pc lp d) := E.loop (law1_UnfoldMatchesSpec_L4_ap E) d
theorem law1_UnfoldMatchesSpec_L4_of {d : law1_UnfoldMatchesSpec_L4_D} {x : law1_UnfoldMatchesSpec_L4_X} (h : law1_UnfoldMatchesSpec_L4_R (pcL prog cfg) lpL (law1_UnfoldMatchesSpec_L4 (pcL prog cfg) lpL) d = some x) : law1_UnfoldMatchesSpec_L4 (pcL prog cfg) lpL d = some x := lpL_step (law1_UnfoldMatchesSpec_L4_ap (appL prog cfg)) h

-- law1_UnfoldMatchesSpec, part 1018
abbrev law1_UnfoldMatchesSpec_C5_D := (((List Int) × ((List Int) × (Unit × Unit))) × ((Int × (Int × Unit)) × Unit))
abbrev law1_UnfoldMatchesSpec_C5_X := ((Bool × Unit) × ((Int × (Int × Unit)) × Unit))
noncomputable def law1_UnfoldMatchesSpec_C5 (pc : PC prog) (lp : LP) (d : law1_UnfoldMatchesSpec_C5_D) : Option law1_UnfoldMatchesSpec_C5_X :=
  bnd (bnd (ref1_At_c pc 1 (-1)) fun (x31 : (Int × (Int × Unit))) =>
  some (x31.1, (x31.2.1, ()))) fun (x32 : (Int × (Int × Unit))) =>
  ifd (((d.2.1.1 == x32.1) && ((d.2.1.2.1 == x32.2.1) && true)) = true) (
    ifd (((d.2.1.1 == x32.1) && ((d.2.1.2.1 == x32.2.1) && true)) = true) (
      ifd ((d.1.1 == ([] : List Int)) = true) (
        ifd ((d.1.1 == ([] : List Int)) = true) (
          some (((d.1.2.1 == ([] : List Int)), ()), ((d.2.1.1, d.2.1.2.1, ()), ()))) (
          some ((false, ()), ((d.2.1.1, d.2.1.2.1, ()), ())))) (
        ifd ((d.1.1 == ([] : List Int)) = true) (
          none) (
          some ((false, ()), ((d.2.1.1, d.2.1.2.1, ()), ()))))) (
      some ((false, ()), ((d.2.1.1, d.2.1.2.1, ()), ())))) (
    ifd (((d.2.1.1 == x32.1) && ((d.2.1.2.1 == x32.2.1) && true)) = true) (
      none) (
      some ((false, ()), ((d.2.1.1, d.2.1.2.1, ()), ()))))
theorem law1_UnfoldMatchesSpec_C5_a (E : AppE prog pcN pc lN lp) {d : law1_UnfoldMatchesSpec_C5_D} : Approx (fun N => law1_UnfoldMatchesSpec_C5 (pcN N) (lN N) d) (law1_UnfoldMatchesSpec_C5 pc lp d) := by
  delta law1_UnfoldMatchesSpec_C5
  exact (Approx.bnd (Approx.bnd (ref1_At_ca E) fun x31 => (Approx.const _)) fun x32 => (Approx.ifd (Approx.ifd (Approx.ifd (Approx.ifd (Approx.const _) (Approx.const _)) (Approx.ifd Approx.none (Approx.const _))) (Approx.const _)) (Approx.ifd Approx.none (Approx.const _))))

-- law1_UnfoldMatchesSpec, part 1022
abbrev law1_UnfoldMatchesSpec_C6_D := (((List Int) × ((List Int) × (Unit × ((List Int) × (Int × Unit))))) × ((Int × (Int × Unit)) × Unit))
abbrev law1_UnfoldMatchesSpec_C6_X := (((List Int) × ((List Int) × (Unit × ((List Int) × (Int × (Bool × Unit)))))) × ((Int × (Int × Unit)) × Unit))
noncomputable def law1_UnfoldMatchesSpec_C6 (pc : PC prog) (lp : LP) (d : law1_UnfoldMatchesSpec_C6_D) : Option law1_UnfoldMatchesSpec_C6_X :=
  ifd ((decide (d.1.2.2.2.2.1 < 0)) = true) (
    ifd ((decide (d.1.2.2.2.2.1 < 0)) = true) (
      some ((d.1.1, d.1.2.1, (), d.1.2.2.2.1, d.1.2.2.2.2.1, true, ()), ((d.2.1.1, d.2.1.2.1, ()), ()))) (
      none)) (
    ifd ((decide (((0 : Int) ≤ 0) ∧ (((0 : Int) ≤ d.1.2.2.2.2.1) ∧ (d.1.2.2.2.2.1 ≤ (((List.length d.1.2.2.2.1) : Nat) : Int))))) = true) (
      bnd (bnd (ref1_FieldName_c pc (List.drop (Int.toNat 0) (List.take (Int.toNat d.1.2.2.2.2.1) d.1.2.2.2.1))) fun (x38 : Bool) =>
      some x38) fun (x39 : Bool) =>
      ifd ((decide (d.1.2.2.2.2.1 < 0)) = true) (
        some ((d.1.1, d.1.2.1, (), d.1.2.2.2.1, d.1.2.2.2.2.1, true, ()), ((d.2.1.1, d.2.1.2.1, ()), ()))) (
        some ((d.1.1, d.1.2.1, (), d.1.2.2.2.1, d.1.2.2.2.2.1, (!x39), ()), ((d.2.1.1, d.2.1.2.1, ()), ())))) (
      none))
theorem law1_UnfoldMatchesSpec_C6_a (E : AppE prog pcN pc lN lp) {d : law1_UnfoldMatchesSpec_C6_D} : Approx (fun N => law1_UnfoldMatchesSpec_C6 (pcN N) (lN N) d) (law1_UnfoldMatchesSpec_C6 pc lp d) := by
  delta law1_UnfoldMatchesSpec_C6
  exact (Approx.ifd (Approx.ifd (Approx.const _) Approx.none) (Approx.ifd (Approx.bnd (Approx.bnd (ref1_FieldName_ca E) fun x38 => (Approx.const _)) fun x39 => (Approx.ifd (Approx.const _) (Approx.const _))) Approx.none))

-- law1_UnfoldMatchesSpec, part 4090
abbrev law1_UnfoldMatchesSpec_C7_D := (((List Int) × ((List Int) × (Unit × Unit))) × ((Int × (Int × Unit)) × Unit))
abbrev law1_UnfoldMatchesSpec_C7_X := ((Bool × Unit) × ((Int × (Int × Unit)) × Unit))
noncomputable def law1_UnfoldMatchesSpec_C7 (pc : PC prog) (lp : LP) (d : law1_UnfoldMatchesSpec_C7_D) : Option law1_UnfoldMatchesSpec_C7_X :=
  bnd (bnd (ref1_At_c pc 11 (-2)) fun (x43 : (Int × (Int × Unit))) =>
  some (x43.1, (x43.2.1, ()))) fun (x44 : (Int × (Int × Unit))) =>
  ifd (((d.2.1.1 == x44.1) && ((d.2.1.2.1 == x44.2.1) && true)) = true) (
    ifd (((d.2.1.1 == x44.1) && ((d.2.1.2.1 == x44.2.1) && true)) = true) (
      ifd ((d.1.1 == ([] : List Int)) = true) (
        ifd ((d.1.1 == ([] : List Int)) = true) (
          some (((d.1.2.1 == ([] : List Int)), ()), ((d.2.1.1, d.2.1.2.1, ()), ()))) (
          some ((false, ()), ((d.2.1.1, d.2.1.2.1, ()), ())))) (
        ifd ((d.1.1 == ([] : List Int)) = true) (
          none) (
          some ((false, ()), ((d.2.1.1, d.2.1.2.1, ()), ()))))) (
      some ((false, ()), ((d.2.1.1, d.2.1.2.1, ()), ())))) (
    ifd (((d.2.1.1 == x44.1) && ((d.2.1.2.1 == x44.2.1) && true)) = true) (
      none) (
      some ((false, ()), ((d.2.1.1, d.2.1.2.1, ()), ()))))
theorem law1_UnfoldMatchesSpec_C7_a (E : AppE prog pcN pc lN lp) {d : law1_UnfoldMatchesSpec_C7_D} : Approx (fun N => law1_UnfoldMatchesSpec_C7 (pcN N) (lN N) d) (law1_UnfoldMatchesSpec_C7 pc lp d) := by
  delta law1_UnfoldMatchesSpec_C7
  exact (Approx.bnd (Approx.bnd (ref1_At_ca E) fun x43 => (Approx.const _)) fun x44 => (Approx.ifd (Approx.ifd (Approx.ifd (Approx.ifd (Approx.const _) (Approx.const _)) (Approx.ifd Approx.none (Approx.const _))) (Approx.const _)) (Approx.ifd Approx.none (Approx.const _))))

-- law1_UnfoldMatchesSpec, part 16378
abbrev law1_UnfoldMatchesSpec_C8_D := (((List Int) × ((List Int) × (Unit × Unit))) × ((Int × (Int × Unit)) × Unit))
abbrev law1_UnfoldMatchesSpec_C8_X := ((Bool × Unit) × ((Int × (Int × Unit)) × Unit))
noncomputable def law1_UnfoldMatchesSpec_C8 (pc : PC prog) (lp : LP) (d : law1_UnfoldMatchesSpec_C8_D) : Option law1_UnfoldMatchesSpec_C8_X :=
  bnd (bnd (ref1_At_c pc 1 (-1)) fun (x50 : (Int × (Int × Unit))) =>
  some (x50.1, (x50.2.1, ()))) fun (x51 : (Int × (Int × Unit))) =>
  ifd (((d.2.1.1 == x51.1) && ((d.2.1.2.1 == x51.2.1) && true)) = true) (
    ifd (((d.2.1.1 == x51.1) && ((d.2.1.2.1 == x51.2.1) && true)) = true) (
      ifd ((d.1.1 == ([] : List Int)) = true) (
        ifd ((d.1.1 == ([] : List Int)) = true) (
          some (((d.1.2.1 == ([] : List Int)), ()), ((d.2.1.1, d.2.1.2.1, ()), ()))) (
          some ((false, ()), ((d.2.1.1, d.2.1.2.1, ()), ())))) (
        ifd ((d.1.1 == ([] : List Int)) = true) (
          none) (
          some ((false, ()), ((d.2.1.1, d.2.1.2.1, ()), ()))))) (
      some ((false, ()), ((d.2.1.1, d.2.1.2.1, ()), ())))) (
    ifd (((d.2.1.1 == x51.1) && ((d.2.1.2.1 == x51.2.1) && true)) = true) (
      none) (
      some ((false, ()), ((d.2.1.1, d.2.1.2.1, ()), ()))))
theorem law1_UnfoldMatchesSpec_C8_a (E : AppE prog pcN pc lN lp) {d : law1_UnfoldMatchesSpec_C8_D} : Approx (fun N => law1_UnfoldMatchesSpec_C8 (pcN N) (lN N) d) (law1_UnfoldMatchesSpec_C8 pc lp d) := by
  delta law1_UnfoldMatchesSpec_C8
  exact (Approx.bnd (Approx.bnd (ref1_At_ca E) fun x50 => (Approx.const _)) fun x51 => (Approx.ifd (Approx.ifd (Approx.ifd (Approx.ifd (Approx.const _) (Approx.const _)) (Approx.ifd Approx.none (Approx.const _))) (Approx.const _)) (Approx.ifd Approx.none (Approx.const _))))

noncomputable def law1_UnfoldMatchesSpec_B (pc : PC prog) (lp : LP) (a0 : List (List Int)) : Option Bool :=
  bnd (bnd (law1_foldExample_c pc ) fun (x0 : Bool) =>
  some x0) fun (x1 : Bool) =>
  ifd ((!x1) = true) (
    some false) (
    bnd (bnd (fold_Unfold_c pc a0) fun (x2 : ((List Int) × ((List Int) × ((Int × (Int × Unit)) × Unit)))) =>
    some (x2.1, (x2.2.1, ((x2.2.2.1.1, (x2.2.2.1.2.1, ())), ())))) fun (x3 : ((List Int) × ((List Int) × ((Int × (Int × Unit)) × Unit)))) =>
    ifd ((decide ((((List.length a0) : Nat) : Int) > 300)) = true) (
      bnd (law1_UnfoldMatchesSpec_C1 pc lp ((x3.1, x3.2.1, (), ()), ((x3.2.2.1.1, x3.2.2.1.2.1, ()), ()))) (fun (y8 : ((Bool × Unit) × ((Int × (Int × Unit)) × Unit))) =>
      some y8.1.1)) (
      bnd (law1_UnfoldMatchesSpec_L4 pc lp ((a0, x3.1, x3.2.1, (), ([] : List Int), 0, ()), ((x3.2.2.1.1, x3.2.2.1.2.1, ()), ()))) (Sum.elim (fun (y27 : ((Bool × Unit) × ((Int × (Int × Unit)) × Unit))) =>
      some y27.1.1) (fun (y28 : (((List Int) × ((List Int) × (Unit × ((List Int) × Unit)))) × ((Int × (Int × Unit)) × Unit))) =>
      ifd ((decide ((((List.length y28.1.2.2.2.1) : Nat) : Int) > 8000)) = true) (
        bnd (law1_UnfoldMatchesSpec_C5 pc lp ((y28.1.1, y28.1.2.1, (), ()), ((y28.2.1.1, y28.2.1.2.1, ()), ()))) (fun (y33 : ((Bool × Unit) × ((Int × (Int × Unit)) × Unit))) =>
        some y33.1.1)) (
        bnd (bnd (ref1_Find_c pc y28.1.2.2.2.1 ([58] : List Int) 0) fun (x34 : Int) =>
        some x34) fun (x35 : Int) =>
        bnd (law1_UnfoldMatchesSpec_C6 pc lp ((y28.1.1, y28.1.2.1, (), y28.1.2.2.2.1, x35, ()), ((y28.2.1.1, y28.2.1.2.1, ()), ()))) (fun (y40 : (((List Int) × ((List Int) × (Unit × ((List Int) × (Int × (Bool × Unit)))))) × ((Int × (Int × Unit)) × Unit))) =>
        ifd (y40.1.2.2.2.2.2.1 = true) (
          bnd (law1_UnfoldMatchesSpec_C7 pc lp ((y40.1.1, y40.1.2.1, (), ()), ((y40.2.1.1, y40.2.1.2.1, ()), ()))) (fun (y45 : ((Bool × Unit) × ((Int × (Int × Unit)) × Unit))) =>
          some y45.1.1)) (
          ifd ((decide (((0 : Int) ≤ (Go.IntKind.wrap .i64 (y40.1.2.2.2.2.1 + 1))) ∧ (((Go.IntKind.wrap .i64 (y40.1.2.2.2.2.1 + 1)) ≤ (((List.length y40.1.2.2.2.1) : Nat) : Int)) ∧ ((((List.length y40.1.2.2.2.1) : Nat) : Int) ≤ (((List.length y40.1.2.2.2.1) : Nat) : Int))))) = true) (
            bnd (bnd (ref1_Trim_c pc (List.drop (Int.toNat (Go.IntKind.wrap .i64 (y40.1.2.2.2.2.1 + 1))) (List.take (Int.toNat (((List.length y40.1.2.2.2.1) : Nat) : Int)) y40.1.2.2.2.1))) fun (x46 : (List Int)) =>
            some x46) fun (x47 : (List Int)) =>
            ifd ((decide ((((List.length x47) : Nat) : Int) > 4000)) = true) (
              bnd (law1_UnfoldMatchesSpec_C8 pc lp ((y40.1.1, y40.1.2.1, (), ()), ((y40.2.1.1, y40.2.1.2.1, ()), ()))) (fun (y52 : ((Bool × Unit) × ((Int × (Int × Unit)) × Unit))) =>
              some y52.1.1)) (
              ifd ((y40.2.1.1 == 0) = true) (
                ifd ((decide (((0 : Int) ≤ 0) ∧ (((0 : Int) ≤ y40.1.2.2.2.2.1) ∧ (y40.1.2.2.2.2.1 ≤ (((List.length y40.1.2.2.2.1) : Nat) : Int))))) = true) (
                  ifd ((y40.2.1.1 == 0) = true) (
                    ifd ((y40.1.1 == (List.drop (Int.toNat 0) (List.take (Int.toNat y40.1.2.2.2.2.1) y40.1.2.2.2.1))) = true) (
                      ifd ((y40.1.1 == (List.drop (Int.toNat 0) (List.take (Int.toNat y40.1.2.2.2.2.1) y40.1.2.2.2.1))) = true) (
                        some (y40.1.2.1 == x47)) (
                        some false)) (
                      ifd ((y40.1.1 == (List.drop (Int.toNat 0) (List.take (Int.toNat y40.1.2.2.2.2.1) y40.1.2.2.2.1))) = true) (
                        none) (
                        some false))) (
                    some false)) (
                  none)) (
                ifd ((y40.2.1.1 == 0) = true) (
                  none) (
                  some false)))) (
            none))))))))
theorem law1_UnfoldMatchesSpec_eq (a0 : List (List Int)) (pc : PC prog) (lp : LP) : got law1_UnfoldMatchesSpec_t (pcall prog (runO prog cfg (hand prog cfg lp pc 6 tbl 5) pc 6) 6 [(.c (.slice .ro .str a0))]) = law1_UnfoldMatchesSpec_B pc lp a0 := by kernel_rfl
theorem law1_UnfoldMatchesSpec_ap (E : AppE prog pcN pc lN lp) (a0 : List (List Int)) : Approx (fun N => law1_UnfoldMatchesSpec_B (pcN N) (lN N) a0) (law1_UnfoldMatchesSpec_B pc lp a0) := by
  delta law1_UnfoldMatchesSpec_B
  exact (Approx.bnd (Approx.bnd (law1_foldExample_ca E) fun x0 => (Approx.const _)) fun x1 => (Approx.ifd (Approx.const _) (Approx.bnd (Approx.bnd (fold_Unfold_ca E) fun x2 => (Approx.const _)) fun x3 => (Approx.ifd (Approx.bnd (law1_UnfoldMatchesSpec_C1_a E) (fun y8 => (Approx.const _))) (Approx.bnd (law1_UnfoldMatchesSpec_L4_a E) (Approx.sum (fun y27 => (Approx.const _)) (fun y28 => (Approx.ifd (Approx.bnd (law1_UnfoldMatchesSpec_C5_a E) (fun y33 => (Approx.const _))) (Approx.bnd (Approx.bnd (ref1_Find_ca E) fun x34 => (Approx.const _)) fun x35 => (Approx.bnd (law1_UnfoldMatchesSpec_C6_a E) (fun y40 => (Approx.ifd (Approx.bnd (law1_UnfoldMatchesSpec_C7_a E) (fun y45 => (Approx.const _))) (Approx.ifd (Approx.bnd (Approx.bnd (ref1_Trim_ca E) fun x46 => (Approx.const _)) fun x47 => (Approx.ifd (Approx.bnd (law1_UnfoldMatchesSpec_C8_a E) (fun y52 => (Approx.const _))) (Approx.ifd (Approx.ifd (Approx.ifd (Approx.ifd (Approx.ifd (Approx.const _) (Approx.const _)) (Approx.ifd Approx.none (Approx.const _))) (Approx.const _)) Approx.none) (Approx.ifd Approx.none (Approx.const _))))) Approx.none)))))))))))))
theorem law1_UnfoldMatchesSpec_of {a0 : List (List Int)} {y : Bool} (h : law1_UnfoldMatchesSpec_B (pcL prog cfg) lpL a0 = some y) : law1_UnfoldMatchesSpec_c (pcL prog cfg) a0 = some y := fn_of rfl (law1_UnfoldMatchesSpec_eq a0) (law1_UnfoldMatchesSpec_ap (appN prog cfg) a0) h

noncomputable def law1_foldExample_B (pc : PC prog) (lp : LP)  : Option Bool :=
  bnd (bnd (fold_Fold_c pc ([97] : List Int) ([98] : List Int)) fun (x0 : ((List (List Int)) × ((Int × (Int × Unit)) × Unit))) =>
  some (x0.1, ((x0.2.1.1, (x0.2.1.2.1, ())), ()))) fun (x1 : ((List (List Int)) × ((Int × (Int × Unit)) × Unit))) =>
  bnd (bnd (fold_Unfold_c pc ([([97, 58, 32, 98] : List Int), ([32, 99] : List Int)] : List (List Int))) fun (x2 : ((List Int) × ((List Int) × ((Int × (Int × Unit)) × Unit)))) =>
  some (x2.1, (x2.2.1, ((x2.2.2.1.1, (x2.2.2.1.2.1, ())), ())))) fun (x3 : ((List Int) × ((List Int) × ((Int × (Int × Unit)) × Unit)))) =>
  ifd ((x1.2.1.1 == 0) = true) (
    ifd ((x1.2.1.1 == 0) = true) (
      ifd ((x3.2.2.1.1 == 0) = true) (
        bnd (bnd (ref1_Strings_c pc x1.1 ([([97, 58, 32, 98] : List Int)] : List (List Int))) fun (x4 : Bool) =>
        some x4) fun (x5 : Bool) =>
        ifd ((x3.2.2.1.1 == 0) = true) (
          ifd (x5 = true) (
            ifd (x5 = true) (
              ifd ((x3.1 == ([97] : List Int)) = true) (
                ifd ((x3.1 == ([97] : List Int)) = true) (
                  some (x3.2.1 == ([98, 32, 99] : List Int))) (
                  some false)) (
                ifd ((x3.1 == ([97] : List Int)) = true) (
                  none) (
                  some false))) (
              some false)) (
            ifd (x5 = true) (
              none) (
              some false))) (
          some false)) (
        ifd ((x3.2.2.1.1 == 0) = true) (
          none) (
          some false))) (
      some false)) (
    ifd ((x1.2.1.1 == 0) = true) (
      none) (
      some false))
theorem law1_foldExample_eq  (pc : PC prog) (lp : LP) : got law1_foldExample_t (pcall prog (runO prog cfg (hand prog cfg lp pc 6 tbl 5) pc 6) 7 []) = law1_foldExample_B pc lp  := by kernel_rfl
theorem law1_foldExample_ap (E : AppE prog pcN pc lN lp)  : Approx (fun N => law1_foldExample_B (pcN N) (lN N) ) (law1_foldExample_B pc lp ) := by
  delta law1_foldExample_B
  exact (Approx.bnd (Approx.bnd (fold_Fold_ca E) fun x0 => (Approx.const _)) fun x1 => (Approx.bnd (Approx.bnd (fold_Unfold_ca E) fun x2 => (Approx.const _)) fun x3 => (Approx.ifd (Approx.ifd (Approx.ifd (Approx.bnd (Approx.bnd (ref1_Strings_ca E) fun x4 => (Approx.const _)) fun x5 => (Approx.ifd (Approx.ifd (Approx.ifd (Approx.ifd (Approx.ifd (Approx.const _) (Approx.const _)) (Approx.ifd Approx.none (Approx.const _))) (Approx.const _)) (Approx.ifd Approx.none (Approx.const _))) (Approx.const _))) (Approx.ifd Approx.none (Approx.const _))) (Approx.const _)) (Approx.ifd Approx.none (Approx.const _)))))
theorem law1_foldExample_of  {y : Bool} (h : law1_foldExample_B (pcL prog cfg) lpL  = some y) : law1_foldExample_c (pcL prog cfg)  = some y := fn_of rfl (law1_foldExample_eq ) (law1_foldExample_ap (appN prog cfg) ) h

-- fold_Fold, loop 122
abbrev fold_Fold_L1_D := ((Unit × ((List (List Int)) × ((List (List Int)) × (Int × (Int × Unit))))) × ((Int × (Int × Unit)) × Unit))
abbrev fold_Fold_L1_X := (((Unit × (Unit × Unit)) × ((Int × (Int × Unit)) × Unit)) ⊕ ((Unit × ((List (List Int)) × Unit)) × ((Int × (Int × Unit)) × Unit)))
noncomputable def fold_Fold_L1_R (pc : PC prog) (lp : LP) (ψ : fold_Fold_L1_D → Option fold_Fold_L1_X) (d : fold_Fold_L1_D) : Option fold_Fold_L1_X :=
  ifd ((decide (d.1.2.2.2.2.1 < d.1.2.2.2.1)) = true) (
    ifd ((decide (((0 : Int) ≤ d.1.2.2.2.2.1) ∧ (d.1.2.2.2.2.1 < (((List.length d.1.2.2.1) : Nat) : Int)))) = true) (
      ifd ((decide ((((List.length (List.getD d.1.2.2.1 (Int.toNat d.1.2.2.2.2.1) ([] : List Int))) : Nat) : Int) > 998)) = true) (
        some (Sum.inl (((), (), ()), ((1, d.1.2.2.2.2.1, ()), ())))) (
        ψ (((), d.1.2.1, d.1.2.2.1, d.1.2.2.2.1, (Go.IntKind.wrap .i64 (d.1.2.2.2.2.1 + 1)), ()), ((d.2.1.1, d.2.1.2.1, ()), ())))) (
      none)) (
    some (Sum.inr (((), d.1.2.1, ()), ((d.2.1.1, d.2.1.2.1, ()), ()))))
noncomputable def fold_Fold_L1 (pc : PC prog) (lp : LP) (d : fold_Fold_L1_D) : Option fold_Fold_L1_X := lp fold_Fold_L1_D fold_Fold_L1_X (fold_Fold_L1_R pc lp) d
theorem fold_Fold_L1_ap (E : AppE prog pcN pc lN lp) : ContR (fun N => fold_Fold_L1_R (pcN N) (lN N)) (fold_Fold_L1_R pc lp) := fun ψN ψ h d => by
  delta fold_Fold_L1_R
  exact (Approx.ifd (Approx.ifd (Approx.ifd (Approx.const _) (h _)) Approx.none) (Approx.const _))
theorem fold_Fold_L1_a (E : AppE prog pcN pc lN lp) {d : fold_Fold_L1_D} : Approx (fun N => fold_Fold_L1 (pcN N) (lN N) d) (fold_Fold_L1 pc lp d) := E.loop (fold_Fold_L1_ap E) d
theorem fold_Fold_L1_of {d : fold_Fold_L1_D} {x : fold_Fold_L1_X} (h : fold_Fold_L1_R (pcL prog cfg) lpL (fold_Fold_L1 (pcL prog cfg) lpL) d = some x) : fold_Fold_L1 (pcL prog cfg) lpL d = some x := lpL_step (fold_Fold_L1_ap (appL prog cfg)) h

noncomputable def fold_Fold_B (pc : PC prog) (lp : LP) (a0 : List Int) (a1 : List Int) : Option ((List (List Int)) × ((Int × (Int × Unit)) × Unit)) :=
  bnd (bnd (fold_Check_c pc a0 a1) fun (x0 : Int) =>
  some x0) fun (x1 : Int) =>
  ifd ((x1 != 0) = true) (
    some (([] : List (List Int)), ((x1, ((-1), ())), ()))) (
    bnd (bnd (fold_Lines_c pc a0 a1) fun (x2 : (List (List Int))) =>
    some x2) fun (x3 : (List (List Int))) =>
    bnd (fold_Fold_L1 pc lp (((), x3, x3, (((List.length x3) : Nat) : Int), 0, ()), ((0, 0, ()), ()))) (Sum.elim (fun (y4 : ((Unit × (Unit × Unit)) × ((Int × (Int × Unit)) × Unit))) =>
    some (([] : List (List Int)), ((y4.2.1.1, (y4.2.1.2.1, ())), ()))) (fun (y5 : ((Unit × ((List (List Int)) × Unit)) × ((Int × (Int × Unit)) × Unit))) =>
    some (y5.1.2.1, ((0, (0, ())), ())))))
theorem fold_Fold_eq (a0 : List Int) (a1 : List Int) (pc : PC prog) (lp : LP) : got fold_Fold_t (pcall prog (runO prog cfg (hand prog cfg lp pc 6 tbl 5) pc 6) 8 [(.c (.str a0)), (.c (.str a1))]) = fold_Fold_B pc lp a0 a1 := by kernel_rfl
theorem fold_Fold_ap (E : AppE prog pcN pc lN lp) (a0 : List Int) (a1 : List Int) : Approx (fun N => fold_Fold_B (pcN N) (lN N) a0 a1) (fold_Fold_B pc lp a0 a1) := by
  delta fold_Fold_B
  exact (Approx.bnd (Approx.bnd (fold_Check_ca E) fun x0 => (Approx.const _)) fun x1 => (Approx.ifd (Approx.const _) (Approx.bnd (Approx.bnd (fold_Lines_ca E) fun x2 => (Approx.const _)) fun x3 => (Approx.bnd (fold_Fold_L1_a E) (Approx.sum (fun y4 => (Approx.const _)) (fun y5 => (Approx.const _)))))))
theorem fold_Fold_of {a0 : List Int} {a1 : List Int} {y : ((List (List Int)) × ((Int × (Int × Unit)) × Unit))} (h : fold_Fold_B (pcL prog cfg) lpL a0 a1 = some y) : fold_Fold_c (pcL prog cfg) a0 a1 = some y := fn_of rfl (fold_Fold_eq a0 a1) (fold_Fold_ap (appN prog cfg) a0 a1) h

-- ref1_FoldFault, loop 122
abbrev ref1_FoldFault_L1_D := ((Unit × ((List (List Int)) × (Int × Unit))) × ((Int × (Int × Unit)) × Unit))
abbrev ref1_FoldFault_L1_X := (((Unit × Unit) × ((Int × (Int × Unit)) × Unit)) ⊕ ((Unit × Unit) × ((Int × (Int × Unit)) × Unit)))
noncomputable def ref1_FoldFault_L1_R (pc : PC prog) (lp : LP) (ψ : ref1_FoldFault_L1_D → Option ref1_FoldFault_L1_X) (d : ref1_FoldFault_L1_D) : Option ref1_FoldFault_L1_X :=
  ifd ((decide (d.1.2.2.1 < (((List.length d.1.2.1) : Nat) : Int))) = true) (
    ifd ((decide (((0 : Int) ≤ d.1.2.2.1) ∧ (d.1.2.2.1 < (((List.length d.1.2.1) : Nat) : Int)))) = true) (
      ifd ((decide ((((List.length (List.getD d.1.2.1 (Int.toNat d.1.2.2.1) ([] : List Int))) : Nat) : Int) > 998)) = true) (
        bnd (bnd (ref1_At_c pc 1 d.1.2.2.1) fun (x10 : (Int × (Int × Unit))) =>
        some (x10.1, (x10.2.1, ()))) fun (x11 : (Int × (Int × Unit))) =>
        some (Sum.inl (((), ()), ((x11.1, x11.2.1, ()), ())))) (
        ψ (((), d.1.2.1, (Go.IntKind.wrap .i64 (d.1.2.2.1 + 1)), ()), ((d.2.1.1, d.2.1.2.1, ()), ())))) (
      none)) (
    some (Sum.inr (((), ()), ((d.2.1.1, d.2.1.2.1, ()), ()))))
noncomputable def ref1_FoldFault_L1 (pc : PC prog) (lp : LP) (d : ref1_FoldFault_L1_D) : Option ref1_FoldFault_L1_X := lp ref1_FoldFault_L1_D ref1_FoldFault_L1_X (ref1_FoldFault_L1_R pc lp) d
theorem ref1_FoldFault_L1_ap (E : AppE prog pcN pc lN lp) : ContR (fun N => ref1_FoldFault_L1_R (pcN N) (lN N)) (ref1_FoldFault_L1_R pc lp) := fun ψN ψ h d => by
  delta ref1_FoldFault_L1_R
  exact (Approx.ifd (Approx.ifd (Approx.ifd (Approx.bnd (Approx.bnd (ref1_At_ca E) fun x10 => (Approx.const _)) fun x11 => (Approx.const _)) (h _)) Approx.none) (Approx.const _))
theorem ref1_FoldFault_L1_a (E : AppE prog pcN pc lN lp) {d : ref1_FoldFault_L1_D} : Approx (fun N => ref1_FoldFault_L1 (pcN N) (lN N) d) (ref1_FoldFault_L1 pc lp d) := E.loop (ref1_FoldFault_L1_ap E) d
theorem ref1_FoldFault_L1_of {d : ref1_FoldFault_L1_D} {x : ref1_FoldFault_L1_X} (h : ref1_FoldFault_L1_R (pcL prog cfg) lpL (ref1_FoldFault_L1 (pcL prog cfg) lpL) d = some x) : ref1_FoldFault_L1 (pcL prog cfg) lpL d = some x := lpL_step (ref1_FoldFault_L1_ap (appL prog cfg)) h

noncomputable def ref1_FoldFault_B (pc : PC prog) (lp : LP) (a0 : List Int) (a1 : List Int) : Option (Int × (Int × Unit)) :=
  bnd (bnd (ref1_FieldCode_c pc a0 a1) fun (x0 : Int) =>
  some x0) fun (x1 : Int) =>
  ifd ((x1 != 0) = true) (
    bnd (bnd (ref1_FieldCode_c pc a0 a1) fun (x2 : Int) =>
    some x2) fun (x3 : Int) =>
    bnd (bnd (ref1_At_c pc x3 (-1)) fun (x4 : (Int × (Int × Unit))) =>
    some (x4.1, (x4.2.1, ()))) fun (x5 : (Int × (Int × Unit))) =>
    some (x5.1, (x5.2.1, ()))) (
    bnd (bnd (ref1_Folded_c pc a0 a1) fun (x6 : (List (List Int))) =>
    some x6) fun (x7 : (List (List Int))) =>
    bnd (ref1_FoldFault_L1 pc lp (((), x7, 0, ()), ((0, 0, ()), ()))) (Sum.elim (fun (y12 : ((Unit × Unit) × ((Int × (Int × Unit)) × Unit))) =>
    some (y12.2.1.1, (y12.2.1.2.1, ()))) (fun (y13 : ((Unit × Unit) × ((Int × (Int × Unit)) × Unit))) =>
    some (0, (0, ())))))
theorem ref1_FoldFault_eq (a0 : List Int) (a1 : List Int) (pc : PC prog) (lp : LP) : got ref1_FoldFault_t (pcall prog (runO prog cfg (hand prog cfg lp pc 6 tbl 5) pc 6) 9 [(.c (.str a0)), (.c (.str a1))]) = ref1_FoldFault_B pc lp a0 a1 := by kernel_rfl
theorem ref1_FoldFault_ap (E : AppE prog pcN pc lN lp) (a0 : List Int) (a1 : List Int) : Approx (fun N => ref1_FoldFault_B (pcN N) (lN N) a0 a1) (ref1_FoldFault_B pc lp a0 a1) := by
  delta ref1_FoldFault_B
  exact (Approx.bnd (Approx.bnd (ref1_FieldCode_ca E) fun x0 => (Approx.const _)) fun x1 => (Approx.ifd (Approx.bnd (Approx.bnd (ref1_FieldCode_ca E) fun x2 => (Approx.const _)) fun x3 => (Approx.bnd (Approx.bnd (ref1_At_ca E) fun x4 => (Approx.const _)) fun x5 => (Approx.const _))) (Approx.bnd (Approx.bnd (ref1_Folded_ca E) fun x6 => (Approx.const _)) fun x7 => (Approx.bnd (ref1_FoldFault_L1_a E) (Approx.sum (fun y12 => (Approx.const _)) (fun y13 => (Approx.const _)))))))
theorem ref1_FoldFault_of {a0 : List Int} {a1 : List Int} {y : (Int × (Int × Unit))} (h : ref1_FoldFault_B (pcL prog cfg) lpL a0 a1 = some y) : ref1_FoldFault_c (pcL prog cfg) a0 a1 = some y := fn_of rfl (ref1_FoldFault_eq a0 a1) (ref1_FoldFault_ap (appN prog cfg) a0 a1) h

-- ref1_Folded, loop 122
abbrev ref1_Folded_L1_D := (((List Int) × ((List Int) × (Int × Unit))) × Unit)
abbrev ref1_Folded_L1_X := (((List Int) × ((List Int) × Unit)) × Unit)
noncomputable def ref1_Folded_L1_R (pc : PC prog) (lp : LP) (ψ : ref1_Folded_L1_D → Option ref1_Folded_L1_X) (d : ref1_Folded_L1_D) : Option ref1_Folded_L1_X :=
  ifd ((decide (d.1.2.2.1 < (((List.length d.1.1) : Nat) : Int))) = true) (
    ifd ((decide (((0 : Int) ≤ d.1.2.2.1) ∧ (d.1.2.2.1 < (((List.length d.1.1) : Nat) : Int)))) = true) (
      bnd (bnd (ref1_Blank_c pc (List.getD d.1.1 (Int.toNat d.1.2.2.1) 0)) fun (x12 : Bool) =>
      some x12) fun (x13 : Bool) =>
      ifd (x13 = true) (
        ifd ((decide (((0 : Int) ≤ (Go.IntKind.wrap .i64 (d.1.2.2.1 - 1))) ∧ ((Go.IntKind.wrap .i64 (d.1.2.2.1 - 1)) < (((List.length d.1.1) : Nat) : Int)))) = true) (
          bnd (bnd (ref1_Blank_c pc (List.getD d.1.1 (Int.toNat (Go.IntKind.wrap .i64 (d.1.2.2.1 - 1))) 0)) fun (x14 : Bool) =>
          some x14) fun (x15 : Bool) =>
          ifd (x13 = true) (
            ifd ((!x15) = true) (
              ifd ((decide ((((List.length d.1.2.1) + (List.length ([d.1.2.2.1] : List Int))) * 8) ≤ 140737488355328)) = true) (
                ψ ((d.1.1, (d.1.2.1 ++ ([d.1.2.2.1] : List Int)), (Go.IntKind.wrap .i64 (d.1.2.2.1 + 1)), ()), ())) (
                none)) (
              ψ ((d.1.1, d.1.2.1, (Go.IntKind.wrap .i64 (d.1.2.2.1 + 1)), ()), ()))) (
            ψ ((d.1.1, d.1.2.1, (Go.IntKind.wrap .i64 (d.1.2.2.1 + 1)), ()), ()))) (
          none)) (
        ifd (x13 = true) (
          none) (
          ψ ((d.1.1, d.1.2.1, (Go.IntKind.wrap .i64 (d.1.2.2.1 + 1)), ()), ())))) (
      none)) (
    some ((d.1.1, d.1.2.1, ()), ()))
noncomputable def ref1_Folded_L1 (pc : PC prog) (lp : LP) (d : ref1_Folded_L1_D) : Option ref1_Folded_L1_X := lp ref1_Folded_L1_D ref1_Folded_L1_X (ref1_Folded_L1_R pc lp) d
theorem ref1_Folded_L1_ap (E : AppE prog pcN pc lN lp) : ContR (fun N => ref1_Folded_L1_R (pcN N) (lN N)) (ref1_Folded_L1_R pc lp) := fun ψN ψ h d => by
  delta ref1_Folded_L1_R
  exact (Approx.ifd (Approx.ifd (Approx.bnd (Approx.bnd (ref1_Blank_ca E) fun x12 => (Approx.const _)) fun x13 => (Approx.ifd (Approx.ifd (Approx.bnd (Approx.bnd (ref1_Blank_ca E) fun x14 => (Approx.const _)) fun x15 => (Approx.ifd (Approx.ifd (Approx.ifd (h _) Approx.none) (h _)) (h _))) Approx.none) (Approx.ifd Approx.none (h _)))) Approx.none) (Approx.const _))
theorem ref1_Folded_L1_a (E : AppE prog pcN pc lN lp) {d : ref1_Folded_L1_D} : Approx (fun N => ref1_Folded_L1 (pcN N) (lN N) d) (ref1_Folded_L1 pc lp d) := E.loop (ref1_Folded_L1_ap E) d
theorem ref1_Folded_L1_of {d : ref1_Folded_L1_D} {x : ref1_Folded_L1_X} (h : ref1_Folded_L1_R (pcL prog cfg) lpL (ref1_Folded_L1 (pcL prog cfg) lpL) d = some x) : ref1_Folded_L1 (pcL prog cfg) lpL d = some x := lpL_step (ref1_Folded_L1_ap (appL prog cfg)) h

-- ref1_Folded, loop 65066
abbrev ref1_Folded_L2_D := (((List Int) × ((List Int) × (Unit × (Int × (Int × (Int × Unit)))))) × Unit)
abbrev ref1_Folded_L2_X := (((List Int) × ((List Int) × (Unit × (Int × (Int × Unit))))) × Unit)
noncomputable def ref1_Folded_L2_R (pc : PC prog) (lp : LP) (ψ : ref1_Folded_L2_D → Option ref1_Folded_L2_X) (d : ref1_Folded_L2_D) : Option ref1_Folded_L2_X :=
  ifd ((decide (d.1.2.2.2.2.2.1 < (((List.length d.1.2.1) : Nat) : Int))) = true) (
    ifd ((decide (((0 : Int) ≤ d.1.2.2.2.2.2.1) ∧ (d.1.2.2.2.2.2.1 < (((List.length d.1.2.1) : Nat) : Int)))) = true) (
      ifd ((decide ((List.getD d.1.2.1 (Int.toNat d.1.2.2.2.2.2.1) 0) > d.1.2.2.2.1)) = true) (
        ifd ((decide ((Go.IntKind.wrap .i64 ((List.getD d.1.2.1 (Int.toNat d.1.2.2.2.2.2.1) 0) - d.1.2.2.2.1)) ≤ 78)) = true) (
          ifd ((decide ((List.getD d.1.2.1 (Int.toNat d.1.2.2.2.2.2.1) 0) > d.1.2.2.2.1)) = true) (
            ifd ((decide ((Go.IntKind.wrap .i64 ((List.getD d.1.2.1 (Int.toNat d.1.2.2.2.2.2.1) 0) - d.1.2.2.2.1)) ≤ 78)) = true) (
              ifd ((decide ((List.getD d.1.2.1 (Int.toNat d.1.2.2.2.2.2.1) 0) > d.1.2.2.2.1)) = true) (
                ψ ((d.1.1, d.1.2.1, (), d.1.2.2.2.1, (List.getD d.1.2.1 (Int.toNat d.1.2.2.2.2.2.1) 0), (Go.IntKind.wrap .i64 (d.1.2.2.2.2.2.1 + 1)), ()), ())) (
                ψ ((d.1.1, d.1.2.1, (), d.1.2.2.2.1, d.1.2.2.2.2.1, (Go.IntKind.wrap .i64 (d.1.2.2.2.2.2.1 + 1)), ()), ()))) (
              ifd ((decide ((List.getD d.1.2.1 (Int.toNat d.1.2.2.2.2.2.1) 0) > d.1.2.2.2.1)) = true) (
                none) (
                ψ ((d.1.1, d.1.2.1, (), d.1.2.2.2.1, d.1.2.2.2.2.1, (Go.IntKind.wrap .i64 (d.1.2.2.2.2.2.1 + 1)), ()), ())))) (
            ifd ((decide ((List.getD d.1.2.1 (Int.toNat d.1.2.2.2.2.2.1) 0) > d.1.2.2.2.1)) = true) (
              none) (
              ψ ((d.1.1, d.1.2.1, (), d.1.2.2.2.1, d.1.2.2.2.2.1, (Go.IntKind.wrap .i64 (d.1.2.2.2.2.2.1 + 1)), ()), ())))) (
          ifd ((decide ((List.getD d.1.2.1 (Int.toNat d.1.2.2.2.2.2.1) 0) > d.1.2.2.2.1)) = true) (
            ifd ((decide ((Go.IntKind.wrap .i64 ((List.getD d.1.2.1 (Int.toNat d.1.2.2.2.2.2.1) 0) - d.1.2.2.2.1)) ≤ 78)) = true) (
              ifd ((decide ((List.getD d.1.2.1 (Int.toNat d.1.2.2.2.2.2.1) 0) > d.1.2.2.2.1)) = true) (
                ψ ((d.1.1, d.1.2.1, (), d.1.2.2.2.1, (List.getD d.1.2.1 (Int.toNat d.1.2.2.2.2.2.1) 0), (Go.IntKind.wrap .i64 (d.1.2.2.2.2.2.1 + 1)), ()), ())) (
                ψ ((d.1.1, d.1.2.1, (), d.1.2.2.2.1, d.1.2.2.2.2.1, (Go.IntKind.wrap .i64 (d.1.2.2.2.2.2.1 + 1)), ()), ()))) (
              ifd ((decide ((List.getD d.1.2.1 (Int.toNat d.1.2.2.2.2.2.1) 0) > d.1.2.2.2.1)) = true) (
                ifd ((decide (d.1.2.2.2.2.1 < 0)) = true) (
                  ψ ((d.1.1, d.1.2.1, (), d.1.2.2.2.1, (List.getD d.1.2.1 (Int.toNat d.1.2.2.2.2.2.1) 0), (Go.IntKind.wrap .i64 (d.1.2.2.2.2.2.1 + 1)), ()), ())) (
                  ψ ((d.1.1, d.1.2.1, (), d.1.2.2.2.1, d.1.2.2.2.2.1, (Go.IntKind.wrap .i64 (d.1.2.2.2.2.2.1 + 1)), ()), ()))) (
                ψ ((d.1.1, d.1.2.1, (), d.1.2.2.2.1, d.1.2.2.2.2.1, (Go.IntKind.wrap .i64 (d.1.2.2.2.2.2.1 + 1)), ()), ())))) (
            ifd ((decide ((List.getD d.1.2.1 (Int.toNat d.1.2.2.2.2.2.1) 0) > d.1.2.2.2.1)) = true) (
              none) (
              ψ ((d.1.1, d.1.2.1, (), d.1.2.2.2.1, d.1.2.2.2.2.1, (Go.IntKind.wrap .i64 (d.1.2.2.2.2.2.1 + 1)), ()), ()))))) (
        ifd ((decide ((List.getD d.1.2.1 (Int.toNat d.1.2.2.2.2.2.1) 0) > d.1.2.2.2.1)) = true) (
          none) (
          ifd ((decide ((List.getD d.1.2.1 (Int.toNat d.1.2.2.2.2.2.1) 0) > d.1.2.2.2.1)) = true) (
            none) (
            ψ ((d.1.1, d.1.2.1, (), d.1.2.2.2.1, d.1.2.2.2.2.1, (Go.IntKind.wrap .i64 (d.1.2.2.2.2.2.1 + 1)), ()), ()))))) (
      none)) (
    some ((d.1.1, d.1.2.1, (), d.1.2.2.2.1, d.1.2.2.2.2.1, ()), ()))
noncomputable def ref1_Folded_L2 (pc : PC prog) (lp : LP) (d : ref1_Folded_L2_D) : Option ref1_Folded_L2_X := lp ref1_Folded_L2_D ref1_Folded_L2_X (ref1_Folded_L2_R pc lp) d
theorem ref1_Folded_L2_ap (E : AppE prog pcN pc lN lp) : ContR (fun N => ref1_Folded_L2_R (pcN N) (lN N)) (ref1_Folded_L2_R pc lp) := fun ψN ψ h d => by
  delta ref1_Folded_L2_R
  exact (Approx.ifd (Approx.ifd (Approx.ifd (Approx.ifd (Approx.ifd (Approx.ifd (Approx.ifd (h _) (h _)) (Approx.ifd Approx.none (h _))) (Approx.ifd Approx.none (h _))) (Approx.ifd (Approx.ifd (Approx.ifd (h _) (h _)) (Approx.ifd (Approx.ifd (h _) (h _)) (h _))) (Approx.ifd Approx.none (h _)))) (Approx.ifd Approx.none (Approx.ifd Approx.none (h _)))) Approx.none) (Approx.const _))
theorem ref1_Folded_L2_a (E : AppE prog pcN pc lN lp) {d : ref1_Folded_L2_D} : Approx (fun N => ref1_Folded_L2 (pcN N) (lN N) d) (ref1_Folded_L2 pc lp d) := E.loop (ref1_Folded_L2_ap E) d
theorem ref1_Folded_L2_of {d : ref1_Folded_L2_D} {x : ref1_Folded_L2_X} (h : ref1_Folded_L2_R (pcL prog cfg) lpL (ref1_Folded_L2 (pcL prog cfg) lpL) d = some x) : ref1_Folded_L2 (pcL prog cfg) lpL d = some x := lpL_step (ref1_Folded_L2_ap (appL prog cfg)) h

-- ref1_Folded, loop 65066
abbrev ref1_Folded_L3_D := (((List Int) × ((List Int) × ((List (List Int)) × (Int × (Int × (Int × Unit)))))) × Unit)
abbrev ref1_Folded_L3_X := (((List Int) × ((List Int) × ((List (List Int)) × (Int × (Int × Unit))))) × Unit)
noncomputable def ref1_Folded_L3_R (pc : PC prog) (lp : LP) (ψ : ref1_Folded_L3_D → Option ref1_Folded_L3_X) (d : ref1_Folded_L3_D) : Option ref1_Folded_L3_X :=
  ifd ((decide (d.1.2.2.2.2.2.1 < (((List.length d.1.2.1) : Nat) : Int))) = true) (
    ifd ((decide (((0 : Int) ≤ d.1.2.2.2.2.2.1) ∧ (d.1.2.2.2.2.2.1 < (((List.length d.1.2.1) : Nat) : Int)))) = true) (
      ifd ((decide ((List.getD d.1.2.1 (Int.toNat d.1.2.2.2.2.2.1) 0) > d.1.2.2.2.1)) = true) (
        ifd ((decide ((Go.IntKind.wrap .i64 ((List.getD d.1.2.1 (Int.toNat d.1.2.2.2.2.2.1) 0) - d.1.2.2.2.1)) ≤ 78)) = true) (
          ifd ((decide ((List.getD d.1.2.1 (Int.toNat d.1.2.2.2.2.2.1) 0) > d.1.2.2.2.1)) = true) (
            ifd ((decide ((Go.IntKind.wrap .i64 ((List.getD d.1.2.1 (Int.toNat d.1.2.2.2.2.2.1) 0) - d.1.2.2.2.1)) ≤ 78)) = true) (
              ifd ((decide ((List.getD d.1.2.1 (Int.toNat d.1.2.2.2.2.2.1) 0) > d.1.2.2.2.1)) = true) (
                ψ ((d.1.1, d.1.2.1, d.1.2.2.1, d.1.2.2.2.1, (List.getD d.1.2.1 (Int.toNat d.1.2.2.2.2.2.1) 0), (Go.IntKind.wrap .i64 (d.1.2.2.2.2.2.1 + 1)), ()), ())) (
                ψ ((d.1.1, d.1.2.1, d.1.2.2.1, d.1.2.2.2.1, d.1.2.2.2.2.1, (Go.IntKind.wrap .i64 (d.1.2.2.2.2.2.1 + 1)), ()), ()))) (
              ifd ((decide ((List.getD d.1.2.1 (Int.toNat d.1.2.2.2.2.2.1) 0) > d.1.2.2.2.1)) = true) (
                none) (
                ψ ((d.1.1, d.1.2.1, d.1.2.2.1, d.1.2.2.2.1, d.1.2.2.2.2.1, (Go.IntKind.wrap .i64 (d.1.2.2.2.2.2.1 + 1)), ()), ())))) (
            ifd ((decide ((List.getD d.1.2.1 (Int.toNat d.1.2.2.2.2.2.1) 0) > d.1.2.2.2.1)) = true) (
              none) (
              ψ ((d.1.1, d.1.2.1, d.1.2.2.1, d.1.2.2.2.1, d.1.2.2.2.2.1, (Go.IntKind.wrap .i64 (d.1.2.2.2.2.2.1 + 1)), ()), ())))) (
          ifd ((decide ((List.getD d.1.2.1 (Int.toNat d.1.2.2.2.2.2.1) 0) > d.1.2.2.2.1)) = true) (
            ifd ((decide ((Go.IntKind.wrap .i64 ((List.getD d.1.2.1 (Int.toNat d.1.2.2.2.2.2.1) 0) - d.1.2.2.2.1)) ≤ 78)) = true) (
              ifd ((decide ((List.getD d.1.2.1 (Int.toNat d.1.2.2.2.2.2.1) 0) > d.1.2.2.2.1)) = true) (
                ψ ((d.1.1, d.1.2.1, d.1.2.2.1, d.1.2.2.2.1, (List.getD d.1.2.1 (Int.toNat d.1.2.2.2.2.2.1) 0), (Go.IntKind.wrap .i64 (d.1.2.2.2.2.2.1 + 1)), ()), ())) (
                ψ ((d.1.1, d.1.2.1, d.1.2.2.1, d.1.2.2.2.1, d.1.2.2.2.2.1, (Go.IntKind.wrap .i64 (d.1.2.2.2.2.2.1 + 1)), ()), ()))) (
              ifd ((decide ((List.getD d.1.2.1 (Int.toNat d.1.2.2.2.2.2.1) 0) > d.1.2.2.2.1)) = true) (
                ifd ((decide (d.1.2.2.2.2.1 < 0)) = true) (
                  ψ ((d.1.1, d.1.2.1, d.1.2.2.1, d.1.2.2.2.1, (List.getD d.1.2.1 (Int.toNat d.1.2.2.2.2.2.1) 0), (Go.IntKind.wrap .i64 (d.1.2.2.2.2.2.1 + 1)), ()), ())) (
                  ψ ((d.1.1, d.1.2.1, d.1.2.2.1, d.1.2.2.2.1, d.1.2.2.2.2.1, (Go.IntKind.wrap .i64 (d.1.2.2.2.2.2.1 + 1)), ()), ()))) (
                ψ ((d.1.1, d.1.2.1, d.1.2.2.1, d.1.2.2.2.1, d.1.2.2.2.2.1, (Go.IntKind.wrap .i64 (d.1.2.2.2.2.2.1 + 1)), ()), ())))) (
            ifd ((decide ((List.getD d.1.2.1 (Int.toNat d.1.2.2.2.2.2.1) 0) > d.1.2.2.2.1)) = true) (
              none) (
              ψ ((d.1.1, d.1.2.1, d.1.2.2.1, d.1.2.2.2.1, d.1.2.2.2.2.1, (Go.IntKind.wrap .i64 (d.1.2.2.2.2.2.1 + 1)), ()), ()))))) (
        ifd ((decide ((List.getD d.1.2.1 (Int.toNat d.1.2.2.2.2.2.1) 0) > d.1.2.2.2.1)) = true) (
          none) (
          ifd ((decide ((List.getD d.1.2.1 (Int.toNat d.1.2.2.2.2.2.1) 0) > d.1.2.2.2.1)) = true) (
            none) (
            ψ ((d.1.1, d.1.2.1, d.1.2.2.1, d.1.2.2.2.1, d.1.2.2.2.2.1, (Go.IntKind.wrap .i64 (d.1.2.2.2.2.2.1 + 1)), ()), ()))))) (
      none)) (
    some ((d.1.1, d.1.2.1, d.1.2.2.1, d.1.2.2.2.1, d.1.2.2.2.2.1, ()), ()))
noncomputable def ref1_Folded_L3 (pc : PC prog) (lp : LP) (d : ref1_Folded_L3_D) : Option ref1_Folded_L3_X := lp ref1_Folded_L3_D ref1_Folded_L3_X (ref1_Folded_L3_R pc lp) d
theorem ref1_Folded_L3_ap (E : AppE prog pcN pc lN lp) : ContR (fun N => ref1_Folded_L3_R (pcN N) (lN N)) (ref1_Folded_L3_R pc lp) := fun ψN ψ h d => by
  delta ref1_Folded_L3_R
  exact (Approx.ifd (Approx.ifd (Approx.ifd (Approx.ifd (Approx.ifd (Approx.ifd (Approx.ifd (h _) (h _)) (Approx.ifd Approx.none (h _))) (Approx.ifd Approx.none (h _))) (Approx.ifd (Approx.ifd (Approx.ifd (h _) (h _)) (Approx.ifd (Approx.ifd (h _) (h _)) (h _))) (Approx.ifd Approx.none (h _)))) (Approx.ifd Approx.none (Approx.ifd Approx.none (h _)))) Approx.none) (Approx.const _))
theorem ref1_Folded_L3_a (E : AppE prog pcN pc lN lp) {d : ref1_Folded_L3_D} : Approx (fun N => ref1_Folded_L3 (pcN N) (lN N) d) (ref1_Folded_L3 pc lp d) := E.loop (ref1_Folded_L3_ap E) d
theorem ref1_Folded_L3_of {d : ref1_Folded_L3_D} {x : ref1_Folded_L3_X} (h : ref1_Folded_L3_R (pcL prog cfg) lpL (ref1_Folded_L3 (pcL prog cfg) lpL) d = some x) : ref1_Folded_L3 (pcL prog cfg) lpL d = some x := lpL_step (ref1_Folded_L3_ap (appL prog cfg)) h

-- ref1_Folded, loop 508
abbrev ref1_Folded_L4_D := (((List Int) × ((List Int) × ((List (List Int)) × (Int × Unit)))) × Unit)
abbrev ref1_Folded_L4_X := (((List Int) × ((List (List Int)) × (Int × Unit))) × Unit)
noncomputable def ref1_Folded_L4_R (pc : PC prog) (lp : LP) (ψ : ref1_Folded_L4_D → Option ref1_Folded_L4_X) (d : ref1_Folded_L4_D) : Option ref1_Folded_L4_X :=
  ifd ((decide ((Go.IntKind.wrap .i64 ((((List.length d.1.1) : Nat) : Int) - d.1.2.2.2.1)) > 78)) = true) (
    bnd (ref1_Folded_L3 pc lp ((d.1.1, d.1.2.1, d.1.2.2.1, d.1.2.2.2.1, (-1), 0, ()), ())) (fun (y19 : (((List Int) × ((List Int) × ((List (List Int)) × (Int × (Int × Unit))))) × Unit)) =>
    ifd ((decide (y19.1.2.2.2.2.1 < 0)) = true) (
      some ((y19.1.1, y19.1.2.2.1, y19.1.2.2.2.1, ()), ())) (
      ifd ((decide (((0 : Int) ≤ y19.1.2.2.2.1) ∧ ((y19.1.2.2.2.1 ≤ y19.1.2.2.2.2.1) ∧ (y19.1.2.2.2.2.1 ≤ (((List.length y19.1.1) : Nat) : Int))))) = true) (
        ifd ((decide ((((List.length y19.1.2.2.1) + (List.length ([(List.drop (Int.toNat y19.1.2.2.2.1) (List.take (Int.toNat y19.1.2.2.2.2.1) y19.1.1))] : List (List Int)))) * 16) ≤ 140737488355328)) = true) (
          ψ ((y19.1.1, y19.1.2.1, (y19.1.2.2.1 ++ ([(List.drop (Int.toNat y19.1.2.2.2.1) (List.take (Int.toNat y19.1.2.2.2.2.1) y19.1.1))] : List (List Int))), y19.1.2.2.2.2.1, ()), ())) (
          none)) (
        none)))) (
    some ((d.1.1, d.1.2.2.1, d.1.2.2.2.1, ()), ()))
noncomputable def ref1_Folded_L4 (pc : PC prog) (lp : LP) (d : ref1_Folded_L4_D) : Option ref1_Folded_L4_X := lp ref1_Folded_L4_D ref1_Folded_L4_X (ref1_Folded_L4_R pc lp) d
theorem ref1_Folded_L4_ap (E : AppE prog pcN pc lN lp) : ContR (fun N => ref1_Folded_L4_R (pcN N) (lN N)) (ref1_Folded_L4_R pc lp) := fun ψN ψ h d => by
  delta ref1_Folded_L4_R
  exact (Approx.ifd (Approx.bnd (ref1_Folded_L3_a E) (fun y19 => (Approx.ifd (Approx.const _) (Approx.ifd (Approx.ifd (h _) Approx.none) Approx.none)))) (Approx.const _))
theorem ref1_Folded_L4_a (E : AppE prog pcN pc lN lp) {d : ref1_Folded_L4_D} : Approx (fun N => ref1_Folded_L4 (pcN N) (lN N) d) (ref1_Folded_L4 pc lp d) := E.loop (ref1_Folded_L4_ap E) d
theorem ref1_Folded_L4_of {d : ref1_Folded_L4_D} {x : ref1_Folded_L4_X} (h : ref1_Folded_L4_R (pcL prog cfg) lpL (ref1_Folded_L4 (pcL prog cfg) lpL) d = some x) : ref1_Folded_L4 (pcL prog cfg) lpL d = some x := lpL_step (ref1_Folded_L4_ap (appL prog cfg)) h

noncomputable def ref1_Folded_B (pc : PC prog) (lp : LP) (a0 : List Int) (a1 : List Int) : Option (List (List Int)) :=
  ifd ((decide (((List.length a0) + (List.length ([58, 32] : List Int))) ≤ 9223372036854775807)) = true) (
    ifd ((decide (((List.length (a0 ++ ([58, 32] : List Int))) + (List.length a1)) ≤ 9223372036854775807)) = true) (
      bnd (ref1_Folded_L1 pc lp ((((a0 ++ ([58, 32] : List Int)) ++ a1), ([] : List Int), (Go.IntKind.wrap .i64 ((((List.length a0) : Nat) : Int) + 3)), ()), ())) (fun (y16 : (((List Int) × ((List Int) × Unit)) × Unit)) =>
      bnd (ref1_Folded_L4 pc lp ((y16.1.1, y16.1.2.1, ([] : List (List Int)), 0, ()), ())) (fun (y20 : (((List Int) × ((List (List Int)) × (Int × Unit))) × Unit)) =>
      ifd ((decide (((0 : Int) ≤ y20.1.2.2.1) ∧ ((y20.1.2.2.1 ≤ (((List.length y20.1.1) : Nat) : Int)) ∧ ((((List.length y20.1.1) : Nat) : Int) ≤ (((List.length y20.1.1) : Nat) : Int))))) = true) (
        ifd ((decide ((((List.length y20.1.2.1) + (List.length ([(List.drop (Int.toNat y20.1.2.2.1) (List.take (Int.toNat (((List.length y20.1.1) : Nat) : Int)) y20.1.1))] : List (List Int)))) * 16) ≤ 140737488355328)) = true) (
          some (y20.1.2.1 ++ ([(List.drop (Int.toNat y20.1.2.2.1) (List.take (Int.toNat (((List.length y20.1.1) : Nat) : Int)) y20.1.1))] : List (List Int)))) (
          none)) (
        none)))) (
      none)) (
    none)
theorem ref1_Folded_eq (a0 : List Int) (a1 : List Int) (pc : PC prog) (lp : LP) : got ref1_Folded_t (pcall prog (runO prog cfg (hand prog cfg lp pc 6 tbl 5) pc 6) 11 [(.c (.str a0)), (.c (.str a1))]) = ref1_Folded_B pc lp a0 a1 := by kernel_rfl
theorem ref1_Folded_ap (E : AppE prog pcN pc lN lp) (a0 : List Int) (a1 : List Int) : Approx (fun N => ref1_Folded_B (pcN N) (lN N) a0 a1) (ref1_Folded_B pc lp a0 a1) := by
  delta ref1_Folded_B
  exact (Approx.ifd (Approx.ifd (Approx.bnd (ref1_Folded_L1_a E) (fun y16 => (Approx.bnd (ref1_Folded_L4_a E) (fun y20 => (Approx.ifd (Approx.ifd (Approx.const _) Approx.none) Approx.none))))) Approx.none) Approx.none)
theorem ref1_Folded_of {a0 : List Int} {a1 : List Int} {y : (List (List Int))} (h : ref1_Folded_B (pcL prog cfg) lpL a0 a1 = some y) : ref1_Folded_c (pcL prog cfg) a0 a1 = some y := fn_of rfl (ref1_Folded_eq a0 a1) (ref1_Folded_ap (appN prog cfg) a0 a1) h

-- ref1_Strings, loop 58
abbrev ref1_Strings_L1_D := (((List (List Int)) × ((List (List Int)) × (Int × Unit))) × Unit)
abbrev ref1_Strings_L1_X := (((Bool × Unit) × Unit) ⊕ (Unit × Unit))
noncomputable def ref1_Strings_L1_R (pc : PC prog) (lp : LP) (ψ : ref1_Strings_L1_D → Option ref1_Strings_L1_X) (d : ref1_Strings_L1_D) : Option ref1_Strings_L1_X :=
  ifd ((decide (d.1.2.2.1 < (((List.length d.1.1) : Nat) : Int))) = true) (
    ifd ((decide (((0 : Int) ≤ d.1.2.2.1) ∧ (d.1.2.2.1 < (((List.length d.1.1) : Nat) : Int)))) = true) (
      ifd ((decide (((0 : Int) ≤ d.1.2.2.1) ∧ (d.1.2.2.1 < (((List.length d.1.2.1) : Nat) : Int)))) = true) (
        ifd ((!((List.getD d.1.1 (Int.toNat d.1.2.2.1) ([] : List Int)) == (List.getD d.1.2.1 (Int.toNat d.1.2.2.1) ([] : List Int)))) = true) (
          some (Sum.inl ((false, ()), ()))) (
          ψ ((d.1.1, d.1.2.1, (Go.IntKind.wrap .i64 (d.1.2.2.1 + 1)), ()), ()))) (
        none)) (
      none)) (
    some (Sum.inr ((), ())))
noncomputable def ref1_Strings_L1 (pc : PC prog) (lp : LP) (d : ref1_Strings_L1_D) : Option ref1_Strings_L1_X := lp ref1_Strings_L1_D ref1_Strings_L1_X (ref1_Strings_L1_R pc lp) d
theorem ref1_Strings_L1_ap (E : AppE prog pcN pc lN lp) : ContR (fun N => ref1_Strings_L1_R (pcN N) (lN N)) (ref1_Strings_L1_R pc lp) := fun ψN ψ h d => by
  delta ref1_Strings_L1_R
  exact (Approx.ifd (Approx.ifd (Approx.ifd (Approx.ifd (Approx.const _) (h _)) Approx.none) Approx.none) (Approx.const _))
theorem ref1_Strings_L1_a (E : AppE prog pcN pc lN lp) {d : ref1_Strings_L1_D} : Approx (fun N => ref1_Strings_L1 (pcN N) (lN N) d) (ref1_Strings_L1 pc lp d) := E.loop (ref1_Strings_L1_ap E) d
theorem ref1_Strings_L1_of {d : ref1_Strings_L1_D} {x : ref1_Strings_L1_X} (h : ref1_Strings_L1_R (pcL prog cfg) lpL (ref1_Strings_L1 (pcL prog cfg) lpL) d = some x) : ref1_Strings_L1 (pcL prog cfg) lpL d = some x := lpL_step (ref1_Strings_L1_ap (appL prog cfg)) h

noncomputable def ref1_Strings_B (pc : PC prog) (lp : LP) (a0 : List (List Int)) (a1 : List (List Int)) : Option Bool :=
  ifd (((((List.length a0) : Nat) : Int) != (((List.length a1) : Nat) : Int)) = true) (
    some false) (
    bnd (ref1_Strings_L1 pc lp ((a0, a1, 0, ()), ())) (Sum.elim (fun (y0 : ((Bool × Unit) × Unit)) =>
    some y0.1.1) (fun (y1 : (Unit × Unit)) =>
    some true)))
theorem ref1_Strings_eq (a0 : List (List Int)) (a1 : List (List Int)) (pc : PC prog) (lp : LP) : got ref1_Strings_t (pcall prog (runO prog cfg (hand prog cfg lp pc 6 tbl 5) pc 6) 10 [(.c (.slice .ro .str a0)), (.c (.slice .ro .str a1))]) = ref1_Strings_B pc lp a0 a1 := by kernel_rfl
theorem ref1_Strings_ap (E : AppE prog pcN pc lN lp) (a0 : List (List Int)) (a1 : List (List Int)) : Approx (fun N => ref1_Strings_B (pcN N) (lN N) a0 a1) (ref1_Strings_B pc lp a0 a1) := by
  delta ref1_Strings_B
  exact (Approx.ifd (Approx.const _) (Approx.bnd (ref1_Strings_L1_a E) (Approx.sum (fun y0 => (Approx.const _)) (fun y1 => (Approx.const _)))))
theorem ref1_Strings_of {a0 : List (List Int)} {a1 : List (List Int)} {y : Bool} (h : ref1_Strings_B (pcL prog cfg) lpL a0 a1 = some y) : ref1_Strings_c (pcL prog cfg) a0 a1 = some y := fn_of rfl (ref1_Strings_eq a0 a1) (ref1_Strings_ap (appN prog cfg) a0 a1) h

-- fold_Unfold, loop 122
abbrev fold_Unfold_L1_D := (((List (List Int)) × (Unit × (Int × ((List (List Int)) × (Int × (Int × Unit)))))) × ((Int × (Int × Unit)) × Unit))
abbrev fold_Unfold_L1_X := ((((List Int) × ((List Int) × (Unit × Unit))) × ((Int × (Int × Unit)) × Unit)) ⊕ (((List (List Int)) × (Unit × (Int × Unit))) × ((Int × (Int × Unit)) × Unit)))
noncomputable def fold_Unfold_L1_R (pc : PC prog) (lp : LP) (ψ : fold_Unfold_L1_D → Option fold_Unfold_L1_X) (d : fold_Unfold_L1_D) : Option fold_Unfold_L1_X :=
  ifd ((decide (d.1.2.2.2.2.2.1 < d.1.2.2.2.2.1)) = true) (
    ifd ((decide (((0 : Int) ≤ d.1.2.2.2.2.2.1) ∧ (d.1.2.2.2.2.2.1 < (((List.length d.1.2.2.2.1) : Nat) : Int)))) = true) (
      bnd (bnd (strings_ContainsAny_c pc (List.getD d.1.2.2.2.1 (Int.toNat d.1.2.2.2.2.2.1) ([] : List Int)) ([13, 10, 0] : List Int)) fun (x4 : Bool) =>
      some x4) fun (x5 : Bool) =>
      ifd (x5 = true) (
        ifd (x5 = true) (
          ifd (x5 = true) (
            some (Sum.inl ((([] : List Int), ([] : List Int), (), ()), ((11, d.1.2.2.2.2.2.1, ()), ())))) (
            none)) (
          none)) (
        ifd ((decide (d.1.2.2.2.2.2.1 > 0)) = true) (
          bnd (bnd (strings_TrimLeft_c pc (List.getD d.1.2.2.2.1 (Int.toNat d.1.2.2.2.2.2.1) ([] : List Int)) ([32, 9] : List Int)) fun (x6 : (List Int)) =>
          some x6) fun (x7 : (List Int)) =>
          ifd (x5 = true) (
            ifd (x5 = true) (
              some (Sum.inl ((([] : List Int), ([] : List Int), (), ()), ((11, d.1.2.2.2.2.2.1, ()), ())))) (
              none)) (
            ifd ((decide (d.1.2.2.2.2.2.1 > 0)) = true) (
              ifd (x5 = true) (
                some (Sum.inl ((([] : List Int), ([] : List Int), (), ()), ((11, d.1.2.2.2.2.2.1, ()), ())))) (
                ifd ((x7 == (List.getD d.1.2.2.2.1 (Int.toNat d.1.2.2.2.2.2.1) ([] : List Int))) = true) (
                  some (Sum.inl ((([] : List Int), ([] : List Int), (), ()), ((11, d.1.2.2.2.2.2.1, ()), ())))) (
                  ψ ((d.1.1, (), (Go.IntKind.wrap .i64 (d.1.2.2.1 + (((List.length (List.getD d.1.2.2.2.1 (Int.toNat d.1.2.2.2.2.2.1) ([] : List Int))) : Nat) : Int))), d.1.2.2.2.1, d.1.2.2.2.2.1, (Go.IntKind.wrap .i64 (d.1.2.2.2.2.2.1 + 1)), ()), ((d.2.1.1, d.2.1.2.1, ()), ()))))) (
              ifd (x5 = true) (
                some (Sum.inl ((([] : List Int), ([] : List Int), (), ()), ((11, d.1.2.2.2.2.2.1, ()), ())))) (
                ψ ((d.1.1, (), (Go.IntKind.wrap .i64 (d.1.2.2.1 + (((List.length (List.getD d.1.2.2.2.1 (Int.toNat d.1.2.2.2.2.2.1) ([] : List Int))) : Nat) : Int))), d.1.2.2.2.1, d.1.2.2.2.2.1, (Go.IntKind.wrap .i64 (d.1.2.2.2.2.2.1 + 1)), ()), ((d.2.1.1, d.2.1.2.1, ()), ())))))) (
          ifd (x5 = true) (
            ifd (x5 = true) (
              some (Sum.inl ((([] : List Int), ([] : List Int), (), ()), ((11, d.1.2.2.2.2.2.1, ()), ())))) (
              none)) (
            ifd ((decide (d.1.2.2.2.2.2.1 > 0)) = true) (
              ifd (x5 = true) (
                some (Sum.inl ((([] : List Int), ([] : List Int), (), ()), ((11, d.1.2.2.2.2.2.1, ()), ())))) (
                none)) (
              ifd (x5 = true) (
                some (Sum.inl ((([] : List Int), ([] : List Int), (), ()), ((11, d.1.2.2.2.2.2.1, ()), ())))) (
                ψ ((d.1.1, (), (Go.IntKind.wrap .i64 (d.1.2.2.1 + (((List.length (List.getD d.1.2.2.2.1 (Int.toNat d.1.2.2.2.2.2.1) ([] : List Int))) : Nat) : Int))), d.1.2.2.2.1, d.1.2.2.2.2.1, (Go.IntKind.wrap .i64 (d.1.2.2.2.2.2.1 + 1)), ()), ((d.2.1.1, d.2.1.2.1, ()), ())))))))) (
      none)) (
    some (Sum.inr ((d.1.1, (), d.1.2.2.1, ()), ((d.2.1.1, d.2.1.2.1, ()), ()))))
noncomputable def fold_Unfold_L1 (pc : PC prog) (lp : LP) (d : fold_Unfold_L1_D) : Option fold_Unfold_L1_X := lp fold_Unfold_L1_D fold_Unfold_L1_X (fold_Unfold_L1_R pc lp) d
theorem fold_Unfold_L1_ap (E : AppE prog pcN pc lN lp) : ContR (fun N => fold_Unfold_L1_R (pcN N) (lN N)) (fold_Unfold_L1_R pc lp) := fun ψN ψ h d => by
  delta fold_Unfold_L1_R
  exact (Approx.ifd (Approx.ifd (Approx.bnd (Approx.bnd (strings_ContainsAny_ca E) fun x4 => (Approx.const _)) fun x5 => (Approx.ifd (Approx.ifd (Approx.ifd (Approx.const _) Approx.none) Approx.none) (Approx.ifd (Approx.bnd (Approx.bnd (strings_TrimLeft_ca E) fun x6 => (Approx.const _)) fun x7 => (Approx.ifd (Approx.ifd (Approx.const _) Approx.none) (Approx.ifd (Approx.ifd (Approx.const _) (Approx.ifd (Approx.const _) (h _))) (Approx.ifd (Approx.const _) (h _))))) (Approx.ifd (Approx.ifd (Approx.const _) Approx.none) (Approx.ifd (Approx.ifd (Approx.const _) Approx.none) (Approx.ifd (Approx.const _) (h _))))))) Approx.none) (Approx.const _))
theorem fold_Unfold_L1_a (E : AppE prog pcN pc lN lp) {d : fold_Unfold_L1_D} : Approx (fun N => fold_Unfold_L1 (pcN N) (lN N) d) (fold_Unfold_L1 pc lp d) := E.loop (fold_Unfold_L1_ap E) d
theorem fold_Unfold_L1_of {d : fold_Unfold_L1_D} {x : fold_Unfold_L1_X} (h : fold_Unfold_L1_R (pcL prog cfg) lpL (fold_Unfold_L1 (pcL prog cfg) lpL) d = some x) : fold_Unfold_L1 (pcL prog cfg) lpL d = some x := lpL_step (fold_Unfold_L1_ap (appL prog cfg)) h

noncomputable def fold_Unfold_B (pc : PC prog) (lp : LP) (a0 : List (List Int)) : Option ((List Int) × ((List Int) × ((Int × (Int × Unit)) × Unit))) :=
  ifd ((decide ((((List.length a0) : Nat) : Int) > 300)) = true) (
    some (([] : List Int), (([] : List Int), ((2, ((-1), ())), ())))) (
    bnd (fold_Unfold_L1 pc lp ((a0, (), 0, a0, (((List.length a0) : Nat) : Int), 0, ()), ((0, 0, ()), ()))) (Sum.elim (fun (y8 : (((List Int) × ((List Int) × (Unit × Unit))) × ((Int × (Int × Unit)) × Unit))) =>
    some (y8.1.1, (y8.1.2.1, ((y8.2.1.1, (y8.2.1.2.1, ())), ())))) (fun (y9 : (((List (List Int)) × (Unit × (Int × Unit))) × ((Int × (Int × Unit)) × Unit))) =>
    bnd (bnd (fold_Join_c pc y9.1.1) fun (x10 : ((List Int) × ((List Int) × (Bool × Unit)))) =>
    some (x10.1, (x10.2.1, (x10.2.2.1, ())))) fun (x11 : ((List Int) × ((List Int) × (Bool × Unit)))) =>
    ifd ((decide (y9.1.2.2.1 > 8000)) = true) (
      some (([] : List Int), (([] : List Int), ((1, ((-1), ())), ())))) (
      ifd ((!x11.2.2.1) = true) (
        some (([] : List Int), (([] : List Int), ((11, ((-2), ())), ())))) (
        ifd ((decide ((((List.length x11.2.1) : Nat) : Int) > 4000)) = true) (
          some (([] : List Int), (([] : List Int), ((1, ((-1), ())), ())))) (
          some (x11.1, (x11.2.1, ((0, (0, ())), ())))))))))
theorem fold_Unfold_eq (a0 : List (List Int)) (pc : PC prog) (lp : LP) : got fold_Unfold_t (pcall prog (runO prog cfg (hand prog cfg lp pc 6 tbl 5) pc 6) 12 [(.c (.slice .ro .str a0))]) = fold_Unfold_B pc lp a0 := by kernel_rfl
theorem fold_Unfold_ap (E : AppE prog pcN pc lN lp) (a0 : List (List Int)) : Approx (fun N => fold_Unfold_B (pcN N) (lN N) a0) (fold_Unfold_B pc lp a0) := by
  delta fold_Unfold_B
  exact (Approx.ifd (Approx.const _) (Approx.bnd (fold_Unfold_L1_a E) (Approx.sum (fun y8 => (Approx.const _)) (fun y9 => (Approx.bnd (Approx.bnd (fold_Join_ca E) fun x10 => (Approx.const _)) fun x11 => (Approx.ifd (Approx.const _) (Approx.ifd (Approx.const _) (Approx.ifd (Approx.const _) (Approx.const _)))))))))
theorem fold_Unfold_of {a0 : List (List Int)} {y : ((List Int) × ((List Int) × ((Int × (Int × Unit)) × Unit)))} (h : fold_Unfold_B (pcL prog cfg) lpL a0 = some y) : fold_Unfold_c (pcL prog cfg) a0 = some y := fn_of rfl (fold_Unfold_eq a0) (fold_Unfold_ap (appN prog cfg) a0) h

noncomputable def ref1_Blank_B (pc : PC prog) (lp : LP) (a0 : Int) : Option Bool :=
  ifd ((a0 == 32) = true) (
    ifd ((a0 == 32) = true) (
      some true) (
      none)) (
    ifd ((a0 == 32) = true) (
      some true) (
      some (a0 == 9)))
theorem ref1_Blank_eq (a0 : Int) (pc : PC prog) (lp : LP) : got ref1_Blank_t (pcall prog (runO prog cfg (hand prog cfg lp pc 6 tbl 5) pc 6) 13 [(.c (.int .u8 a0))]) = ref1_Blank_B pc lp a0 := by kernel_rfl
theorem ref1_Blank_ap (E : AppE prog pcN pc lN lp) (a0 : Int) : Approx (fun N => ref1_Blank_B (pcN N) (lN N) a0) (ref1_Blank_B pc lp a0) := by
  delta ref1_Blank_B
  exact (Approx.ifd (Approx.ifd (Approx.const _) Approx.none) (Approx.ifd (Approx.const _) (Approx.const _)))
theorem ref1_Blank_of {a0 : Int} {y : Bool} (h : ref1_Blank_B (pcL prog cfg) lpL a0 = some y) : ref1_Blank_c (pcL prog cfg) a0 = some y := fn_of rfl (ref1_Blank_eq a0) (ref1_Blank_ap (appN prog cfg) a0) h

noncomputable def ref1_At_B (pc : PC prog) (lp : LP) (a0 : Int) (a1 : Int) : Option (Int × (Int × Unit)) :=
  some (a0, (a1, ()))
theorem ref1_At_eq (a0 : Int) (a1 : Int) (pc : PC prog) (lp : LP) : got ref1_At_t (pcall prog (runO prog cfg (hand prog cfg lp pc 6 tbl 5) pc 6) 14 [(.c (.int .i64 a0)), (.c (.int .i64 a1))]) = ref1_At_B pc lp a0 a1 := by kernel_rfl
theorem ref1_At_ap (E : AppE prog pcN pc lN lp) (a0 : Int) (a1 : Int) : Approx (fun N => ref1_At_B (pcN N) (lN N) a0 a1) (ref1_At_B pc lp a0 a1) := by
  delta ref1_At_B
  exact (Approx.const _)
theorem ref1_At_of {a0 : Int} {a1 : Int} {y : (Int × (Int × Unit))} (h : ref1_At_B (pcL prog cfg) lpL a0 a1 = some y) : ref1_At_c (pcL prog cfg) a0 a1 = some y := fn_of rfl (ref1_At_eq a0 a1) (ref1_At_ap (appN prog cfg) a0 a1) h

-- ref1_OneOf, loop 26
abbrev ref1_OneOf_L1_D := ((Int × ((List Int) × (Int × Unit))) × Unit)
abbrev ref1_OneOf_L1_X := (((Bool × Unit) × Unit) ⊕ (Unit × Unit))
noncomputable def ref1_OneOf_L1_R (pc : PC prog) (lp : LP) (ψ : ref1_OneOf_L1_D → Option ref1_OneOf_L1_X) (d : ref1_OneOf_L1_D) : Option ref1_OneOf_L1_X :=
  ifd ((decide (d.1.2.2.1 < (((List.length d.1.2.1) : Nat) : Int))) = true) (
    ifd ((decide (((0 : Int) ≤ d.1.2.2.1) ∧ (d.1.2.2.1 < (((List.length d.1.2.1) : Nat) : Int)))) = true) (
      ifd (((List.getD d.1.2.1 (Int.toNat d.1.2.2.1) 0) == d.1.1) = true) (
        some (Sum.inl ((true, ()), ()))) (
        ψ ((d.1.1, d.1.2.1, (Go.IntKind.wrap .i64 (d.1.2.2.1 + 1)), ()), ()))) (
      none)) (
    some (Sum.inr ((), ())))
noncomputable def ref1_OneOf_L1 (pc : PC prog) (lp : LP) (d : ref1_OneOf_L1_D) : Option ref1_OneOf_L1_X := lp ref1_OneOf_L1_D ref1_OneOf_L1_X (ref1_OneOf_L1_R pc lp) d
theorem ref1_OneOf_L1_ap (E : AppE prog pcN pc lN lp) : ContR (fun N => ref1_OneOf_L1_R (pcN N) (lN N)) (ref1_OneOf_L1_R pc lp) := fun ψN ψ h d => by
  delta ref1_OneOf_L1_R
  exact (Approx.ifd (Approx.ifd (Approx.ifd (Approx.const _) (h _)) Approx.none) (Approx.const _))
theorem ref1_OneOf_L1_a (E : AppE prog pcN pc lN lp) {d : ref1_OneOf_L1_D} : Approx (fun N => ref1_OneOf_L1 (pcN N) (lN N) d) (ref1_OneOf_L1 pc lp d) := E.loop (ref1_OneOf_L1_ap E) d
theorem ref1_OneOf_L1_of {d : ref1_OneOf_L1_D} {x : ref1_OneOf_L1_X} (h : ref1_OneOf_L1_R (pcL prog cfg) lpL (ref1_OneOf_L1 (pcL prog cfg) lpL) d = some x) : ref1_OneOf_L1 (pcL prog cfg) lpL d = some x := lpL_step (ref1_OneOf_L1_ap (appL prog cfg)) h

noncomputable def ref1_OneOf_B (pc : PC prog) (lp : LP) (a0 : Int) (a1 : List Int) : Option Bool :=
  bnd (ref1_OneOf_L1 pc lp ((a0, a1, 0, ()), ())) (Sum.elim (fun (y0 : ((Bool × Unit) × Unit)) =>
  some y0.1.1) (fun (y1 : (Unit × Unit)) =>
  some false))
theorem ref1_OneOf_eq (a0 : Int) (a1 : List Int) (pc : PC prog) (lp : LP) : got ref1_OneOf_t (pcall prog (runO prog cfg (hand prog cfg lp pc 6 tbl 5) pc 6) 15 [(.c (.int .u8 a0)), (.c (.str a1))]) = ref1_OneOf_B pc lp a0 a1 := by kernel_rfl
theorem ref1_OneOf_ap (E : AppE prog pcN pc lN lp) (a0 : Int) (a1 : List Int) : Approx (fun N => ref1_OneOf_B (pcN N) (lN N) a0 a1) (ref1_OneOf_B pc lp a0 a1) := by
  delta ref1_OneOf_B
  exact (Approx.bnd (ref1_OneOf_L1_a E) (Approx.sum (fun y0 => (Approx.const _)) (fun y1 => (Approx.const _))))
theorem ref1_OneOf_of {a0 : Int} {a1 : List Int} {y : Bool} (h : ref1_OneOf_B (pcL prog cfg) lpL a0 a1 = some y) : ref1_OneOf_c (pcL prog cfg) a0 a1 = some y := fn_of rfl (ref1_OneOf_eq a0 a1) (ref1_OneOf_ap (appN prog cfg) a0 a1) h

-- ref1_Find, loop 26
abbrev ref1_Find_L1_D := (((List Int) × ((List Int) × (Int × Unit))) × Unit)
abbrev ref1_Find_L1_X := (((Int × Unit) × Unit) ⊕ (Unit × Unit))
noncomputable def ref1_Find_L1_R (pc : PC prog) (lp : LP) (ψ : ref1_Find_L1_D → Option ref1_Find_L1_X) (d : ref1_Find_L1_D) : Option ref1_Find_L1_X :=
  ifd ((decide ((Go.IntKind.wrap .i64 (d.1.2.2.1 + (((List.length d.1.2.1) : Nat) : Int))) ≤ (((List.length d.1.1) : Nat) : Int))) = true) (
    ifd ((decide (((0 : Int) ≤ d.1.2.2.1) ∧ ((d.1.2.2.1 ≤ (Go.IntKind.wrap .i64 (d.1.2.2.1 + (((List.length d.1.2.1) : Nat) : Int)))) ∧ ((Go.IntKind.wrap .i64 (d.1.2.2.1 + (((List.length d.1.2.1) : Nat) : Int))) ≤ (((List.length d.1.1) : Nat) : Int))))) = true) (
      ifd (((List.drop (Int.toNat d.1.2.2.1) (List.take (Int.toNat (Go.IntKind.wrap .i64 (d.1.2.2.1 + (((List.length d.1.2.1) : Nat) : Int)))) d.1.1)) == d.1.2.1) = true) (
        some (Sum.inl ((d.1.2.2.1, ()), ()))) (
        ψ ((d.1.1, d.1.2.1, (Go.IntKind.wrap .i64 (d.1.2.2.1 + 1)), ()), ()))) (
      none)) (
    some (Sum.inr ((), ())))
noncomputable def ref1_Find_L1 (pc : PC prog) (lp : LP) (d : ref1_Find_L1_D) : Option ref1_Find_L1_X := lp ref1_Find_L1_D ref1_Find_L1_X (ref1_Find_L1_R pc lp) d
theorem ref1_Find_L1_ap (E : AppE prog pcN pc lN lp) : ContR (fun N => ref1_Find_L1_R (pcN N) (lN N)) (ref1_Find_L1_R pc lp) := fun ψN ψ h d => by
  delta ref1_Find_L1_R
  exact (Approx.ifd (Approx.ifd (Approx.ifd (Approx.const _) (h _)) Approx.none) (Approx.const _))
theorem ref1_Find_L1_a (E : AppE prog pcN pc lN lp) {d : ref1_Find_L1_D} : Approx (fun N => ref1_Find_L1 (pcN N) (lN N) d) (ref1_Find_L1 pc lp d) := E.loop (ref1_Find_L1_ap E) d
theorem ref1_Find_L1_of {d : ref1_Find_L1_D} {x : ref1_Find_L1_X} (h : ref1_Find_L1_R (pcL prog cfg) lpL (ref1_Find_L1 (pcL prog cfg) lpL) d = some x) : ref1_Find_L1 (pcL prog cfg) lpL d = some x := lpL_step (ref1_Find_L1_ap (appL prog cfg)) h

noncomputable def ref1_Find_B (pc : PC prog) (lp : LP) (a0 : List Int) (a1 : List Int) (a2 : Int) : Option Int :=
  bnd (ref1_Find_L1 pc lp ((a0, a1, a2, ()), ())) (Sum.elim (fun (y0 : ((Int × Unit) × Unit)) =>
  some y0.1.1) (fun (y1 : (Unit × Unit)) =>
  some (-1)))
theorem ref1_Find_eq (a0 : List Int) (a1 : List Int) (a2 : Int) (pc : PC prog) (lp : LP) : got ref1_Find_t (pcall prog (runO prog cfg (hand prog cfg lp pc 6 tbl 5) pc 6) 16 [(.c (.str a0)), (.c (.str a1)), (.c (.int .i64 a2))]) = ref1_Find_B pc lp a0 a1 a2 := by kernel_rfl
theorem ref1_Find_ap (E : AppE prog pcN pc lN lp) (a0 : List Int) (a1 : List Int) (a2 : Int) : Approx (fun N => ref1_Find_B (pcN N) (lN N) a0 a1 a2) (ref1_Find_B pc lp a0 a1 a2) := by
  delta ref1_Find_B
  exact (Approx.bnd (ref1_Find_L1_a E) (Approx.sum (fun y0 => (Approx.const _)) (fun y1 => (Approx.const _))))
theorem ref1_Find_of {a0 : List Int} {a1 : List Int} {a2 : Int} {y : Int} (h : ref1_Find_B (pcL prog cfg) lpL a0 a1 a2 = some y) : ref1_Find_c (pcL prog cfg) a0 a1 a2 = some y := fn_of rfl (ref1_Find_eq a0 a1 a2) (ref1_Find_ap (appN prog cfg) a0 a1 a2) h

-- ref1_FieldName, loop 26
abbrev ref1_FieldName_L1_D := (((List Int) × (Int × Unit)) × Unit)
abbrev ref1_FieldName_L1_X := (((Bool × Unit) × Unit) ⊕ (((List Int) × Unit) × Unit))
noncomputable def ref1_FieldName_L1_R (pc : PC prog) (lp : LP) (ψ : ref1_FieldName_L1_D → Option ref1_FieldName_L1_X) (d : ref1_FieldName_L1_D) : Option ref1_FieldName_L1_X :=
  ifd ((decide (d.1.2.1 < (((List.length d.1.1) : Nat) : Int))) = true) (
    ifd ((decide (((0 : Int) ≤ d.1.2.1) ∧ (d.1.2.1 < (((List.length d.1.1) : Nat) : Int)))) = true) (
      bnd (bnd (ref1_In_c pc (Go.IntKind.wrap .i64 (List.getD d.1.1 (Int.toNat d.1.2.1) 0)) 33 126) fun (x2 : Bool) =>
      some x2) fun (x3 : Bool) =>
      ifd ((!x3) = true) (
        ifd ((!x3) = true) (
          some (Sum.inl ((false, ()), ()))) (
          none)) (
        ifd ((decide (((0 : Int) ≤ d.1.2.1) ∧ (d.1.2.1 < (((List.length d.1.1) : Nat) : Int)))) = true) (
          ifd ((!x3) = true) (
            some (Sum.inl ((false, ()), ()))) (
            ifd (((List.getD d.1.1 (Int.toNat d.1.2.1) 0) == 58) = true) (
              some (Sum.inl ((false, ()), ()))) (
              ψ ((d.1.1, (Go.IntKind.wrap .i64 (d.1.2.1 + 1)), ()), ())))) (
          none))) (
      none)) (
    some (Sum.inr ((d.1.1, ()), ())))
noncomputable def ref1_FieldName_L1 (pc : PC prog) (lp : LP) (d : ref1_FieldName_L1_D) : Option ref1_FieldName_L1_X := lp ref1_FieldName_L1_D ref1_FieldName_L1_X (ref1_FieldName_L1_R pc lp) d
theorem ref1_FieldName_L1_ap (E : AppE prog pcN pc lN lp) : ContR (fun N => ref1_FieldName_L1_R (pcN N) (lN N)) (ref1_FieldName_L1_R pc lp) := fun ψN ψ h d => by
  delta ref1_FieldName_L1_R
  exact (Approx.ifd (Approx.ifd (Approx.bnd (Approx.bnd (ref1_In_ca E) fun x2 => (Approx.const _)) fun x3 => (Approx.ifd (Approx.ifd (Approx.const _) Approx.none) (Approx.ifd (Approx.ifd (Approx.const _) (Approx.ifd (Approx.const _) (h _))) Approx.none))) Approx.none) (Approx.const _))
theorem ref1_FieldName_L1_a (E : AppE prog pcN pc lN lp) {d : ref1_FieldName_L1_D} : Approx (fun N => ref1_FieldName_L1 (pcN N) (lN N) d) (ref1_FieldName_L1 pc lp d) := E.loop (ref1_FieldName_L1_ap E) d
theorem ref1_FieldName_L1_of {d : ref1_FieldName_L1_D} {x : ref1_FieldName_L1_X} (h : ref1_FieldName_L1_R (pcL prog cfg) lpL (ref1_FieldName_L1 (pcL prog cfg) lpL) d = some x) : ref1_FieldName_L1 (pcL prog cfg) lpL d = some x := lpL_step (ref1_FieldName_L1_ap (appL prog cfg)) h

noncomputable def ref1_FieldName_B (pc : PC prog) (lp : LP) (a0 : List Int) : Option Bool :=
  bnd (ref1_FieldName_L1 pc lp ((a0, 0, ()), ())) (Sum.elim (fun (y4 : ((Bool × Unit) × Unit)) =>
  some y4.1.1) (fun (y5 : (((List Int) × Unit) × Unit)) =>
  bnd (bnd (ref1_In_c pc (((List.length y5.1.1) : Nat) : Int) 1 60) fun (x6 : Bool) =>
  some x6) fun (x7 : Bool) =>
  some x7))
theorem ref1_FieldName_eq (a0 : List Int) (pc : PC prog) (lp : LP) : got ref1_FieldName_t (pcall prog (runO prog cfg (hand prog cfg lp pc 6 tbl 5) pc 6) 17 [(.c (.str a0))]) = ref1_FieldName_B pc lp a0 := by kernel_rfl
theorem ref1_FieldName_ap (E : AppE prog pcN pc lN lp) (a0 : List Int) : Approx (fun N => ref1_FieldName_B (pcN N) (lN N) a0) (ref1_FieldName_B pc lp a0) := by
  delta ref1_FieldName_B
  exact (Approx.bnd (ref1_FieldName_L1_a E) (Approx.sum (fun y4 => (Approx.const _)) (fun y5 => (Approx.bnd (Approx.bnd (ref1_In_ca E) fun x6 => (Approx.const _)) fun x7 => (Approx.const _)))))
theorem ref1_FieldName_of {a0 : List Int} {y : Bool} (h : ref1_FieldName_B (pcL prog cfg) lpL a0 = some y) : ref1_FieldName_c (pcL prog cfg) a0 = some y := fn_of rfl (ref1_FieldName_eq a0) (ref1_FieldName_ap (appN prog cfg) a0) h

-- ref1_Trim, loop 12
abbrev ref1_Trim_L1_D := (((List Int) × Unit) × Unit)
abbrev ref1_Trim_L1_X := (((List Int) × Unit) × Unit)
noncomputable def ref1_Trim_L1_R (pc : PC prog) (lp : LP) (ψ : ref1_Trim_L1_D → Option ref1_Trim_L1_X) (d : ref1_Trim_L1_D) : Option ref1_Trim_L1_X :=
  ifd ((decide ((((List.length d.1.1) : Nat) : Int) > 0)) = true) (
    ifd ((decide (((0 : Int) ≤ 0) ∧ ((0 : Int) < (((List.length d.1.1) : Nat) : Int)))) = true) (
      bnd (bnd (ref1_Blank_c pc (List.getD d.1.1 (Int.toNat 0) 0)) fun (x2 : Bool) =>
      some x2) fun (x3 : Bool) =>
      ifd ((decide ((((List.length d.1.1) : Nat) : Int) > 0)) = true) (
        ifd (x3 = true) (
          ifd ((decide (((0 : Int) ≤ 1) ∧ (((1 : Int) ≤ (((List.length d.1.1) : Nat) : Int)) ∧ ((((List.length d.1.1) : Nat) : Int) ≤ (((List.length d.1.1) : Nat) : Int))))) = true) (
            ψ (((List.drop (Int.toNat 1) (List.take (Int.toNat (((List.length d.1.1) : Nat) : Int)) d.1.1)), ()), ())) (
            none)) (
          some ((d.1.1, ()), ()))) (
        some ((d.1.1, ()), ()))) (
      none)) (
    ifd ((decide ((((List.length d.1.1) : Nat) : Int) > 0)) = true) (
      none) (
      some ((d.1.1, ()), ())))
noncomputable def ref1_Trim_L1 (pc : PC prog) (lp : LP) (d : ref1_Trim_L1_D) : Option ref1_Trim_L1_X := lp ref1_Trim_L1_D ref1_Trim_L1_X (ref1_Trim_L1_R pc lp) d
theorem ref1_Trim_L1_ap (E : AppE prog pcN pc lN lp) : ContR (fun N => ref1_Trim_L1_R (pcN N) (lN N)) (ref1_Trim_L1_R pc lp) := fun ψN ψ h d => by
  delta ref1_Trim_L1_R
  exact (Approx.ifd (Approx.ifd (Approx.bnd (Approx.bnd (ref1_Blank_ca E) fun x2 => (Approx.const _)) fun x3 => (Approx.ifd (Approx.ifd (Approx.ifd (h _) Approx.none) (Approx.const _)) (Approx.const _))) Approx.none) (Approx.ifd Approx.none (Approx.const _)))
theorem ref1_Trim_L1_a (E : AppE prog pcN pc lN lp) {d : ref1_Trim_L1_D} : Approx (fun N => ref1_Trim_L1 (pcN N) (lN N) d) (ref1_Trim_L1 pc lp d) := E.loop (ref1_Trim_L1_ap E) d
theorem ref1_Trim_L1_of {d : ref1_Trim_L1_D} {x : ref1_Trim_L1_X} (h : ref1_Trim_L1_R (pcL prog cfg) lpL (ref1_Trim_L1 (pcL prog cfg) lpL) d = some x) : ref1_Trim_L1 (pcL prog cfg) lpL d = some x := lpL_step (ref1_Trim_L1_ap (appL prog cfg)) h

-- ref1_Trim, loop 28
abbrev ref1_Trim_L2_D := (((List Int) × Unit) × Unit)
abbrev ref1_Trim_L2_X := (((List Int) × Unit) × Unit)
noncomputable def ref1_Trim_L2_R (pc : PC prog) (lp : LP) (ψ : ref1_Trim_L2_D → Option ref1_Trim_L2_X) (d : ref1_Trim_L2_D) : Option ref1_Trim_L2_X :=
  ifd ((decide ((((List.length d.1.1) : Nat) : Int) > 0)) = true) (
    ifd ((decide (((0 : Int) ≤ (Go.IntKind.wrap .i64 ((((List.length d.1.1) : Nat) : Int) - 1))) ∧ ((Go.IntKind.wrap .i64 ((((List.length d.1.1) : Nat) : Int) - 1)) < (((List.length d.1.1) : Nat) : Int)))) = true) (
      bnd (bnd (ref1_Blank_c pc (List.getD d.1.1 (Int.toNat (Go.IntKind.wrap .i64 ((((List.length d.1.1) : Nat) : Int) - 1))) 0)) fun (x7 : Bool) =>
      some x7) fun (x8 : Bool) =>
      ifd ((decide ((((List.length d.1.1) : Nat) : Int) > 0)) = true) (
        ifd (x8 = true) (
          ifd ((decide (((0 : Int) ≤ 0) ∧ (((0 : Int) ≤ (Go.IntKind.wrap .i64 ((((List.length d.1.1) : Nat) : Int) - 1))) ∧ ((Go.IntKind.wrap .i64 ((((List.length d.1.1) : Nat) : Int) - 1)) ≤ (((List.length d.1.1) : Nat) : Int))))) = true) (
            ψ (((List.drop (Int.toNat 0) (List.take (Int.toNat (Go.IntKind.wrap .i64 ((((List.length d.1.1) : Nat) : Int) - 1))) d.1.1)), ()), ())) (
            none)) (
          some ((d.1.1, ()), ()))) (
        some ((d.1.1, ()), ()))) (
      none)) (
    ifd ((decide ((((List.length d.1.1) : Nat) : Int) > 0)) = true) (
      none) (
      some ((d.1.1, ()), ())))
noncomputable def ref1_Trim_L2 (pc : PC prog) (lp : LP) (d : ref1_Trim_L2_D) : Option ref1_Trim_L2_X := lp ref1_Trim_L2_D ref1_Trim_L2_X (ref1_Trim_L2_R pc lp) d
theorem ref1_Trim_L2_ap (E : AppE prog pcN pc lN lp) : ContR (fun N => ref1_Trim_L2_R (pcN N) (lN N)) (ref1_Trim_L2_R pc lp) := fun ψN ψ h d => by
  delta ref1_Trim_L2_R
  exact (Approx.ifd (Approx.ifd (Approx.bnd (Approx.bnd (ref1_Blank_ca E) fun x7 => (Approx.const _)) fun x8 => (Approx.ifd (Approx.ifd (Approx.ifd (h _) Approx.none) (Approx.const _)) (Approx.const _))) Approx.none) (Approx.ifd Approx.none (Approx.const _)))
theorem ref1_Trim_L2_a (E : AppE prog pcN pc lN lp) {d : ref1_Trim_L2_D} : Approx (fun N => ref1_Trim_L2 (pcN N) (lN N) d) (ref1_Trim_L2 pc lp d) := E.loop (ref1_Trim_L2_ap E) d
theorem ref1_Trim_L2_of {d : ref1_Trim_L2_D} {x : ref1_Trim_L2_X} (h : ref1_Trim_L2_R (pcL prog cfg) lpL (ref1_Trim_L2 (pcL prog cfg) lpL) d = some x) : ref1_Trim_L2 (pcL prog cfg) lpL d = some x := lpL_step (ref1_Trim_L2_ap (appL prog cfg)) h

noncomputable def ref1_Trim_B (pc : PC prog) (lp : LP) (a0 : List Int) : Option (List Int) :=
  bnd (ref1_Trim_L1 pc lp ((a0, ()), ())) (fun (y4 : (((List Int) × Unit) × Unit)) =>
  bnd (ref1_Trim_L2 pc lp ((y4.1.1, ()), ())) (fun (y9 : (((List Int) × Unit) × Unit)) =>
  some y9.1.1))
theorem ref1_Trim_eq (a0 : List Int) (pc : PC prog) (lp : LP) : got ref1_Trim_t (pcall prog (runO prog cfg (hand prog cfg lp pc 6 tbl 5) pc 6) 18 [(.c (.str a0))]) = ref1_Trim_B pc lp a0 := by kernel_rfl
theorem ref1_Trim_ap (E : AppE prog pcN pc lN lp) (a0 : List Int) : Approx (fun N => ref1_Trim_B (pcN N) (lN N) a0) (ref1_Trim_B pc lp a0) := by
  delta ref1_Trim_B
  exact (Approx.bnd (ref1_Trim_L1_a E) (fun y4 => (Approx.bnd (ref1_Trim_L2_a E) (fun y9 => (Approx.const _)))))
theorem ref1_Trim_of {a0 : List Int} {y : (List Int)} (h : ref1_Trim_B (pcL prog cfg) lpL a0 = some y) : ref1_Trim_c (pcL prog cfg) a0 = some y := fn_of rfl (ref1_Trim_eq a0) (ref1_Trim_ap (appN prog cfg) a0) h

noncomputable def fold_Check_B (pc : PC prog) (lp : LP) (a0 : List Int) (a1 : List Int) : Option Int :=
  bnd (bnd (fold_IsName_c pc a0) fun (x0 : Bool) =>
  some x0) fun (x1 : Bool) =>
  ifd ((!x1) = true) (
    some 10) (
    ifd ((decide ((((List.length a1) : Nat) : Int) > 4000)) = true) (
      some 1) (
      bnd (bnd (strings_ContainsAny_c pc a1 ([13, 10, 0] : List Int)) fun (x2 : Bool) =>
      some x2) fun (x3 : Bool) =>
      ifd (x3 = true) (
        ifd (x3 = true) (
          some 11) (
          none)) (
        bnd (bnd (strings_Trim_c pc a1 ([32, 9] : List Int)) fun (x4 : (List Int)) =>
        some x4) fun (x5 : (List Int)) =>
        ifd (x3 = true) (
          some 11) (
          ifd ((!(x5 == a1)) = true) (
            some 11) (
            some 0)))))
theorem fold_Check_eq (a0 : List Int) (a1 : List Int) (pc : PC prog) (lp : LP) : got fold_Check_t (pcall prog (runO prog cfg (hand prog cfg lp pc 6 tbl 5) pc 6) 19 [(.c (.str a0)), (.c (.str a1))]) = fold_Check_B pc lp a0 a1 := by kernel_rfl
theorem fold_Check_ap (E : AppE prog pcN pc lN lp) (a0 : List Int) (a1 : List Int) : Approx (fun N => fold_Check_B (pcN N) (lN N) a0 a1) (fold_Check_B pc lp a0 a1) := by
  delta fold_Check_B
  exact (Approx.bnd (Approx.bnd (fold_IsName_ca E) fun x0 => (Approx.const _)) fun x1 => (Approx.ifd (Approx.const _) (Approx.ifd (Approx.const _) (Approx.bnd (Approx.bnd (strings_ContainsAny_ca E) fun x2 => (Approx.const _)) fun x3 => (Approx.ifd (Approx.ifd (Approx.const _) Approx.none) (Approx.bnd (Approx.bnd (strings_Trim_ca E) fun x4 => (Approx.const _)) fun x5 => (Approx.ifd (Approx.const _) (Approx.ifd (Approx.const _) (Approx.const _)))))))))
theorem fold_Check_of {a0 : List Int} {a1 : List Int} {y : Int} (h : fold_Check_B (pcL prog cfg) lpL a0 a1 = some y) : fold_Check_c (pcL prog cfg) a0 a1 = some y := fn_of rfl (fold_Check_eq a0 a1) (fold_Check_ap (appN prog cfg) a0 a1) h

-- fold_Lines, loop 122
abbrev fold_Lines_L1_D := (((List Int) × ((List (List Int)) × (Int × Unit))) × Unit)
abbrev fold_Lines_L1_X := (((List (List Int)) × Unit) × Unit)
noncomputable def fold_Lines_L1_R (pc : PC prog) (lp : LP) (ψ : fold_Lines_L1_D → Option fold_Lines_L1_X) (d : fold_Lines_L1_D) : Option fold_Lines_L1_X :=
  ifd ((!(d.1.1 == ([] : List Int))) = true) (
    bnd (bnd (fold_cut_c pc d.1.1 d.1.2.2.1) fun (x6 : Int) =>
    some x6) fun (x7 : Int) =>
    ifd ((decide (((0 : Int) ≤ 0) ∧ (((0 : Int) ≤ x7) ∧ (x7 ≤ (((List.length d.1.1) : Nat) : Int))))) = true) (
      ifd ((decide ((((List.length d.1.2.1) + (List.length ([(List.drop (Int.toNat 0) (List.take (Int.toNat x7) d.1.1))] : List (List Int)))) * 16) ≤ 140737488355328)) = true) (
        ifd ((decide (((0 : Int) ≤ x7) ∧ ((x7 ≤ (((List.length d.1.1) : Nat) : Int)) ∧ ((((List.length d.1.1) : Nat) : Int) ≤ (((List.length d.1.1) : Nat) : Int))))) = true) (
          ψ (((List.drop (Int.toNat x7) (List.take (Int.toNat (((List.length d.1.1) : Nat) : Int)) d.1.1)), (d.1.2.1 ++ ([(List.drop (Int.toNat 0) (List.take (Int.toNat x7) d.1.1))] : List (List Int))), 1, ()), ())) (
          none)) (
        none)) (
      none)) (
    some ((d.1.2.1, ()), ()))
noncomputable def fold_Lines_L1 (pc : PC prog) (lp : LP) (d : fold_Lines_L1_D) : Option fold_Lines_L1_X := lp fold_Lines_L1_D fold_Lines_L1_X (fold_Lines_L1_R pc lp) d
theorem fold_Lines_L1_ap (E : AppE prog pcN pc lN lp) : ContR (fun N => fold_Lines_L1_R (pcN N) (lN N)) (fold_Lines_L1_R pc lp) := fun ψN ψ h d => by
  delta fold_Lines_L1_R
  exact (Approx.ifd (Approx.bnd (Approx.bnd (fold_cut_ca E) fun x6 => (Approx.const _)) fun x7 => (Approx.ifd (Approx.ifd (Approx.ifd (h _) Approx.none) Approx.none) Approx.none)) (Approx.const _))
theorem fold_Lines_L1_a (E : AppE prog pcN pc lN lp) {d : fold_Lines_L1_D} : Approx (fun N => fold_Lines_L1 (pcN N) (lN N) d) (fold_Lines_L1 pc lp d) := E.loop (fold_Lines_L1_ap E) d
theorem fold_Lines_L1_of {d : fold_Lines_L1_D} {x : fold_Lines_L1_X} (h : fold_Lines_L1_R (pcL prog cfg) lpL (fold_Lines_L1 (pcL prog cfg) lpL) d = some x) : fold_Lines_L1 (pcL prog cfg) lpL d = some x := lpL_step (fold_Lines_L1_ap (appL prog cfg)) h

noncomputable def fold_Lines_B (pc : PC prog) (lp : LP) (a0 : List Int) (a1 : List Int) : Option (List (List Int)) :=
  ifd ((decide (((List.length a0) + (List.length ([58, 32] : List Int))) ≤ 9223372036854775807)) = true) (
    ifd ((decide (((List.length (a0 ++ ([58, 32] : List Int))) + (List.length a1)) ≤ 9223372036854775807)) = true) (
      bnd (fold_Lines_L1 pc lp ((((a0 ++ ([58, 32] : List Int)) ++ a1), ([] : List (List Int)), (Go.IntKind.wrap .i64 ((((List.length a0) : Nat) : Int) + 3)), ()), ())) (fun (y8 : (((List (List Int)) × Unit) × Unit)) =>
      some y8.1.1)) (
      none)) (
    none)
theorem fold_Lines_eq (a0 : List Int) (a1 : List Int) (pc : PC prog) (lp : LP) : got fold_Lines_t (pcall prog (runO prog cfg (hand prog cfg lp pc 6 tbl 5) pc 6) 20 [(.c (.str a0)), (.c (.str a1))]) = fold_Lines_B pc lp a0 a1 := by kernel_rfl
theorem fold_Lines_ap (E : AppE prog pcN pc lN lp) (a0 : List Int) (a1 : List Int) : Approx (fun N => fold_Lines_B (pcN N) (lN N) a0 a1) (fold_Lines_B pc lp a0 a1) := by
  delta fold_Lines_B
  exact (Approx.ifd (Approx.ifd (Approx.bnd (fold_Lines_L1_a E) (fun y8 => (Approx.const _))) Approx.none) Approx.none)
theorem fold_Lines_of {a0 : List Int} {a1 : List Int} {y : (List (List Int))} (h : fold_Lines_B (pcL prog cfg) lpL a0 a1 = some y) : fold_Lines_c (pcL prog cfg) a0 a1 = some y := fn_of rfl (fold_Lines_eq a0 a1) (fold_Lines_ap (appN prog cfg) a0 a1) h

-- ref1_FieldCode, loop 122
abbrev ref1_FieldCode_L1_D := (((List Int) × (Int × Unit)) × Unit)
abbrev ref1_FieldCode_L1_X := (((Int × Unit) × Unit) ⊕ (((List Int) × Unit) × Unit))
noncomputable def ref1_FieldCode_L1_R (pc : PC prog) (lp : LP) (ψ : ref1_FieldCode_L1_D → Option ref1_FieldCode_L1_X) (d : ref1_FieldCode_L1_D) : Option ref1_FieldCode_L1_X :=
  ifd ((decide (d.1.2.1 < (((List.length d.1.1) : Nat) : Int))) = true) (
    ifd ((decide (((0 : Int) ≤ d.1.2.1) ∧ (d.1.2.1 < (((List.length d.1.1) : Nat) : Int)))) = true) (
      bnd (bnd (ref1_OneOf_c pc (List.getD d.1.1 (Int.toNat d.1.2.1) 0) ([13, 10, 0] : List Int)) fun (x4 : Bool) =>
      some x4) fun (x5 : Bool) =>
      ifd (x5 = true) (
        some (Sum.inl ((11, ()), ()))) (
        ψ ((d.1.1, (Go.IntKind.wrap .i64 (d.1.2.1 + 1)), ()), ()))) (
      none)) (
    some (Sum.inr ((d.1.1, ()), ())))
noncomputable def ref1_FieldCode_L1 (pc : PC prog) (lp : LP) (d : ref1_FieldCode_L1_D) : Option ref1_FieldCode_L1_X := lp ref1_FieldCode_L1_D ref1_FieldCode_L1_X (ref1_FieldCode_L1_R pc lp) d
theorem ref1_FieldCode_L1_ap (E : AppE prog pcN pc lN lp) : ContR (fun N => ref1_FieldCode_L1_R (pcN N) (lN N)) (ref1_FieldCode_L1_R pc lp) := fun ψN ψ h d => by
  delta ref1_FieldCode_L1_R
  exact (Approx.ifd (Approx.ifd (Approx.bnd (Approx.bnd (ref1_OneOf_ca E) fun x4 => (Approx.const _)) fun x5 => (Approx.ifd (Approx.const _) (h _))) Approx.none) (Approx.const _))
theorem ref1_FieldCode_L1_a (E : AppE prog pcN pc lN lp) {d : ref1_FieldCode_L1_D} : Approx (fun N => ref1_FieldCode_L1 (pcN N) (lN N) d) (ref1_FieldCode_L1 pc lp d) := E.loop (ref1_FieldCode_L1_ap E) d
theorem ref1_FieldCode_L1_of {d : ref1_FieldCode_L1_D} {x : ref1_FieldCode_L1_X} (h : ref1_FieldCode_L1_R (pcL prog cfg) lpL (ref1_FieldCode_L1 (pcL prog cfg) lpL) d = some x) : ref1_FieldCode_L1 (pcL prog cfg) lpL d = some x := lpL_step (ref1_FieldCode_L1_ap (appL prog cfg)) h

noncomputable def ref1_FieldCode_B (pc : PC prog) (lp : LP) (a0 : List Int) (a1 : List Int) : Option Int :=
  bnd (bnd (ref1_FieldName_c pc a0) fun (x0 : Bool) =>
  some x0) fun (x1 : Bool) =>
  ifd ((!x1) = true) (
    some 10) (
    ifd ((decide ((((List.length a1) : Nat) : Int) > 4000)) = true) (
      some 1) (
      bnd (ref1_FieldCode_L1 pc lp ((a1, 0, ()), ())) (Sum.elim (fun (y6 : ((Int × Unit) × Unit)) =>
      some y6.1.1) (fun (y7 : (((List Int) × Unit) × Unit)) =>
      bnd (bnd (ref1_Trim_c pc y7.1.1) fun (x8 : (List Int)) =>
      some x8) fun (x9 : (List Int)) =>
      ifd ((!(x9 == y7.1.1)) = true) (
        some 11) (
        some 0)))))
theorem ref1_FieldCode_eq (a0 : List Int) (a1 : List Int) (pc : PC prog) (lp : LP) : got ref1_FieldCode_t (pcall prog (runO prog cfg (hand prog cfg lp pc 6 tbl 5) pc 6) 21 [(.c (.str a0)), (.c (.str a1))]) = ref1_FieldCode_B pc lp a0 a1 := by kernel_rfl
theorem ref1_FieldCode_ap (E : AppE prog pcN pc lN lp) (a0 : List Int) (a1 : List Int) : Approx (fun N => ref1_FieldCode_B (pcN N) (lN N) a0 a1) (ref1_FieldCode_B pc lp a0 a1) := by
  delta ref1_FieldCode_B
  exact (Approx.bnd (Approx.bnd (ref1_FieldName_ca E) fun x0 => (Approx.const _)) fun x1 => (Approx.ifd (Approx.const _) (Approx.ifd (Approx.const _) (Approx.bnd (ref1_FieldCode_L1_a E) (Approx.sum (fun y6 => (Approx.const _)) (fun y7 => (Approx.bnd (Approx.bnd (ref1_Trim_ca E) fun x8 => (Approx.const _)) fun x9 => (Approx.ifd (Approx.const _) (Approx.const _)))))))))
theorem ref1_FieldCode_of {a0 : List Int} {a1 : List Int} {y : Int} (h : ref1_FieldCode_B (pcL prog cfg) lpL a0 a1 = some y) : ref1_FieldCode_c (pcL prog cfg) a0 a1 = some y := fn_of rfl (ref1_FieldCode_eq a0 a1) (ref1_FieldCode_ap (appN prog cfg) a0 a1) h

noncomputable def strings_ContainsAny_B (pc : PC prog) (lp : LP) (a0 : List Int) (a1 : List Int) : Option Bool :=
  bnd (bnd (strings_IndexAny_c pc a0 a1) fun (x0 : Int) =>
  some x0) fun (x1 : Int) =>
  some (decide (x1 ≥ 0))
theorem strings_ContainsAny_eq (a0 : List Int) (a1 : List Int) (pc : PC prog) (lp : LP) : got strings_ContainsAny_t (pcall prog (runO prog cfg (hand prog cfg lp pc 6 tbl 5) pc 6) 22 [(.c (.str a0)), (.c (.str a1))]) = strings_ContainsAny_B pc lp a0 a1 := by kernel_rfl
theorem strings_ContainsAny_ap (E : AppE prog pcN pc lN lp) (a0 : List Int) (a1 : List Int) : Approx (fun N => strings_ContainsAny_B (pcN N) (lN N) a0 a1) (strings_ContainsAny_B pc lp a0 a1) := by
  delta strings_ContainsAny_B
  exact (Approx.bnd (Approx.bnd (strings_IndexAny_ca E) fun x0 => (Approx.const _)) fun x1 => (Approx.const _))
theorem strings_ContainsAny_of {a0 : List Int} {a1 : List Int} {y : Bool} (h : strings_ContainsAny_B (pcL prog cfg) lpL a0 a1 = some y) : strings_ContainsAny_c (pcL prog cfg) a0 a1 = some y := fn_of rfl (strings_ContainsAny_eq a0 a1) (strings_ContainsAny_ap (appN prog cfg) a0 a1) h

-- strings_TrimLeft, part 6
abbrev strings_TrimLeft_C1_D := (((List Int) × ((List Int) × Unit)) × Unit)
abbrev strings_TrimLeft_C1_X := (((List Int) × ((List Int) × (Bool × Unit))) × Unit)
noncomputable def strings_TrimLeft_C1 (pc : PC prog) (lp : LP) (d : strings_TrimLeft_C1_D) : Option strings_TrimLeft_C1_X :=
  ifd ((d.1.1 == ([] : List Int)) = true) (
    ifd ((d.1.1 == ([] : List Int)) = true) (
      some ((d.1.1, d.1.2.1, true, ()), ())) (
      none)) (
    ifd ((d.1.1 == ([] : List Int)) = true) (
      some ((d.1.1, d.1.2.1, true, ()), ())) (
      some ((d.1.1, d.1.2.1, (d.1.2.1 == ([] : List Int)), ()), ())))
theorem strings_TrimLeft_C1_a (E : AppE prog pcN pc lN lp) {d : strings_TrimLeft_C1_D} : Approx (fun N => strings_TrimLeft_C1 (pcN N) (lN N) d) (strings_TrimLeft_C1 pc lp d) := by
  delta strings_TrimLeft_C1
  exact (Approx.ifd (Approx.ifd (Approx.const _) Approx.none) (Approx.ifd (Approx.const _) (Approx.const _)))

-- strings_TrimLeft, part 14
abbrev strings_TrimLeft_C2_D := (((List Int) × ((List Int) × Unit)) × Unit)
abbrev strings_TrimLeft_C2_X := (((List Int) × ((List Int) × (Bool × Unit))) × Unit)
noncomputable def strings_TrimLeft_C2 (pc : PC prog) (lp : LP) (d : strings_TrimLeft_C2_D) : Option strings_TrimLeft_C2_X :=
  ifd (((((List.length d.1.2.1) : Nat) : Int) == 1) = true) (
    ifd ((decide (((0 : Int) ≤ 0) ∧ ((0 : Int) < (((List.length d.1.2.1) : Nat) : Int)))) = true) (
      ifd (((((List.length d.1.2.1) : Nat) : Int) == 1) = true) (
        some ((d.1.1, d.1.2.1, (decide ((List.getD d.1.2.1 (Int.toNat 0) 0) < 128)), ()), ())) (
        some ((d.1.1, d.1.2.1, false, ()), ()))) (
      none)) (
    ifd (((((List.length d.1.2.1) : Nat) : Int) == 1) = true) (
      none) (
      some ((d.1.1, d.1.2.1, false, ()), ())))
theorem strings_TrimLeft_C2_a (E : AppE prog pcN pc lN lp) {d : strings_TrimLeft_C2_D} : Approx (fun N => strings_TrimLeft_C2 (pcN N) (lN N) d) (strings_TrimLeft_C2 pc lp d) := by
  delta strings_TrimLeft_C2
  exact (Approx.ifd (Approx.ifd (Approx.ifd (Approx.const _) (Approx.const _)) Approx.none) (Approx.ifd Approx.none (Approx.const _)))

-- strings_makeASCIISet, loop 26
abbrev strings_TrimLeft_L3_D := (((List Int) × (Unit × (Int × Unit))) × ((List Bool) × Unit))
abbrev strings_TrimLeft_L3_X := (((Unit × (Bool × Unit)) × ((List Bool) × Unit)) ⊕ ((Unit × Unit) × ((List Bool) × Unit)))
noncomputable def strings_TrimLeft_L3_R (pc : PC prog) (lp : LP) (ψ : strings_TrimLeft_L3_D → Option strings_TrimLeft_L3_X) (d : strings_TrimLeft_L3_D) : Option strings_TrimLeft_L3_X :=
  ifd ((decide (d.1.2.2.1 < (((List.length d.1.1) : Nat) : Int))) = true) (
    ifd ((decide (((0 : Int) ≤ d.1.2.2.1) ∧ (d.1.2.2.1 < (((List.length d.1.1) : Nat) : Int)))) = true) (
      ifd ((decide ((List.getD d.1.1 (Int.toNat d.1.2.2.1) 0) ≥ 128)) = true) (
        ifd ((decide ((List.length d.2.1) = 256)) = true) (
          ifd ((decide ((List.length d.2.1) = 256)) = true) (
            some (Sum.inl (((), false, ()), ((getRow d.2.1 false 0 256 : List Bool), ())))) (
            none)) (
          none)) (
        ifd (((decide (((0 : Int) ≤ (List.getD d.1.1 (Int.toNat d.1.2.2.1) 0)) ∧ ((List.getD d.1.1 (Int.toNat d.1.2.2.1) 0) < 256))) && (decide ((List.length d.2.1) = 256))) = true) (
          ifd ((decide ((Int.toNat (List.getD d.1.1 (Int.toNat d.1.2.2.1) 0)) < (List.length d.2.1))) = true) (
            ψ ((d.1.1, (), (Go.IntKind.wrap .i64 (d.1.2.2.1 + 1)), ()), ((List.set d.2.1 (Int.toNat (List.getD d.1.1 (Int.toNat d.1.2.2.1) 0)) true), ()))) (
            none)) (
          none))) (
      none)) (
    some (Sum.inr (((), ()), (d.2.1, ()))))
noncomputable def strings_TrimLeft_L3 (pc : PC prog) (lp : LP) (d : strings_TrimLeft_L3_D) : Option strings_TrimLeft_L3_X := lp strings_TrimLeft_L3_D strings_TrimLeft_L3_X (strings_TrimLeft_L3_R pc lp) d
theorem strings_TrimLeft_L3_ap (E : AppE prog pcN pc lN lp) : ContR (fun N => strings_TrimLeft_L3_R (pcN N) (lN N)) (strings_TrimLeft_L3_R pc lp) := fun ψN ψ h d => by
  delta strings_TrimLeft_L3_R
  exact (Approx.ifd (Approx.ifd (Approx.ifd (Approx.ifd (Approx.ifd (Approx.const _) Approx.none) Approx.none) (Approx.ifd (Approx.ifd (h _) Approx.none) Approx.none)) Approx.none) (Approx.const _))
theorem strings_TrimLeft_L3_a (E : AppE prog pcN pc lN lp) {d : strings_TrimLeft_L3_D} : Approx (fun N => strings_TrimLeft_L3 (pcN N) (lN N) d) (strings_TrimLeft_L3 pc lp d) := E.loop (strings_TrimLeft_L3_ap E) d
theorem strings_TrimLeft_L3_of {d : strings_TrimLeft_L3_D} {x : strings_TrimLeft_L3_X} (h : strings_TrimLeft_L3_R (pcL prog cfg) lpL (strings_TrimLeft_L3 (pcL prog cfg) lpL) d = some x) : strings_TrimLeft_L3 (pcL prog cfg) lpL d = some x := lpL_step (strings_TrimLeft_L3_ap (appL prog cfg)) h

-- strings_trimLeftASCII, loop 12
abbrev strings_TrimLeft_L4_D := (((List Int) × (Unit × Unit)) × ((List Bool) × ((List Bool) × Unit)))
abbrev strings_TrimLeft_L4_X := (((List Int) × Unit) × ((List Bool) × ((List Bool) × Unit)))
noncomputable def strings_TrimLeft_L4_R (pc : PC prog) (lp : LP) (ψ : strings_TrimLeft_L4_D → Option strings_TrimLeft_L4_X) (d : strings_TrimLeft_L4_D) : Option strings_TrimLeft_L4_X :=
  ifd ((decide ((((List.length d.1.1) : Nat) : Int) > 0)) = true) (
    ifd ((decide (((0 : Int) ≤ 0) ∧ ((0 : Int) < (((List.length d.1.1) : Nat) : Int)))) = true) (
      ifd (((decide (((0 : Int) ≤ (List.getD d.1.1 (Int.toNat 0) 0)) ∧ ((List.getD d.1.1 (Int.toNat 0) 0) < 256))) && (decide ((List.length d.2.2.1) = 256))) = true) (
        ifd ((decide ((Int.toNat (List.getD d.1.1 (Int.toNat 0) 0)) < (List.length d.2.2.1))) = true) (
          ifd ((!(List.getD d.2.2.1 (Int.toNat (List.getD d.1.1 (Int.toNat 0) 0)) false)) = true) (
            some ((d.1.1, ()), (d.2.1, d.2.2.1, ()))) (
            ifd ((decide (((0 : Int) ≤ 1) ∧ (((1 : Int) ≤ (((List.length d.1.1) : Nat) : Int)) ∧ ((((List.length d.1.1) : Nat) : Int) ≤ (((List.length d.1.1) : Nat) : Int))))) = true) (
              ψ (((List.drop (Int.toNat 1) (List.take (Int.toNat (((List.length d.1.1) : Nat) : Int)) d.1.1)), (), ()), (d.2.1, d.2.2.1, ()))) (
              none))) (
          none)) (
        none)) (
      none)) (
    some ((d.1.1, ()), (d.2.1, d.2.2.1, ())))
noncomputable def strings_TrimLeft_L4 (pc : PC prog) (lp : LP) (d : strings_TrimLeft_L4_D) : Option strings_TrimLeft_L4_X := lp strings_TrimLeft_L4_D strings_TrimLeft_L4_X (strings_TrimLeft_L4_R pc lp) d
theorem strings_TrimLeft_L4_ap (E : AppE prog pcN pc lN lp) : ContR (fun N => strings_TrimLeft_L4_R (pcN N) (lN N)) (strings_TrimLeft_L4_R pc lp) := fun ψN ψ h d => by
  delta strings_TrimLeft_L4_R
  exact (Approx.ifd (Approx.ifd (Approx.ifd (Approx.ifd (Approx.ifd (Approx.const _) (Approx.ifd (h _) Approx.none)) Approx.none) Approx.none) Approx.none) (Approx.const _))
theorem strings_TrimLeft_L4_a (E : AppE prog pcN pc lN lp) {d : strings_TrimLeft_L4_D} : Approx (fun N => strings_TrimLeft_L4 (pcN N) (lN N) d) (strings_TrimLeft_L4 pc lp d) := E.loop (strings_TrimLeft_L4_ap E) d
theorem strings_TrimLeft_L4_of {d : strings_TrimLeft_L4_D} {x : strings_TrimLeft_L4_X} (h : strings_TrimLeft_L4_R (pcL prog cfg) lpL (strings_TrimLeft_L4 (pcL prog cfg) lpL) d = some x) : strings_TrimLeft_L4 (pcL prog cfg) lpL d = some x := lpL_step (strings_TrimLeft_L4_ap (appL prog cfg)) h

-- strings_trimLeftASCII, loop 12
abbrev strings_TrimLeft_L5_D := (((List Int) × (Unit × Unit)) × ((List Bool) × ((List Bool) × Unit)))
abbrev strings_TrimLeft_L5_X := (((List Int) × Unit) × ((List Bool) × ((List Bool) × Unit)))
noncomputable def strings_TrimLeft_L5_R (pc : PC prog) (lp : LP) (ψ : strings_TrimLeft_L5_D → Option strings_TrimLeft_L5_X) (d : strings_TrimLeft_L5_D) : Option strings_TrimLeft_L5_X :=
  ifd ((decide ((((List.length d.1.1) : Nat) : Int) > 0)) = true) (
    ifd ((decide (((0 : Int) ≤ 0) ∧ ((0 : Int) < (((List.length d.1.1) : Nat) : Int)))) = true) (
      ifd (((decide (((0 : Int) ≤ (List.getD d.1.1 (Int.toNat 0) 0)) ∧ ((List.getD d.1.1 (Int.toNat 0) 0) < 256))) && (decide ((List.length d.2.2.1) = 256))) = true) (
        ifd ((decide ((Int.toNat (List.getD d.1.1 (Int.toNat 0) 0)) < (List.length d.2.2.1))) = true) (
          ifd ((!(List.getD d.2.2.1 (Int.toNat (List.getD d.1.1 (Int.toNat 0) 0)) false)) = true) (
            some ((d.1.1, ()), (d.2.1, d.2.2.1, ()))) (
            ifd ((decide (((0 : Int) ≤ 1) ∧ (((1 : Int) ≤ (((List.length d.1.1) : Nat) : Int)) ∧ ((((List.length d.1.1) : Nat) : Int) ≤ (((List.length d.1.1) : Nat) : Int))))) = true) (
              ψ (((List.drop (Int.toNat 1) (List.take (Int.toNat (((List.length d.1.1) : Nat) : Int)) d.1.1)), (), ()), (d.2.1, d.2.2.1, ()))) (
              none))) (
          none)) (
        none)) (
      none)) (
    some ((d.1.1, ()), (d.2.1, d.2.2.1, ())))
noncomputable def strings_TrimLeft_L5 (pc : PC prog) (lp : LP) (d : strings_TrimLeft_L5_D) : Option strings_TrimLeft_L5_X := lp strings_TrimLeft_L5_D strings_TrimLeft_L5_X (strings_TrimLeft_L5_R pc lp) d
theorem strings_TrimLeft_L5_ap (E : AppE prog pcN pc lN lp) : ContR (fun N => strings_TrimLeft_L5_R (pcN N) (lN N)) (strings_TrimLeft_L5_R pc lp) := fun ψN ψ h d => by
  delta strings_TrimLeft_L5_R
  exact (Approx.ifd (Approx.ifd (Approx.ifd (Approx.ifd (Approx.ifd (Approx.const _) (Approx.ifd (h _) Approx.none)) Approx.none) Approx.none) Approx.none) (Approx.const _))
theorem strings_TrimLeft_L5_a (E : AppE prog pcN pc lN lp) {d : strings_TrimLeft_L5_D} : Approx (fun N => strings_TrimLeft_L5 (pcN N) (lN N) d) (strings_TrimLeft_L5 pc lp d) := E.loop (strings_TrimLeft_L5_ap E) d
theorem strings_TrimLeft_L5_of {d : strings_TrimLeft_L5_D} {x : strings_TrimLeft_L5_X} (h : strings_TrimLeft_L5_R (pcL prog cfg) lpL (strings_TrimLeft_L5 (pcL prog cfg) lpL) d = some x) : strings_TrimLeft_L5 (pcL prog cfg) lpL d = some x := lpL_step (strings_TrimLeft_L5_ap (appL prog cfg)) h

noncomputable def strings_TrimLeft_B (pc : PC prog) (lp : LP) (a0 : List Int) (a1 : List Int) : Option (List Int) :=
  bnd (strings_TrimLeft_C1 pc lp ((a0, a1, ()), ())) (fun (y0 : (((List Int) × ((List Int) × (Bool × Unit))) × Unit)) =>
  ifd (y0.1.2.2.1 = true) (
    some y0.1.1) (
    bnd (strings_TrimLeft_C2 pc lp ((y0.1.1, y0.1.2.1, ()), ())) (fun (y1 : (((List Int) × ((List Int) × (Bool × Unit))) × Unit)) =>
    ifd (y1.1.2.2.1 = true) (
      ifd ((decide (((0 : Int) ≤ 0) ∧ ((0 : Int) < (((List.length y1.1.2.1) : Nat) : Int)))) = true) (
        bnd (bnd (strings_trimLeftByte_c pc y1.1.1 (List.getD y1.1.2.1 (Int.toNat 0) 0)) fun (x2 : (List Int)) =>
        some x2) fun (x3 : (List Int)) =>
        some x3) (
        none)) (
      bnd (strings_TrimLeft_L3 pc lp ((y1.1.2.1, (), 0, ()), ((List.replicate 256 false : List Bool), ()))) (Sum.elim (fun (y4 : ((Unit × (Bool × Unit)) × ((List Bool) × Unit))) =>
      ifd ((List.length y4.2.1) = 256) (
        ifd (y4.1.2.1 = true) (
          bnd (strings_TrimLeft_L4 pc lp ((y1.1.1, (), ()), (y4.2.1, (getRow y4.2.1 false 0 256 : List Bool), ()))) (fun (y5 : (((List Int) × Unit) × ((List Bool) × ((List Bool) × Unit)))) =>
          some y5.1.1)) (
          bnd (bnd (strings_trimLeftUnicode_c pc y1.1.1 y1.1.2.1) fun (x6 : (List Int)) =>
          some x6) fun (x7 : (List Int)) =>
          some x7)) (
        none)) (fun (y8 : ((Unit × Unit) × ((List Bool) × Unit))) =>
      ifd ((decide ((List.length y8.2.1) = 256)) = true) (
        ifd ((decide ((List.length y8.2.1) = 256)) = true) (
          ifd ((List.length (getRow y8.2.1 false 0 256 : List Bool)) = 256) (
            bnd (strings_TrimLeft_L5 pc lp ((y1.1.1, (), ()), ((getRow y8.2.1 false 0 256 : List Bool), (getRow (getRow y8.2.1 false 0 256 : List Bool) false 0 256 : List Bool), ()))) (fun (y9 : (((List Int) × Unit) × ((List Bool) × ((List Bool) × Unit)))) =>
            some y9.1.1)) (
            none)) (
          none)) (
        none)))))))
theorem strings_TrimLeft_eq (a0 : List Int) (a1 : List Int) (pc : PC prog) (lp : LP) : got strings_TrimLeft_t (pcall prog (runO prog cfg (hand prog cfg lp pc 6 tbl 5) pc 6) 23 [(.c (.str a0)), (.c (.str a1))]) = strings_TrimLeft_B pc lp a0 a1 := by kernel_rfl
theorem strings_TrimLeft_ap (E : AppE prog pcN pc lN lp) (a0 : List Int) (a1 : List Int) : Approx (fun N => strings_TrimLeft_B (pcN N) (lN N) a0 a1) (strings_TrimLeft_B pc lp a0 a1) := by
  delta strings_TrimLeft_B
  exact (Approx.bnd (strings_TrimLeft_C1_a E) (fun y0 => (Approx.ifd (Approx.const _) (Approx.bnd (strings_TrimLeft_C2_a E) (fun y1 => (Approx.ifd (Approx.ifd (Approx.bnd (Approx.bnd (strings_trimLeftByte_ca E) fun x2 => (Approx.const _)) fun x3 => (Approx.const _)) Approx.none) (Approx.bnd (strings_TrimLeft_L3_a E) (Approx.sum (fun y4 => (Approx.ifd (Approx.ifd (Approx.bnd (strings_TrimLeft_L4_a E) (fun y5 => (Approx.const _))) (Approx.bnd (Approx.bnd (strings_trimLeftUnicode_ca E) fun x6 => (Approx.const _)) fun x7 => (Approx.const _))) Approx.none)) (fun y8 => (Approx.ifd (Approx.ifd (Approx.ifd (Approx.bnd (strings_TrimLeft_L5_a E) (fun y9 => (Approx.const _))) Approx.none) Approx.none) Approx.none))))))))))
theorem strings_TrimLeft_of {a0 : List Int} {a1 : List Int} {y : (List Int)} (h : strings_TrimLeft_B (pcL prog cfg) lpL a0 a1 = some y) : strings_TrimLeft_c (pcL prog cfg) a0 a1 = some y := fn_of rfl (strings_TrimLeft_eq a0 a1) (strings_TrimLeft_ap (appN prog cfg) a0 a1) h

noncomputable def ref1_In_B (pc : PC prog) (lp : LP) (a0 : Int) (a1 : Int) (a2 : Int) : Option Bool :=
  ifd ((decide (a0 ≥ a1)) = true) (
    ifd ((decide (a0 ≥ a1)) = true) (
      some (decide (a0 ≤ a2))) (
      some false)) (
    ifd ((decide (a0 ≥ a1)) = true) (
      none) (
      some false))
theorem ref1_In_eq (a0 : Int) (a1 : Int) (a2 : Int) (pc : PC prog) (lp : LP) : got ref1_In_t (pcall prog (runO prog cfg (hand prog cfg lp pc 6 tbl 5) pc 6) 25 [(.c (.int .i64 a0)), (.c (.int .i64 a1)), (.c (.int .i64 a2))]) = ref1_In_B pc lp a0 a1 a2 := by kernel_rfl
theorem ref1_In_ap (E : AppE prog pcN pc lN lp) (a0 : Int) (a1 : Int) (a2 : Int) : Approx (fun N => ref1_In_B (pcN N) (lN N) a0 a1 a2) (ref1_In_B pc lp a0 a1 a2) := by
  delta ref1_In_B
  exact (Approx.ifd (Approx.ifd (Approx.const _) (Approx.const _)) (Approx.ifd Approx.none (Approx.const _)))
theorem ref1_In_of {a0 : Int} {a1 : Int} {a2 : Int} {y : Bool} (h : ref1_In_B (pcL prog cfg) lpL a0 a1 a2 = some y) : ref1_In_c (pcL prog cfg) a0 a1 a2 = some y := fn_of rfl (ref1_In_eq a0 a1 a2) (ref1_In_ap (appN prog cfg) a0 a1 a2) h

-- fold_IsName, loop 26
abbrev fold_IsName_L1_D := (((List Int) × (Int × (Int × Unit))) × Unit)
abbrev fold_IsName_L1_X := (((Bool × Unit) × Unit) ⊕ (((List Int) × Unit) × Unit))
noncomputable def fold_IsName_L1_R (pc : PC prog) (lp : LP) (ψ : fold_IsName_L1_D → Option fold_IsName_L1_X) (d : fold_IsName_L1_D) : Option fold_IsName_L1_X :=
  ifd ((decide (d.1.2.2.1 < d.1.2.1)) = true) (
    ifd ((decide (((0 : Int) ≤ d.1.2.2.1) ∧ (d.1.2.2.1 < (((List.length d.1.1) : Nat) : Int)))) = true) (
      ifd ((decide ((List.getD d.1.1 (Int.toNat d.1.2.2.1) 0) ≤ 32)) = true) (
        ifd ((decide ((List.getD d.1.1 (Int.toNat d.1.2.2.1) 0) ≤ 32)) = true) (
          some (Sum.inl ((false, ()), ()))) (
          none)) (
        ifd ((decide (((0 : Int) ≤ d.1.2.2.1) ∧ (d.1.2.2.1 < (((List.length d.1.1) : Nat) : Int)))) = true) (
          ifd ((decide ((List.getD d.1.1 (Int.toNat d.1.2.2.1) 0) ≤ 32)) = true) (
            some (Sum.inl ((false, ()), ()))) (
            ifd ((decide ((List.getD d.1.1 (Int.toNat d.1.2.2.1) 0) > 126)) = true) (
              ifd ((decide ((List.getD d.1.1 (Int.toNat d.1.2.2.1) 0) > 126)) = true) (
                some (Sum.inl ((false, ()), ()))) (
                none)) (
              ifd ((decide (((0 : Int) ≤ d.1.2.2.1) ∧ (d.1.2.2.1 < (((List.length d.1.1) : Nat) : Int)))) = true) (
                ifd ((decide ((List.getD d.1.1 (Int.toNat d.1.2.2.1) 0) > 126)) = true) (
                  some (Sum.inl ((false, ()), ()))) (
                  ifd (((List.getD d.1.1 (Int.toNat d.1.2.2.1) 0) == 58) = true) (
                    some (Sum.inl ((false, ()), ()))) (
                    ψ ((d.1.1, d.1.2.1, (Go.IntKind.wrap .i64 (d.1.2.2.1 + 1)), ()), ())))) (
                none)))) (
          none))) (
      none)) (
    some (Sum.inr ((d.1.1, ()), ())))
noncomputable def fold_IsName_L1 (pc : PC prog) (lp : LP) (d : fold_IsName_L1_D) : Option fold_IsName_L1_X := lp fold_IsName_L1_D fold_IsName_L1_X (fold_IsName_L1_R pc lp) d
theorem fold_IsName_L1_ap (E : AppE prog pcN pc lN lp) : ContR (fun N => fold_IsName_L1_R (pcN N) (lN N)) (fold_IsName_L1_R pc lp) := fun ψN ψ h d => by
  delta fold_IsName_L1_R
  exact (Approx.ifd (Approx.ifd (Approx.ifd (Approx.ifd (Approx.const _) Approx.none) (Approx.ifd (Approx.ifd (Approx.const _) (Approx.ifd (Approx.ifd (Approx.const _) Approx.none) (Approx.ifd (Approx.ifd (Approx.const _) (Approx.ifd (Approx.const _) (h _))) Approx.none))) Approx.none)) Approx.none) (Approx.const _))
theorem fold_IsName_L1_a (E : AppE prog pcN pc lN lp) {d : fold_IsName_L1_D} : Approx (fun N => fold_IsName_L1 (pcN N) (lN N) d) (fold_IsName_L1 pc lp d) := E.loop (fold_IsName_L1_ap E) d
theorem fold_IsName_L1_of {d : fold_IsName_L1_D} {x : fold_IsName_L1_X} (h : fold_IsName_L1_R (pcL prog cfg) lpL (fold_IsName_L1 (pcL prog cfg) lpL) d = some x) : fold_IsName_L1 (pcL prog cfg) lpL d = some x := lpL_step (fold_IsName_L1_ap (appL prog cfg)) h

noncomputable def fold_IsName_B (pc : PC prog) (lp : LP) (a0 : List Int) : Option Bool :=
  bnd (fold_IsName_L1 pc lp ((a0, (((List.length a0) : Nat) : Int), 0, ()), ())) (Sum.elim (fun (y0 : ((Bool × Unit) × Unit)) =>
  some y0.1.1) (fun (y1 : (((List Int) × Unit) × Unit)) =>
  ifd ((decide ((((List.length y1.1.1) : Nat) : Int) ≥ 1)) = true) (
    ifd ((decide ((((List.length y1.1.1) : Nat) : Int) ≥ 1)) = true) (
      some (decide ((((List.length y1.1.1) : Nat) : Int) ≤ 60))) (
      some false)) (
    ifd ((decide ((((List.length y1.1.1) : Nat) : Int) ≥ 1)) = true) (
      none) (
      some false))))
theorem fold_IsName_eq (a0 : List Int) (pc : PC prog) (lp : LP) : got fold_IsName_t (pcall prog (runO prog cfg (hand prog cfg lp pc 6 tbl 5) pc 6) 26 [(.c (.str a0))]) = fold_IsName_B pc lp a0 := by kernel_rfl
theorem fold_IsName_ap (E : AppE prog pcN pc lN lp) (a0 : List Int) : Approx (fun N => fold_IsName_B (pcN N) (lN N) a0) (fold_IsName_B pc lp a0) := by
  delta fold_IsName_B
  exact (Approx.bnd (fold_IsName_L1_a E) (Approx.sum (fun y0 => (Approx.const _)) (fun y1 => (Approx.ifd (Approx.ifd (Approx.const _) (Approx.const _)) (Approx.ifd Approx.none (Approx.const _))))))
theorem fold_IsName_of {a0 : List Int} {y : Bool} (h : fold_IsName_B (pcL prog cfg) lpL a0 = some y) : fold_IsName_c (pcL prog cfg) a0 = some y := fn_of rfl (fold_IsName_eq a0) (fold_IsName_ap (appN prog cfg) a0) h

-- strings_Trim, part 6
abbrev strings_Trim_C1_D := (((List Int) × ((List Int) × Unit)) × Unit)
abbrev strings_Trim_C1_X := (((List Int) × ((List Int) × (Bool × Unit))) × Unit)
noncomputable def strings_Trim_C1 (pc : PC prog) (lp : LP) (d : strings_Trim_C1_D) : Option strings_Trim_C1_X :=
  ifd ((d.1.1 == ([] : List Int)) = true) (
    ifd ((d.1.1 == ([] : List Int)) = true) (
      some ((d.1.1, d.1.2.1, true, ()), ())) (
      none)) (
    ifd ((d.1.1 == ([] : List Int)) = true) (
      some ((d.1.1, d.1.2.1, true, ()), ())) (
      some ((d.1.1, d.1.2.1, (d.1.2.1 == ([] : List Int)), ()), ())))
theorem strings_Trim_C1_a (E : AppE prog pcN pc lN lp) {d : strings_Trim_C1_D} : Approx (fun N => strings_Trim_C1 (pcN N) (lN N) d) (strings_Trim_C1 pc lp d) := by
  delta strings_Trim_C1
  exact (Approx.ifd (Approx.ifd (Approx.const _) Approx.none) (Approx.ifd (Approx.const _) (Approx.const _)))

-- strings_Trim, part 14
abbrev strings_Trim_C2_D := (((List Int) × ((List Int) × Unit)) × Unit)
abbrev strings_Trim_C2_X := (((List Int) × ((List Int) × (Bool × Unit))) × Unit)
noncomputable def strings_Trim_C2 (pc : PC prog) (lp : LP) (d : strings_Trim_C2_D) : Option strings_Trim_C2_X :=
  ifd (((((List.length d.1.2.1) : Nat) : Int) == 1) = true) (
    ifd ((decide (((0 : Int) ≤ 0) ∧ ((0 : Int) < (((List.length d.1.2.1) : Nat) : Int)))) = true) (
      ifd (((((List.length d.1.2.1) : Nat) : Int) == 1) = true) (
        some ((d.1.1, d.1.2.1, (decide ((List.getD d.1.2.1 (Int.toNat 0) 0) < 128)), ()), ())) (
        some ((d.1.1, d.1.2.1, false, ()), ()))) (
      none)) (
    ifd (((((List.length d.1.2.1) : Nat) : Int) == 1) = true) (
      none) (
      some ((d.1.1, d.1.2.1, false, ()), ())))
theorem strings_Trim_C2_a (E : AppE prog pcN pc lN lp) {d : strings_Trim_C2_D} : Approx (fun N => strings_Trim_C2 (pcN N) (lN N) d) (strings_Trim_C2 pc lp d) := by
  delta strings_Trim_C2
  exact (Approx.ifd (Approx.ifd (Approx.ifd (Approx.const _) (Approx.const _)) Approx.none) (Approx.ifd Approx.none (Approx.const _)))

-- strings_makeASCIISet, loop 26
abbrev strings_Trim_L3_D := (((List Int) × (Unit × (Int × Unit))) × ((List Bool) × Unit))
abbrev strings_Trim_L3_X := (((Unit × (Bool × Unit)) × ((List Bool) × Unit)) ⊕ ((Unit × Unit) × ((List Bool) × Unit)))
noncomputable def strings_Trim_L3_R (pc : PC prog) (lp : LP) (ψ : strings_Trim_L3_D → Option strings_Trim_L3_X) (d : strings_Trim_L3_D) : Option strings_Trim_L3_X :=
  ifd ((decide (d.1.2.2.1 < (((List.length d.1.1) : Nat) : Int))) = true) (
    ifd ((decide (((0 : Int) ≤ d.1.2.2.1) ∧ (d.1.2.2.1 < (((List.length d.1.1) : Nat) : Int)))) = true) (
      ifd ((decide ((List.getD d.1.1 (Int.toNat d.1.2.2.1) 0) ≥ 128)) = true) (
        ifd ((decide ((List.length d.2.1) = 256)) = true) (
          ifd ((decide ((List.length d.2.1) = 256)) = true) (
            some (Sum.inl (((), false, ()), ((getRow d.2.1 false 0 256 : List Bool), ())))) (
            none)) (
          none)) (
        ifd (((decide (((0 : Int) ≤ (List.getD d.1.1 (Int.toNat d.1.2.2.1) 0)) ∧ ((List.getD d.1.1 (Int.toNat d.1.2.2.1) 0) < 256))) && (decide ((List.length d.2.1) = 256))) = true) (
          ifd ((decide ((Int.toNat (List.getD d.1.1 (Int.toNat d.1.2.2.1) 0)) < (List.length d.2.1))) = true) (
            ψ ((d.1.1, (), (Go.IntKind.wrap .i64 (d.1.2.2.1 + 1)), ()), ((List.set d.2.1 (Int.toNat (List.getD d.1.1 (Int.toNat d.1.2.2.1) 0)) true), ()))) (
            none)) (
          none))) (
      none)) (
    some (Sum.inr (((), ()), (d.2.1, ()))))
noncomputable def strings_Trim_L3 (pc : PC prog) (lp : LP) (d : strings_Trim_L3_D) : Option strings_Trim_L3_X := lp strings_Trim_L3_D strings_Trim_L3_X (strings_Trim_L3_R pc lp) d
theorem strings_Trim_L3_ap (E : AppE prog pcN pc lN lp) : ContR (fun N => strings_Trim_L3_R (pcN N) (lN N)) (strings_Trim_L3_R pc lp) := fun ψN ψ h d => by
  delta strings_Trim_L3_R
  exact (Approx.ifd (Approx.ifd (Approx.ifd (Approx.ifd (Approx.ifd (Approx.const _) Approx.none) Approx.none) (Approx.ifd (Approx.ifd (h _) Approx.none) Approx.none)) Approx.none) (Approx.const _))
theorem strings_Trim_L3_a (E : AppE prog pcN pc lN lp) {d : strings_Trim_L3_D} : Approx (fun N => strings_Trim_L3 (pcN N) (lN N) d) (strings_Trim_L3 pc lp d) := E.loop (strings_Trim_L3_ap E) d
theorem strings_Trim_L3_of {d : strings_Trim_L3_D} {x : strings_Trim_L3_X} (h : strings_Trim_L3_R (pcL prog cfg) lpL (strings_Trim_L3 (pcL prog cfg) lpL) d = some x) : strings_Trim_L3 (pcL prog cfg) lpL d = some x := lpL_step (strings_Trim_L3_ap (appL prog cfg)) h

-- strings_trimRightASCII, loop 12
abbrev strings_Trim_L4_D := (((List Int) × (Unit × Unit)) × ((List Bool) × ((List Bool) × Unit)))
abbrev strings_Trim_L4_X := (((List Int) × Unit) × ((List Bool) × ((List Bool) × Unit)))
noncomputable def strings_Trim_L4_R (pc : PC prog) (lp : LP) (ψ : strings_Trim_L4_D → Option strings_Trim_L4_X) (d : strings_Trim_L4_D) : Option strings_Trim_L4_X :=
  ifd ((decide ((((List.length d.1.1) : Nat) : Int) > 0)) = true) (
    ifd ((decide (((0 : Int) ≤ (Go.IntKind.wrap .i64 ((((List.length d.1.1) : Nat) : Int) - 1))) ∧ ((Go.IntKind.wrap .i64 ((((List.length d.1.1) : Nat) : Int) - 1)) < (((List.length d.1.1) : Nat) : Int)))) = true) (
      ifd (((decide (((0 : Int) ≤ (List.getD d.1.1 (Int.toNat (Go.IntKind.wrap .i64 ((((List.length d.1.1) : Nat) : Int) - 1))) 0)) ∧ ((List.getD d.1.1 (Int.toNat (Go.IntKind.wrap .i64 ((((List.length d.1.1) : Nat) : Int) - 1))) 0) < 256))) && (decide ((List.length d.2.2.1) = 256))) = true) (
        ifd ((decide ((Int.toNat (List.getD d.1.1 (Int.toNat (Go.IntKind.wrap .i64 ((((List.length d.1.1) : Nat) : Int) - 1))) 0)) < (List.length d.2.2.1))) = true) (
          ifd ((!(List.getD d.2.2.1 (Int.toNat (List.getD d.1.1 (Int.toNat (Go.IntKind.wrap .i64 ((((List.length d.1.1) : Nat) : Int) - 1))) 0)) false)) = true) (
            some ((d.1.1, ()), (d.2.1, d.2.2.1, ()))) (
            ifd ((decide (((0 : Int) ≤ 0) ∧ (((0 : Int) ≤ (Go.IntKind.wrap .i64 ((((List.length d.1.1) : Nat) : Int) - 1))) ∧ ((Go.IntKind.wrap .i64 ((((List.length d.1.1) : Nat) : Int) - 1)) ≤ (((List.length d.1.1) : Nat) : Int))))) = true) (
              ψ (((List.drop (Int.toNat 0) (List.take (Int.toNat (Go.IntKind.wrap .i64 ((((List.length d.1.1) : Nat) : Int) - 1))) d.1.1)), (), ()), (d.2.1, d.2.2.1, ()))) (
              none))) (
          none)) (
        none)) (
      none)) (
    some ((d.1.1, ()), (d.2.1, d.2.2.1, ())))
noncomputable def strings_Trim_L4 (pc : PC prog) (lp : LP) (d : strings_Trim_L4_D) : Option strings_Trim_L4_X := lp strings_Trim_L4_D strings_Trim_L4_X (strings_Trim_L4_R pc lp) d
theorem strings_Trim_L4_ap (E : AppE prog pcN pc lN lp) : ContR (fun N => strings_Trim_L4_R (pcN N) (lN N)) (strings_Trim_L4_R pc lp) := fun ψN ψ h d => by
  delta strings_Trim_L4_R
  exact (Approx.ifd (Approx.ifd (Approx.ifd (Approx.ifd (Approx.ifd (Approx.const _) (Approx.ifd (h _) Approx.none)) Approx.none) Approx.none) Approx.none) (Approx.const _))
theorem strings_Trim_L4_a (E : AppE prog pcN pc lN lp) {d : strings_Trim_L4_D} : Approx (fun N => strings_Trim_L4 (pcN N) (lN N) d) (strings_Trim_L4 pc lp d) := E.loop (strings_Trim_L4_ap E) d
theorem strings_Trim_L4_of {d : strings_Trim_L4_D} {x : strings_Trim_L4_X} (h : strings_Trim_L4_R (pcL prog cfg) lpL (strings_Trim_L4 (pcL prog cfg) lpL) d = some x) : strings_Trim_L4 (pcL prog cfg) lpL d = some x := lpL_step (strings_Trim_L4_ap (appL prog cfg)) h

-- strings_trimLeftASCII, loop 12
abbrev strings_Trim_L5_D := (((List Int) × (Unit × Unit)) × ((List Bool) × ((List Bool) × Unit)))
abbrev strings_Trim_L5_X := (((List Int) × Unit) × ((List Bool) × ((List Bool) × Unit)))
noncomputable def strings_Trim_L5_R (pc : PC prog) (lp : LP) (ψ : strings_Trim_L5_D → Option strings_Trim_L5_X) (d : strings_Trim_L5_D) : Option strings_Trim_L5_X :=
  ifd ((decide ((((List.length d.1.1) : Nat) : Int) > 0)) = true) (
    ifd ((decide (((0 : Int) ≤ 0) ∧ ((0 : Int) < (((List.length d.1.1) : Nat) : Int)))) = true) (
      ifd (((decide (((0 : Int) ≤ (List.getD d.1.1 (Int.toNat 0) 0)) ∧ ((List.getD d.1.1 (Int.toNat 0) 0) < 256))) && (decide ((List.length d.2.2.1) = 256))) = true) (
        ifd ((decide ((Int.toNat (List.getD d.1.1 (Int.toNat 0) 0)) < (List.length d.2.2.1))) = true) (
          ifd ((!(List.getD d.2.2.1 (Int.toNat (List.getD d.1.1 (Int.toNat 0) 0)) false)) = true) (
            some ((d.1.1, ()), (d.2.1, d.2.2.1, ()))) (
            ifd ((decide (((0 : Int) ≤ 1) ∧ (((1 : Int) ≤ (((List.length d.1.1) : Nat) : Int)) ∧ ((((List.length d.1.1) : Nat) : Int) ≤ (((List.length d.1.1) : Nat) : Int))))) = true) (
              ψ (((List.drop (Int.toNat 1) (List.take (Int.toNat (((List.length d.1.1) : Nat) : Int)) d.1.1)), (), ()), (d.2.1, d.2.2.1, ()))) (
              none))) (
          none)) (
        none)) (
      none)) (
    some ((d.1.1, ()), (d.2.1, d.2.2.1, ())))
noncomputable def strings_Trim_L5 (pc : PC prog) (lp : LP) (d : strings_Trim_L5_D) : Option strings_Trim_L5_X := lp strings_Trim_L5_D strings_Trim_L5_X (strings_Trim_L5_R pc lp) d
theorem strings_Trim_L5_ap (E : AppE prog pcN pc lN lp) : ContR (fun N => strings_Trim_L5_R (pcN N) (lN N)) (strings_Trim_L5_R pc lp) := fun ψN ψ h d => by
  delta strings_Trim_L5_R
  exact (Approx.ifd (Approx.ifd (Approx.ifd (Approx.ifd (Approx.ifd (Approx.const _) (Approx.ifd (h _) Approx.none)) Approx.none) Approx.none) Approx.none) (Approx.const _))
theorem strings_Trim_L5_a (E : AppE prog pcN pc lN lp) {d : strings_Trim_L5_D} : Approx (fun N => strings_Trim_L5 (pcN N) (lN N) d) (strings_Trim_L5 pc lp d) := E.loop (strings_Trim_L5_ap E) d
theorem strings_Trim_L5_of {d : strings_Trim_L5_D} {x : strings_Trim_L5_X} (h : strings_Trim_L5_R (pcL prog cfg) lpL (strings_Trim_L5 (pcL prog cfg) lpL) d = some x) : strings_Trim_L5 (pcL prog cfg) lpL d = some x := lpL_step (strings_Trim_L5_ap (appL prog cfg)) h

-- strings_trimRightASCII, loop 12
abbrev strings_Trim_L6_D := (((List Int) × (Unit × Unit)) × ((List Bool) × ((List Bool) × Unit)))
abbrev strings_Trim_L6_X := (((List Int) × Unit) × ((List Bool) × ((List Bool) × Unit)))
noncomputable def strings_Trim_L6_R (pc : PC prog) (lp : LP) (ψ : strings_Trim_L6_D → Option strings_Trim_L6_X) (d : strings_Trim_L6_D) : Option strings_Trim_L6_X :=
  ifd ((decide ((((List.length d.1.1) : Nat) : Int) > 0)) = true) (
    ifd ((decide (((0 : Int) ≤ (Go.IntKind.wrap .i64 ((((List.length d.1.1) : Nat) : Int) - 1))) ∧ ((Go.IntKind.wrap .i64 ((((List.length d.1.1) : Nat) : Int) - 1)) < (((List.length d.1.1) : Nat) : Int)))) = true) (
      ifd (((decide (((0 : Int) ≤ (List.getD d.1.1 (Int.toNat (Go.IntKind.wrap .i64 ((((List.length d.1.1) : Nat) : Int) - 1))) 0)) ∧ ((List.getD d.1.1 (Int.toNat (Go.IntKind.wrap .i64 ((((List.length d.1.1) : Nat) : Int) - 1))) 0) < 256))) && (decide ((List.length d.2.2.1) = 256))) = true) (
        ifd ((decide ((Int.toNat (List.getD d.1.1 (Int.toNat (Go.IntKind.wrap .i64 ((((List.length d.1.1) : Nat) : Int) - 1))) 0)) < (List.length d.2.2.1))) = true) (
          ifd ((!(List.getD d.2.2.1 (Int.toNat (List.getD d.1.1 (Int.toNat (Go.IntKind.wrap .i64 ((((List.length d.1.1) : Nat) : Int) - 1))) 0)) false)) = true) (
            some ((d.1.1, ()), (d.2.1, d.2.2.1, ()))) (
            ifd ((decide (((0 : Int) ≤ 0) ∧ (((0 : Int) ≤ (Go.IntKind.wrap .i64 ((((List.length d.1.1) : Nat) : Int) - 1))) ∧ ((Go.IntKind.wrap .i64 ((((List.length d.1.1) : Nat) : Int) - 1)) ≤ (((List.length d.1.1) : Nat) : Int))))) = true) (
              ψ (((List.drop (Int.toNat 0) (List.take (Int.toNat (Go.IntKind.wrap .i64 ((((List.length d.1.1) : Nat) : Int) - 1))) d.1.1)), (), ()), (d.2.1, d.2.2.1, ()))) (
              none))) (
          none)) (
        none)) (
      none)) (
    some ((d.1.1, ()), (d.2.1, d.2.2.1, ())))
noncomputable def strings_Trim_L6 (pc : PC prog) (lp : LP) (d : strings_Trim_L6_D) : Option strings_Trim_L6_X := lp strings_Trim_L6_D strings_Trim_L6_X (strings_Trim_L6_R pc lp) d
theorem strings_Trim_L6_ap (E : AppE prog pcN pc lN lp) : ContR (fun N => strings_Trim_L6_R (pcN N) (lN N)) (strings_Trim_L6_R pc lp) := fun ψN ψ h d => by
  delta strings_Trim_L6_R
  exact (Approx.ifd (Approx.ifd (Approx.ifd (Approx.ifd (Approx.ifd (Approx.const _) (Approx.ifd (h _) Approx.none)) Approx.none) Approx.none) Approx.none) (Approx.const _))
theorem strings_Trim_L6_a (E : AppE prog pcN pc lN lp) {d : strings_Trim_L6_D} : Approx (fun N => strings_Trim_L6 (pcN N) (lN N) d) (strings_Trim_L6 pc lp d) := E.loop (strings_Trim_L6_ap E) d
theorem strings_Trim_L6_of {d : strings_Trim_L6_D} {x : strings_Trim_L6_X} (h : strings_Trim_L6_R (pcL prog cfg) lpL (strings_Trim_L6 (pcL prog cfg) lpL) d = some x) : strings_Trim_L6 (pcL prog cfg) lpL d = some x := lpL_step (strings_Trim_L6_ap (appL prog cfg)) h

-- strings_trimLeftASCII, loop 12
abbrev strings_Trim_L7_D := (((List Int) × (Unit × Unit)) × ((List Bool) × ((List Bool) × Unit)))
abbrev strings_Trim_L7_X := (((List Int) × Unit) × ((List Bool) × ((List Bool) × Unit)))
noncomputable def strings_Trim_L7_R (pc : PC prog) (lp : LP) (ψ : strings_Trim_L7_D → Option strings_Trim_L7_X) (d : strings_Trim_L7_D) : Option strings_Trim_L7_X :=
  ifd ((decide ((((List.length d.1.1) : Nat) : Int) > 0)) = true) (
    ifd ((decide (((0 : Int) ≤ 0) ∧ ((0 : Int) < (((List.length d.1.1) : Nat) : Int)))) = true) (
      ifd (((decide (((0 : Int) ≤ (List.getD d.1.1 (Int.toNat 0) 0)) ∧ ((List.getD d.1.1 (Int.toNat 0) 0) < 256))) && (decide ((List.length d.2.2.1) = 256))) = true) (
        ifd ((decide ((Int.toNat (List.getD d.1.1 (Int.toNat 0) 0)) < (List.length d.2.2.1))) = true) (
          ifd ((!(List.getD d.2.2.1 (Int.toNat (List.getD d.1.1 (Int.toNat 0) 0)) false)) = true) (
            some ((d.1.1, ()), (d.2.1, d.2.2.1, ()))) (
            ifd ((decide (((0 : Int) ≤ 1) ∧ (((1 : Int) ≤ (((List.length d.1.1) : Nat) : Int)) ∧ ((((List.length d.1.1) : Nat) : Int) ≤ (((List.length d.1.1) : Nat) : Int))))) = true) (
              ψ (((List.drop (Int.toNat 1) (List.take (Int.toNat (((List.length d.1.1) : Nat) : Int)) d.1.1)), (), ()), (d.2.1, d.2.2.1, ()))) (
              none))) (
          none)) (
        none)) (
      none)) (
    some ((d.1.1, ()), (d.2.1, d.2.2.1, ())))
noncomputable def strings_Trim_L7 (pc : PC prog) (lp : LP) (d : strings_Trim_L7_D) : Option strings_Trim_L7_X := lp strings_Trim_L7_D strings_Trim_L7_X (strings_Trim_L7_R pc lp) d
theorem strings_Trim_L7_ap (E : AppE prog pcN pc lN lp) : ContR (fun N => strings_Trim_L7_R (pcN N) (lN N)) (strings_Trim_L7_R pc lp) := fun ψN ψ h d => by
  delta strings_Trim_L7_R
  exact (Approx.ifd (Approx.ifd (Approx.ifd (Approx.ifd (Approx.ifd (Approx.const _) (Approx.ifd (h _) Approx.none)) Approx.none) Approx.none) Approx.none) (Approx.const _))
theorem strings_Trim_L7_a (E : AppE prog pcN pc lN lp) {d : strings_Trim_L7_D} : Approx (fun N => strings_Trim_L7 (pcN N) (lN N) d) (strings_Trim_L7 pc lp d) := E.loop (strings_Trim_L7_ap E) d
theorem strings_Trim_L7_of {d : strings_Trim_L7_D} {x : strings_Trim_L7_X} (h : strings_Trim_L7_R (pcL prog cfg) lpL (strings_Trim_L7 (pcL prog cfg) lpL) d = some x) : strings_Trim_L7 (pcL prog cfg) lpL d = some x := lpL_step (strings_Trim_L7_ap (appL prog cfg)) h

noncomputable def strings_Trim_B (pc : PC prog) (lp : LP) (a0 : List Int) (a1 : List Int) : Option (List Int) :=
  bnd (strings_Trim_C1 pc lp ((a0, a1, ()), ())) (fun (y0 : (((List Int) × ((List Int) × (Bool × Unit))) × Unit)) =>
  ifd (y0.1.2.2.1 = true) (
    some y0.1.1) (
    bnd (strings_Trim_C2 pc lp ((y0.1.1, y0.1.2.1, ()), ())) (fun (y1 : (((List Int) × ((List Int) × (Bool × Unit))) × Unit)) =>
    ifd (y1.1.2.2.1 = true) (
      ifd ((decide (((0 : Int) ≤ 0) ∧ ((0 : Int) < (((List.length y1.1.2.1) : Nat) : Int)))) = true) (
        bnd (bnd (strings_trimRightByte_c pc y1.1.1 (List.getD y1.1.2.1 (Int.toNat 0) 0)) fun (x2 : (List Int)) =>
        some x2) fun (x3 : (List Int)) =>
        ifd ((decide (((0 : Int) ≤ 0) ∧ ((0 : Int) < (((List.length y1.1.2.1) : Nat) : Int)))) = true) (
          bnd (bnd (strings_trimLeftByte_c pc x3 (List.getD y1.1.2.1 (Int.toNat 0) 0)) fun (x4 : (List Int)) =>
          some x4) fun (x5 : (List Int)) =>
          some x5) (
          none)) (
        none)) (
      bnd (strings_Trim_L3 pc lp ((y1.1.2.1, (), 0, ()), ((List.replicate 256 false : List Bool), ()))) (Sum.elim (fun (y6 : ((Unit × (Bool × Unit)) × ((List Bool) × Unit))) =>
      ifd ((List.length y6.2.1) = 256) (
        ifd (y6.1.2.1 = true) (
          bnd (strings_Trim_L4 pc lp ((y1.1.1, (), ()), (y6.2.1, (getRow y6.2.1 false 0 256 : List Bool), ()))) (fun (y7 : (((List Int) × Unit) × ((List Bool) × ((List Bool) × Unit)))) =>
          bnd (strings_Trim_L5 pc lp ((y7.1.1, (), ()), (y7.2.1, y7.2.2.1, ()))) (fun (y8 : (((List Int) × Unit) × ((List Bool) × ((List Bool) × Unit)))) =>
          some y8.1.1))) (
          bnd (bnd (strings_trimRightUnicode_c pc y1.1.1 y1.1.2.1) fun (x9 : (List Int)) =>
          some x9) fun (x10 : (List Int)) =>
          bnd (bnd (strings_trimLeftUnicode_c pc x10 y1.1.2.1) fun (x11 : (List Int)) =>
          some x11) fun (x12 : (List Int)) =>
          some x12)) (
        none)) (fun (y13 : ((Unit × Unit) × ((List Bool) × Unit))) =>
      ifd ((decide ((List.length y13.2.1) = 256)) = true) (
        ifd ((decide ((List.length y13.2.1) = 256)) = true) (
          ifd ((List.length (getRow y13.2.1 false 0 256 : List Bool)) = 256) (
            bnd (strings_Trim_L6 pc lp ((y1.1.1, (), ()), ((getRow y13.2.1 false 0 256 : List Bool), (getRow (getRow y13.2.1 false 0 256 : List Bool) false 0 256 : List Bool), ()))) (fun (y14 : (((List Int) × Unit) × ((List Bool) × ((List Bool) × Unit)))) =>
            bnd (strings_Trim_L7 pc lp ((y14.1.1, (), ()), (y14.2.1, y14.2.2.1, ()))) (fun (y15 : (((List Int) × Unit) × ((List Bool) × ((List Bool) × Unit)))) =>
            some y15.1.1))) (
            none)) (
          none)) (
        none)))))))
theorem strings_Trim_eq (a0 : List Int) (a1 : List Int) (pc : PC prog) (lp : LP) : got strings_Trim_t (pcall prog (runO prog cfg (hand prog cfg lp pc 6 tbl 5) pc 6) 27 [(.c (.str a0)), (.c (.str a1))]) = strings_Trim_B pc lp a0 a1 := by kernel_rfl
theorem strings_Trim_ap (E : AppE prog pcN pc lN lp) (a0 : List Int) (a1 : List Int) : Approx (fun N => strings_Trim_B (pcN N) (lN N) a0 a1) (strings_Trim_B pc lp a0 a1) := by
  delta strings_Trim_B
  exact (Approx.bnd (strings_Trim_C1_a E) (fun y0 => (Approx.ifd (Approx.const _) (Approx.bnd (strings_Trim_C2_a E) (fun y1 => (Approx.ifd (Approx.ifd (Approx.bnd (Approx.bnd (strings_trimRightByte_ca E) fun x2 => (Approx.const _)) fun x3 => (Approx.ifd (Approx.bnd (Approx.bnd (strings_trimLeftByte_ca E) fun x4 => (Approx.const _)) fun x5 => (Approx.const _)) Approx.none)) Approx.none) (Approx.bnd (strings_Trim_L3_a E) (Approx.sum (fun y6 => (Approx.ifd (Approx.ifd (Approx.bnd (strings_Trim_L4_a E) (fun y7 => (Approx.bnd (strings_Trim_L5_a E) (fun y8 => (Approx.const _))))) (Approx.bnd (Approx.bnd (strings_trimRightUnicode_ca E) fun x9 => (Approx.const _)) fun x10 => (Approx.bnd (Approx.bnd (strings_trimLeftUnicode_ca E) fun x11 => (Approx.const _)) fun x12 => (Approx.const _)))) Approx.none)) (fun y13 => (Approx.ifd (Approx.ifd (Approx.ifd (Approx.bnd (strings_Trim_L6_a E) (fun y14 => (Approx.bnd (strings_Trim_L7_a E) (fun y15 => (Approx.const _))))) Approx.none) Approx.none) Approx.none))))))))))
theorem strings_Trim_of {a0 : List Int} {a1 : List Int} {y : (List Int)} (h : strings_Trim_B (pcL prog cfg) lpL a0 a1 = some y) : strings_Trim_c (pcL prog cfg) a0 a1 = some y := fn_of rfl (strings_Trim_eq a0 a1) (strings_Trim_ap (appN prog cfg) a0 a1) h

-- fold_cut, part 3912
abbrev fold_cut_C1_D := (((List Int) × (Int × (Int × Unit))) × Unit)
abbrev fold_cut_C1_X := (((List Int) × (Int × (Int × (Bool × Unit)))) × Unit)
noncomputable def fold_cut_C1 (pc : PC prog) (lp : LP) (d : fold_cut_C1_D) : Option fold_cut_C1_X :=
  ifd ((decide (((0 : Int) ≤ d.1.2.2.1) ∧ (d.1.2.2.1 < (((List.length d.1.1) : Nat) : Int)))) = true) (
    bnd (bnd (fold_isBlank_c pc (List.getD d.1.1 (Int.toNat d.1.2.2.1) 0)) fun (x4 : Bool) =>
    some x4) fun (x5 : Bool) =>
    ifd ((!x5) = true) (
      ifd ((!x5) = true) (
        some ((d.1.1, d.1.2.1, d.1.2.2.1, true, ()), ())) (
        none)) (
      ifd ((decide (((0 : Int) ≤ (Go.IntKind.wrap .i64 (d.1.2.2.1 - 1))) ∧ ((Go.IntKind.wrap .i64 (d.1.2.2.1 - 1)) < (((List.length d.1.1) : Nat) : Int)))) = true) (
        bnd (bnd (fold_isBlank_c pc (List.getD d.1.1 (Int.toNat (Go.IntKind.wrap .i64 (d.1.2.2.1 - 1))) 0)) fun (x6 : Bool) =>
        some x6) fun (x7 : Bool) =>
        ifd ((!x5) = true) (
          some ((d.1.1, d.1.2.1, d.1.2.2.1, true, ()), ())) (
          some ((d.1.1, d.1.2.1, d.1.2.2.1, x7, ()), ()))) (
        none))) (
    none)
theorem fold_cut_C1_a (E : AppE prog pcN pc lN lp) {d : fold_cut_C1_D} : Approx (fun N => fold_cut_C1 (pcN N) (lN N) d) (fold_cut_C1 pc lp d) := by
  delta fold_cut_C1
  exact (Approx.ifd (Approx.bnd (Approx.bnd (fold_isBlank_ca E) fun x4 => (Approx.const _)) fun x5 => (Approx.ifd (Approx.ifd (Approx.const _) Approx.none) (Approx.ifd (Approx.bnd (Approx.bnd (fold_isBlank_ca E) fun x6 => (Approx.const _)) fun x7 => (Approx.ifd (Approx.const _) (Approx.const _))) Approx.none))) Approx.none)

-- fold_cut, loop 122
abbrev fold_cut_L2_D := (((List Int) × (Int × (Int × Unit))) × Unit)
abbrev fold_cut_L2_X := ((Int × Unit) × Unit)
noncomputable def fold_cut_L2_R (pc : PC prog) (lp : LP) (ψ : fold_cut_L2_D → Option fold_cut_L2_X) (d : fold_cut_L2_D) : Option fold_cut_L2_X :=
  ifd ((decide (d.1.2.2.1 < (((List.length d.1.1) : Nat) : Int))) = true) (
    bnd (fold_cut_C1 pc lp ((d.1.1, d.1.2.1, d.1.2.2.1, ()), ())) (fun (y9 : (((List Int) × (Int × (Int × (Bool × Unit)))) × Unit)) =>
    ifd (y9.1.2.2.2.1 = true) (
      ψ ((y9.1.1, y9.1.2.1, (Go.IntKind.wrap .i64 (y9.1.2.2.1 + 1)), ()), ())) (
      ifd ((decide (y9.1.2.2.1 ≤ 78)) = true) (
        ifd ((decide (y9.1.2.2.1 ≤ 78)) = true) (
          ifd ((decide (y9.1.2.2.1 > 78)) = true) (
            some ((y9.1.2.2.1, ()), ())) (
            ψ ((y9.1.1, y9.1.2.2.1, (Go.IntKind.wrap .i64 (y9.1.2.2.1 + 1)), ()), ()))) (
          none)) (
        ifd ((decide (y9.1.2.2.1 ≤ 78)) = true) (
          ifd ((decide (y9.1.2.2.1 > 78)) = true) (
            some ((y9.1.2.2.1, ()), ())) (
            ψ ((y9.1.1, y9.1.2.2.1, (Go.IntKind.wrap .i64 (y9.1.2.2.1 + 1)), ()), ()))) (
          ifd ((y9.1.2.1 == (((List.length y9.1.1) : Nat) : Int)) = true) (
            ifd ((decide (y9.1.2.2.1 > 78)) = true) (
              some ((y9.1.2.2.1, ()), ())) (
              ψ ((y9.1.1, y9.1.2.2.1, (Go.IntKind.wrap .i64 (y9.1.2.2.1 + 1)), ()), ()))) (
            ifd ((decide (y9.1.2.2.1 > 78)) = true) (
              some ((y9.1.2.1, ()), ())) (
              ψ ((y9.1.1, y9.1.2.1, (Go.IntKind.wrap .i64 (y9.1.2.2.1 + 1)), ()), ())))))))) (
    some ((d.1.2.1, ()), ()))
noncomputable def fold_cut_L2 (pc : PC prog) (lp : LP) (d : fold_cut_L2_D) : Option fold_cut_L2_X := lp fold_cut_L2_D fold_cut_L2_X (fold_cut_L2_R pc lp) d
theorem fold_cut_L2_ap (E : AppE prog pcN pc lN lp) : ContR (fun N => fold_cut_L2_R (pcN N) (lN N)) (fold_cut_L2_R pc lp) := fun ψN ψ h d => by
  delta fold_cut_L2_R
  exact (Approx.ifd (Approx.bnd (fold_cut_C1_a E) (fun y9 => (Approx.ifd (h _) (Approx.ifd (Approx.ifd (Approx.ifd (Approx.const _) (h _)) Approx.none) (Approx.ifd (Approx.ifd (Approx.const _) (h _)) (Approx.ifd (Approx.ifd (Approx.const _) (h _)) (Approx.ifd (Approx.const _) (h _)))))))) (Approx.const _))
theorem fold_cut_L2_a (E : AppE prog pcN pc lN lp) {d : fold_cut_L2_D} : Approx (fun N => fold_cut_L2 (pcN N) (lN N) d) (fold_cut_L2 pc lp d) := E.loop (fold_cut_L2_ap E) d
theorem fold_cut_L2_of {d : fold_cut_L2_D} {x : fold_cut_L2_X} (h : fold_cut_L2_R (pcL prog cfg) lpL (fold_cut_L2 (pcL prog cfg) lpL) d = some x) : fold_cut_L2 (pcL prog cfg) lpL d = some x := lpL_step (fold_cut_L2_ap (appL prog cfg)) h

noncomputable def fold_cut_B (pc : PC prog) (lp : LP) (a0 : List Int) (a1 : Int) : Option Int :=
  ifd ((decide ((((List.length a0) : Nat) : Int) ≤ 78)) = true) (
    some (((List.length a0) : Nat) : Int)) (
    bnd (fold_cut_L2 pc lp ((a0, (((List.length a0) : Nat) : Int), a1, ()), ())) (fun (y10 : ((Int × Unit) × Unit)) =>
    some y10.1.1))
theorem fold_cut_eq (a0 : List Int) (a1 : Int) (pc : PC prog) (lp : LP) : got fold_cut_t (pcall prog (runO prog cfg (hand prog cfg lp pc 6 tbl 5) pc 6) 28 [(.c (.str a0)), (.c (.int .i64 a1))]) = fold_cut_B pc lp a0 a1 := by kernel_rfl
theorem fold_cut_ap (E : AppE prog pcN pc lN lp) (a0 : List Int) (a1 : Int) : Approx (fun N => fold_cut_B (pcN N) (lN N) a0 a1) (fold_cut_B pc lp a0 a1) := by
  delta fold_cut_B
  exact (Approx.ifd (Approx.const _) (Approx.bnd (fold_cut_L2_a E) (fun y10 => (Approx.const _))))
theorem fold_cut_of {a0 : List Int} {a1 : Int} {y : Int} (h : fold_cut_B (pcL prog cfg) lpL a0 a1 = some y) : fold_cut_c (pcL prog cfg) a0 a1 = some y := fn_of rfl (fold_cut_eq a0 a1) (fold_cut_ap (appN prog cfg) a0 a1) h

-- strings_IndexAny, part 117
abbrev strings_IndexAny_C1_D := (((List Int) × (Int × Unit)) × Unit)
abbrev strings_IndexAny_C1_X := (((List Int) × (Int × Unit)) × Unit)
noncomputable def strings_IndexAny_C1 (pc : PC prog) (lp : LP) (d : strings_IndexAny_C1_D) : Option strings_IndexAny_C1_X :=
  ifd ((decide (d.1.2.1 ≥ 128)) = true) (
    some ((d.1.1, 65533, ()), ())) (
    some ((d.1.1, d.1.2.1, ()), ()))
theorem strings_IndexAny_C1_a (E : AppE prog pcN pc lN lp) {d : strings_IndexAny_C1_D} : Approx (fun N => strings_IndexAny_C1 (pcN N) (lN N) d) (strings_IndexAny_C1 pc lp d) := by
  delta strings_IndexAny_C1
  exact (Approx.ifd (Approx.const _) (Approx.const _))

-- strings_makeASCIISet, loop 26
abbrev strings_IndexAny_L2_D := (((List Int) × (Unit × (Int × Unit))) × ((List Bool) × Unit))
abbrev strings_IndexAny_L2_X := (((Unit × (Bool × Unit)) × ((List Bool) × Unit)) ⊕ ((Unit × Unit) × ((List Bool) × Unit)))
noncomputable def strings_IndexAny_L2_R (pc : PC prog) (lp : LP) (ψ : strings_IndexAny_L2_D → Option strings_IndexAny_L2_X) (d : strings_IndexAny_L2_D) : Option strings_IndexAny_L2_X :=
  ifd ((decide (d.1.2.2.1 < (((List.length d.1.1) : Nat) : Int))) = true) (
    ifd ((decide (((0 : Int) ≤ d.1.2.2.1) ∧ (d.1.2.2.1 < (((List.length d.1.1) : Nat) : Int)))) = true) (
      ifd ((decide ((List.getD d.1.1 (Int.toNat d.1.2.2.1) 0) ≥ 128)) = true) (
        ifd ((decide ((List.length d.2.1) = 256)) = true) (
          ifd ((decide ((List.length d.2.1) = 256)) = true) (
            some (Sum.inl (((), false, ()), ((getRow d.2.1 false 0 256 : List Bool), ())))) (
            none)) (
          none)) (
        ifd (((decide (((0 : Int) ≤ (List.getD d.1.1 (Int.toNat d.1.2.2.1) 0)) ∧ ((List.getD d.1.1 (Int.toNat d.1.2.2.1) 0) < 256))) && (decide ((List.length d.2.1) = 256))) = true) (
          ifd ((decide ((Int.toNat (List.getD d.1.1 (Int.toNat d.1.2.2.1) 0)) < (List.length d.2.1))) = true) (
            ψ ((d.1.1, (), (Go.IntKind.wrap .i64 (d.1.2.2.1 + 1)), ()), ((List.set d.2.1 (Int.toNat (List.getD d.1.1 (Int.toNat d.1.2.2.1) 0)) true), ()))) (
            none)) (
          none))) (
      none)) (
    some (Sum.inr (((), ()), (d.2.1, ()))))
noncomputable def strings_IndexAny_L2 (pc : PC prog) (lp : LP) (d : strings_IndexAny_L2_D) : Option strings_IndexAny_L2_X := lp strings_IndexAny_L2_D strings_IndexAny_L2_X (strings_IndexAny_L2_R pc lp) d
theorem strings_IndexAny_L2_ap (E : AppE prog pcN pc lN lp) : ContR (fun N => strings_IndexAny_L2_R (pcN N) (lN N)) (strings_IndexAny_L2_R pc lp) := fun ψN ψ h d => by
  delta strings_IndexAny_L2_R
  exact (Approx.ifd (Approx.ifd (Approx.ifd (Approx.ifd (Approx.ifd (Approx.const _) Approx.none) Approx.none) (Approx.ifd (Approx.ifd (h _) Approx.none) Approx.none)) Approx.none) (Approx.const _))
theorem strings_IndexAny_L2_a (E : AppE prog pcN pc lN lp) {d : strings_IndexAny_L2_D} : Approx (fun N => strings_IndexAny_L2 (pcN N) (lN N) d) (strings_IndexAny_L2 pc lp d) := E.loop (strings_IndexAny_L2_ap E) d
theorem strings_IndexAny_L2_of {d : strings_IndexAny_L2_D} {x : strings_IndexAny_L2_X} (h : strings_IndexAny_L2_R (pcL prog cfg) lpL (strings_IndexAny_L2 (pcL prog cfg) lpL) d = some x) : strings_IndexAny_L2 (pcL prog cfg) lpL d = some x := lpL_step (strings_IndexAny_L2_ap (appL prog cfg)) h

-- strings_IndexAny, loop 7858
abbrev strings_IndexAny_L3_D := (((List Int) × (Unit × (Int × Unit))) × ((List Bool) × ((List Bool) × Unit)))
abbrev strings_IndexAny_L3_X := (((Int × Unit) × ((List Bool) × ((List Bool) × Unit))) ⊕ (Unit × ((List Bool) × ((List Bool) × Unit))))
noncomputable def strings_IndexAny_L3_R (pc : PC prog) (lp : LP) (ψ : strings_IndexAny_L3_D → Option strings_IndexAny_L3_X) (d : strings_IndexAny_L3_D) : Option strings_IndexAny_L3_X :=
  ifd ((decide (d.1.2.2.1 < (((List.length d.1.1) : Nat) : Int))) = true) (
    ifd ((decide (((0 : Int) ≤ d.1.2.2.1) ∧ (d.1.2.2.1 < (((List.length d.1.1) : Nat) : Int)))) = true) (
      ifd (((decide (((0 : Int) ≤ (List.getD d.1.1 (Int.toNat d.1.2.2.1) 0)) ∧ ((List.getD d.1.1 (Int.toNat d.1.2.2.1) 0) < 256))) && (decide ((List.length d.2.2.1) = 256))) = true) (
        ifd ((decide ((Int.toNat (List.getD d.1.1 (Int.toNat d.1.2.2.1) 0)) < (List.length d.2.2.1))) = true) (
          ifd ((List.getD d.2.2.1 (Int.toNat (List.getD d.1.1 (Int.toNat d.1.2.2.1) 0)) false) = true) (
            some (Sum.inl ((d.1.2.2.1, ()), (d.2.1, d.2.2.1, ())))) (
            ψ ((d.1.1, (), (Go.IntKind.wrap .i64 (d.1.2.2.1 + 1)), ()), (d.2.1, d.2.2.1, ())))) (
          none)) (
        none)) (
      none)) (
    some (Sum.inr ((), (d.2.1, d.2.2.1, ()))))
noncomputable def strings_IndexAny_L3 (pc : PC prog) (lp : LP) (d : strings_IndexAny_L3_D) : Option strings_IndexAny_L3_X := lp strings_IndexAny_L3_D strings_IndexAny_L3_X (strings_IndexAny_L3_R pc lp) d
theorem strings_IndexAny_L3_ap (E : AppE prog pcN pc lN lp) : ContR (fun N => strings_IndexAny_L3_R (pcN N) (lN N)) (strings_IndexAny_L3_R pc lp) := fun ψN ψ h d => by
  delta strings_IndexAny_L3_R
  exact (Approx.ifd (Approx.ifd (Approx.ifd (Approx.ifd (Approx.ifd (Approx.const _) (h _)) Approx.none) Approx.none) Approx.none) (Approx.const _))
theorem strings_IndexAny_L3_a (E : AppE prog pcN pc lN lp) {d : strings_IndexAny_L3_D} : Approx (fun N => strings_IndexAny_L3 (pcN N) (lN N) d) (strings_IndexAny_L3 pc lp d) := E.loop (strings_IndexAny_L3_ap E) d
theorem strings_IndexAny_L3_of {d : strings_IndexAny_L3_D} {x : strings_IndexAny_L3_X} (h : strings_IndexAny_L3_R (pcL prog cfg) lpL (strings_IndexAny_L3 (pcL prog cfg) lpL) d = some x) : strings_IndexAny_L3 (pcL prog cfg) lpL d = some x := lpL_step (strings_IndexAny_L3_ap (appL prog cfg)) h

-- strings_IndexAny, part 15
abbrev strings_IndexAny_C4_D := (((List Int) × ((List Int) × Unit)) × Unit)
abbrev strings_IndexAny_C4_X := (((Int × Unit) × ((List Bool) × ((List Bool) × Unit))) ⊕ (((List Int) × ((List Int) × Unit)) × Unit))
noncomputable def strings_IndexAny_C4 (pc : PC prog) (lp : LP) (d : strings_IndexAny_C4_D) : Option strings_IndexAny_C4_X :=
  bnd (bnd (strings_shouldUseASCIISet_c pc (((List.length d.1.1) : Nat) : Int)) fun (x27 : Bool) =>
  some x27) fun (x28 : Bool) =>
  ifd (x28 = true) (
    bnd (strings_IndexAny_L2 pc lp ((d.1.2.1, (), 0, ()), ((List.replicate 256 false : List Bool), ()))) (Sum.elim (fun (y29 : ((Unit × (Bool × Unit)) × ((List Bool) × Unit))) =>
    ifd ((List.length y29.2.1) = 256) (
      ifd (y29.1.2.1 = true) (
        bnd (strings_IndexAny_L3 pc lp ((d.1.1, (), 0, ()), (y29.2.1, (getRow y29.2.1 false 0 256 : List Bool), ()))) (Sum.elim (fun (y30 : ((Int × Unit) × ((List Bool) × ((List Bool) × Unit)))) =>
        some (Sum.inl ((y30.1.1, ()), (y30.2.1, y30.2.2.1, ())))) (fun (y31 : (Unit × ((List Bool) × ((List Bool) × Unit)))) =>
        some (Sum.inl (((-1), ()), (y31.2.1, y31.2.2.1, ())))))) (
        some (Sum.inr ((d.1.1, d.1.2.1, ()), ())))) (
      none)) (fun (y32 : ((Unit × Unit) × ((List Bool) × Unit))) =>
    ifd ((decide ((List.length y32.2.1) = 256)) = true) (
      ifd ((decide ((List.length y32.2.1) = 256)) = true) (
        ifd ((List.length (getRow y32.2.1 false 0 256 : List Bool)) = 256) (
          bnd (strings_IndexAny_L3 pc lp ((d.1.1, (), 0, ()), ((getRow y32.2.1 false 0 256 : List Bool), (getRow (getRow y32.2.1 false 0 256 : List Bool) false 0 256 : List Bool), ()))) (Sum.elim (fun (y33 : ((Int × Unit) × ((List Bool) × ((List Bool) × Unit)))) =>
          some (Sum.inl ((y33.1.1, ()), (y33.2.1, y33.2.2.1, ())))) (fun (y34 : (Unit × ((List Bool) × ((List Bool) × Unit)))) =>
          some (Sum.inl (((-1), ()), (y34.2.1, y34.2.2.1, ())))))) (
          none)) (
        none)) (
      none)))) (
    some (Sum.inr ((d.1.1, d.1.2.1, ()), ())))
theorem strings_IndexAny_C4_a (E : AppE prog pcN pc lN lp) {d : strings_IndexAny_C4_D} : Approx (fun N => strings_IndexAny_C4 (pcN N) (lN N) d) (strings_IndexAny_C4 pc lp d) := by
  delta strings_IndexAny_C4
  exact (Approx.bnd (Approx.bnd (strings_shouldUseASCIISet_ca E) fun x27 => (Approx.const _)) fun x28 => (Approx.ifd (Approx.bnd (strings_IndexAny_L2_a E) (Approx.sum (fun y29 => (Approx.ifd (Approx.ifd (Approx.bnd (strings_IndexAny_L3_a E) (Approx.sum (fun y30 => (Approx.const _)) (fun y31 => (Approx.const _)))) (Approx.const _)) Approx.none)) (fun y32 => (Approx.ifd (Approx.ifd (Approx.ifd (Approx.bnd (strings_IndexAny_L3_a E) (Approx.sum (fun y33 => (Approx.const _)) (fun y34 => (Approx.const _)))) Approx.none) Approx.none) Approx.none)))) (Approx.const _)))

-- strings_IndexAny, loop 250
abbrev strings_IndexAny_L5_D := (((List Int) × (Unit × Unit)) × (((List Int) × Nat) × Unit))
abbrev strings_IndexAny_L5_X := (((Int × Unit) × (((List Int) × Nat) × Unit)) ⊕ (Unit × (((List Int) × Nat) × Unit)))
noncomputable def strings_IndexAny_L5_R (pc : PC prog) (lp : LP) (ψ : strings_IndexAny_L5_D → Option strings_IndexAny_L5_X) (d : strings_IndexAny_L5_D) : Option strings_IndexAny_L5_X :=
  ifd (d.2.1.2 < (List.length d.2.1.1)) (
    bnd (bnd (strings_IndexRune_c pc d.1.1 (((decRune d.2.1.1 d.2.1.2).1 : Nat) : Int)) fun (x39 : Int) =>
    some x39) fun (x40 : Int) =>
    ifd ((decide (x40 ≥ 0)) = true) (
      some (Sum.inl ((((d.2.1.2 : Nat) : Int), ()), ((d.2.1.1, (d.2.1.2 + (decRune d.2.1.1 d.2.1.2).2)), ())))) (
      ψ ((d.1.1, (), ()), ((d.2.1.1, (d.2.1.2 + (decRune d.2.1.1 d.2.1.2).2)), ())))) (
    some (Sum.inr ((), ((d.2.1.1, d.2.1.2), ()))))
noncomputable def strings_IndexAny_L5 (pc : PC prog) (lp : LP) (d : strings_IndexAny_L5_D) : Option strings_IndexAny_L5_X := lp strings_IndexAny_L5_D strings_IndexAny_L5_X (strings_IndexAny_L5_R pc lp) d
theorem strings_IndexAny_L5_ap (E : AppE prog pcN pc lN lp) : ContR (fun N => strings_IndexAny_L5_R (pcN N) (lN N)) (strings_IndexAny_L5_R pc lp) := fun ψN ψ h d => by
  delta strings_IndexAny_L5_R
  exact (Approx.ifd (Approx.bnd (Approx.bnd (strings_IndexRune_ca E) fun x39 => (Approx.const _)) fun x40 => (Approx.ifd (Approx.const _) (h _))) (Approx.const _))
theorem strings_IndexAny_L5_a (E : AppE prog pcN pc lN lp) {d : strings_IndexAny_L5_D} : Approx (fun N => strings_IndexAny_L5 (pcN N) (lN N) d) (strings_IndexAny_L5 pc lp d) := E.loop (strings_IndexAny_L5_ap E) d
theorem strings_IndexAny_L5_of {d : strings_IndexAny_L5_D} {x : strings_IndexAny_L5_X} (h : strings_IndexAny_L5_R (pcL prog cfg) lpL (strings_IndexAny_L5 (pcL prog cfg) lpL) d = some x) : strings_IndexAny_L5 (pcL prog cfg) lpL d = some x := lpL_step (strings_IndexAny_L5_ap (appL prog cfg)) h

noncomputable def strings_IndexAny_B (pc : PC prog) (lp : LP) (a0 : List Int) (a1 : List Int) : Option Int :=
  ifd ((a1 == ([] : List Int)) = true) (
    some (-1)) (
    ifd (((((List.length a1) : Nat) : Int) == 1) = true) (
      ifd ((decide (((0 : Int) ≤ 0) ∧ ((0 : Int) < (((List.length a1) : Nat) : Int)))) = true) (
        bnd (strings_IndexAny_C1 pc lp ((a0, (Go.IntKind.wrap .i32 (List.getD a1 (Int.toNat 0) 0)), ()), ())) (fun (y0 : (((List Int) × (Int × Unit)) × Unit)) =>
        bnd (bnd (strings_IndexRune_c pc y0.1.1 y0.1.2.1) fun (x1 : Int) =>
        some x1) fun (x2 : Int) =>
        some x2)) (
        none)) (
      bnd (strings_IndexAny_C4 pc lp ((a0, a1, ()), ())) (Sum.elim (fun (y35 : ((Int × Unit) × ((List Bool) × ((List Bool) × Unit)))) =>
      some y35.1.1) (fun (y36 : (((List Int) × ((List Int) × Unit)) × Unit)) =>
      bnd (strings_IndexAny_L5 pc lp ((y36.1.2.1, (), ()), ((y36.1.1, 0), ()))) (Sum.elim (fun (y41 : ((Int × Unit) × (((List Int) × Nat) × Unit))) =>
      some y41.1.1) (fun (y42 : (Unit × (((List Int) × Nat) × Unit))) =>
      some (-1)))))))
theorem strings_IndexAny_eq (a0 : List Int) (a1 : List Int) (pc : PC prog) (lp : LP) : got strings_IndexAny_t (pcall prog (runO prog cfg (hand prog cfg lp pc 6 tbl 5) pc 6) 29 [(.c (.str a0)), (.c (.str a1))]) = strings_IndexAny_B pc lp a0 a1 := by kernel_rfl
theorem strings_IndexAny_ap (E : AppE prog pcN pc lN lp) (a0 : List Int) (a1 : List Int) : Approx (fun N => strings_IndexAny_B (pcN N) (lN N) a0 a1) (strings_IndexAny_B pc lp a0 a1) := by
  delta strings_IndexAny_B
  exact (Approx.ifd (Approx.const _) (Approx.ifd (Approx.ifd (Approx.bnd (strings_IndexAny_C1_a E) (fun y0 => (Approx.bnd (Approx.bnd (strings_IndexRune_ca E) fun x1 => (Approx.const _)) fun x2 => (Approx.const _)))) Approx.none) (Approx.bnd (strings_IndexAny_C4_a E) (Approx.sum (fun y35 => (Approx.const _)) (fun y36 => (Approx.bnd (strings_IndexAny_L5_a E) (Approx.sum (fun y41 => (Approx.const _)) (fun y42 => (Approx.const _)))))))))
theorem strings_IndexAny_of {a0 : List Int} {a1 : List Int} {y : Int} (h : strings_IndexAny_B (pcL prog cfg) lpL a0 a1 = some y) : strings_IndexAny_c (pcL prog cfg) a0 a1 = some y := fn_of rfl (strings_IndexAny_eq a0 a1) (strings_IndexAny_ap (appN prog cfg) a0 a1) h

-- strings_trimLeftByte, loop 12
abbrev strings_trimLeftByte_L1_D := (((List Int) × (Int × Unit)) × Unit)
abbrev strings_trimLeftByte_L1_X := (((List Int) × Unit) × Unit)
noncomputable def strings_trimLeftByte_L1_R (pc : PC prog) (lp : LP) (ψ : strings_trimLeftByte_L1_D → Option strings_trimLeftByte_L1_X) (d : strings_trimLeftByte_L1_D) : Option strings_trimLeftByte_L1_X :=
  ifd ((decide ((((List.length d.1.1) : Nat) : Int) > 0)) = true) (
    ifd ((decide (((0 : Int) ≤ 0) ∧ ((0 : Int) < (((List.length d.1.1) : Nat) : Int)))) = true) (
      ifd ((decide ((((List.length d.1.1) : Nat) : Int) > 0)) = true) (
        ifd (((List.getD d.1.1 (Int.toNat 0) 0) == d.1.2.1) = true) (
          ifd ((decide (((0 : Int) ≤ 1) ∧ (((1 : Int) ≤ (((List.length d.1.1) : Nat) : Int)) ∧ ((((List.length d.1.1) : Nat) : Int) ≤ (((List.length d.1.1) : Nat) : Int))))) = true) (
            ψ (((List.drop (Int.toNat 1) (List.take (Int.toNat (((List.length d.1.1) : Nat) : Int)) d.1.1)), d.1.2.1, ()), ())) (
            none)) (
          some ((d.1.1, ()), ()))) (
        some ((d.1.1, ()), ()))) (
      none)) (
    ifd ((decide ((((List.length d.1.1) : Nat) : Int) > 0)) = true) (
      none) (
      some ((d.1.1, ()), ())))
noncomputable def strings_trimLeftByte_L1 (pc : PC prog) (lp : LP) (d : strings_trimLeftByte_L1_D) : Option strings_trimLeftByte_L1_X := lp strings_trimLeftByte_L1_D strings_trimLeftByte_L1_X (strings_trimLeftByte_L1_R pc lp) d
theorem strings_trimLeftByte_L1_ap (E : AppE prog pcN pc lN lp) : ContR (fun N => strings_trimLeftByte_L1_R (pcN N) (lN N)) (strings_trimLeftByte_L1_R pc lp) := fun ψN ψ h d => by
  delta strings_trimLeftByte_L1_R
  exact (Approx.ifd (Approx.ifd (Approx.ifd (Approx.ifd (Approx.ifd (h _) Approx.none) (Approx.const _)) (Approx.const _)) Approx.none) (Approx.ifd Approx.none (Approx.const _)))
theorem strings_trimLeftByte_L1_a (E : AppE prog pcN pc lN lp) {d : strings_trimLeftByte_L1_D} : Approx (fun N => strings_trimLeftByte_L1 (pcN N) (lN N) d) (strings_trimLeftByte_L1 pc lp d) := E.loop (strings_trimLeftByte_L1_ap E) d
theorem strings_trimLeftByte_L1_of {d : strings_trimLeftByte_L1_D} {x : strings_trimLeftByte_L1_X} (h : strings_trimLeftByte_L1_R (pcL prog cfg) lpL (strings_trimLeftByte_L1 (pcL prog cfg) lpL) d = some x) : strings_trimLeftByte_L1 (pcL prog cfg) lpL d = some x := lpL_step (strings_trimLeftByte_L1_ap (appL prog cfg)) h

noncomputable def strings_trimLeftByte_B (pc : PC prog) (lp : LP) (a0 : List Int) (a1 : Int) : Option (List Int) :=
  bnd (strings_trimLeftByte_L1 pc lp ((a0, a1, ()), ())) (fun (y0 : (((List Int) × Unit) × Unit)) =>
  some y0.1.1)
theorem strings_trimLeftByte_eq (a0 : List Int) (a1 : Int) (pc : PC prog) (lp : LP) : got strings_trimLeftByte_t (pcall prog (runO prog cfg (hand prog cfg lp pc 6 tbl 5) pc 6) 30 [(.c (.str a0)), (.c (.int .u8 a1))]) = strings_trimLeftByte_B pc lp a0 a1 := by kernel_rfl
theorem strings_trimLeftByte_ap (E : AppE prog pcN pc lN lp) (a0 : List Int) (a1 : Int) : Approx (fun N => strings_trimLeftByte_B (pcN N) (lN N) a0 a1) (strings_trimLeftByte_B pc lp a0 a1) := by
  delta strings_trimLeftByte_B
  exact (Approx.bnd (strings_trimLeftByte_L1_a E) (fun y0 => (Approx.const _)))
theorem strings_trimLeftByte_of {a0 : List Int} {a1 : Int} {y : (List Int)} (h : strings_trimLeftByte_B (pcL prog cfg) lpL a0 a1 = some y) : strings_trimLeftByte_c (pcL prog cfg) a0 a1 = some y := fn_of rfl (strings_trimLeftByte_eq a0 a1) (strings_trimLeftByte_ap (appN prog cfg) a0 a1) h

-- strings_trimLeftUnicode, loop 12
abbrev strings_trimLeftUnicode_L1_D := (((List Int) × ((List Int) × Unit)) × Unit)
abbrev strings_trimLeftUnicode_L1_X := (((List Int) × Unit) × Unit)
noncomputable def strings_trimLeftUnicode_L1_R (pc : PC prog) (lp : LP) (ψ : strings_trimLeftUnicode_L1_D → Option strings_trimLeftUnicode_L1_X) (d : strings_trimLeftUnicode_L1_D) : Option strings_trimLeftUnicode_L1_X :=
  ifd ((decide ((((List.length d.1.1) : Nat) : Int) > 0)) = true) (
    bnd (bnd (unicode_utf8_DecodeRuneInString_c pc d.1.1) fun (x4 : (Int × (Int × Unit))) =>
    some (x4.1, (x4.2.1, ()))) fun (x5 : (Int × (Int × Unit))) =>
    bnd (bnd (strings_ContainsRune_c pc d.1.2.1 x5.1) fun (x6 : Bool) =>
    some x6) fun (x7 : Bool) =>
    ifd ((!x7) = true) (
      some ((d.1.1, ()), ())) (
      ifd ((decide (((0 : Int) ≤ x5.2.1) ∧ ((x5.2.1 ≤ (((List.length d.1.1) : Nat) : Int)) ∧ ((((List.length d.1.1) : Nat) : Int) ≤ (((List.length d.1.1) : Nat) : Int))))) = true) (
        ψ (((List.drop (Int.toNat x5.2.1) (List.take (Int.toNat (((List.length d.1.1) : Nat) : Int)) d.1.1)), d.1.2.1, ()), ())) (
        none))) (
    some ((d.1.1, ()), ()))
noncomputable def strings_trimLeftUnicode_L1 (pc : PC prog) (lp : LP) (d : strings_trimLeftUnicode_L1_D) : Option strings_trimLeftUnicode_L1_X := lp strings_trimLeftUnicode_L1_D strings_trimLeftUnicode_L1_X (strings_trimLeftUnicode_L1_R pc lp) d
theorem strings_trimLeftUnicode_L1_ap (E : AppE prog pcN pc lN lp) : ContR (fun N => strings_trimLeftUnicode_L1_R (pcN N) (lN N)) (strings_trimLeftUnicode_L1_R pc lp) := fun ψN ψ h d => by
  delta strings_trimLeftUnicode_L1_R
  exact (Approx.ifd (Approx.bnd (Approx.bnd (unicode_utf8_DecodeRuneInString_ca E) fun x4 => (Approx.const _)) fun x5 => (Approx.bnd (Approx.bnd (strings_ContainsRune_ca E) fun x6 => (Approx.const _)) fun x7 => (Approx.ifd (Approx.const _) (Approx.ifd (h _) Approx.none)))) (Approx.const _))
theorem strings_trimLeftUnicode_L1_a (E : AppE prog pcN pc lN lp) {d : strings_trimLeftUnicode_L1_D} : Approx (fun N => strings_trimLeftUnicode_L1 (pcN N) (lN N) d) (strings_trimLeftUnicode_L1 pc lp d) := E.loop (strings_trimLeftUnicode_L1_ap E) d
theorem strings_trimLeftUnicode_L1_of {d : strings_trimLeftUnicode_L1_D} {x : strings_trimLeftUnicode_L1_X} (h : strings_trimLeftUnicode_L1_R (pcL prog cfg) lpL (strings_trimLeftUnicode_L1 (pcL prog cfg) lpL) d = some x) : strings_trimLeftUnicode_L1 (pcL prog cfg) lpL d = some x := lpL_step (strings_trimLeftUnicode_L1_ap (appL prog cfg)) h

noncomputable def strings_trimLeftUnicode_B (pc : PC prog) (lp : LP) (a0 : List Int) (a1 : List Int) : Option (List Int) :=
  bnd (strings_trimLeftUnicode_L1 pc lp ((a0, a1, ()), ())) (fun (y8 : (((List Int) × Unit) × Unit)) =>
  some y8.1.1)
theorem strings_trimLeftUnicode_eq (a0 : List Int) (a1 : List Int) (pc : PC prog) (lp : LP) : got strings_trimLeftUnicode_t (pcall prog (runO prog cfg (hand prog cfg lp pc 6 tbl 5) pc 6) 33 [(.c (.str a0)), (.c (.str a1))]) = strings_trimLeftUnicode_B pc lp a0 a1 := by kernel_rfl
theorem strings_trimLeftUnicode_ap (E : AppE prog pcN pc lN lp) (a0 : List Int) (a1 : List Int) : Approx (fun N => strings_trimLeftUnicode_B (pcN N) (lN N) a0 a1) (strings_trimLeftUnicode_B pc lp a0 a1) := by
  delta strings_trimLeftUnicode_B
  exact (Approx.bnd (strings_trimLeftUnicode_L1_a E) (fun y8 => (Approx.const _)))
theorem strings_trimLeftUnicode_of {a0 : List Int} {a1 : List Int} {y : (List Int)} (h : strings_trimLeftUnicode_B (pcL prog cfg) lpL a0 a1 = some y) : strings_trimLeftUnicode_c (pcL prog cfg) a0 a1 = some y := fn_of rfl (strings_trimLeftUnicode_eq a0 a1) (strings_trimLeftUnicode_ap (appN prog cfg) a0 a1) h

-- strings_trimRightByte, loop 12
abbrev strings_trimRightByte_L1_D := (((List Int) × (Int × Unit)) × Unit)
abbrev strings_trimRightByte_L1_X := (((List Int) × Unit) × Unit)
noncomputable def strings_trimRightByte_L1_R (pc : PC prog) (lp : LP) (ψ : strings_trimRightByte_L1_D → Option strings_trimRightByte_L1_X) (d : strings_trimRightByte_L1_D) : Option strings_trimRightByte_L1_X :=
  ifd ((decide ((((List.length d.1.1) : Nat) : Int) > 0)) = true) (
    ifd ((decide (((0 : Int) ≤ (Go.IntKind.wrap .i64 ((((List.length d.1.1) : Nat) : Int) - 1))) ∧ ((Go.IntKind.wrap .i64 ((((List.length d.1.1) : Nat) : Int) - 1)) < (((List.length d.1.1) : Nat) : Int)))) = true) (
      ifd ((decide ((((List.length d.1.1) : Nat) : Int) > 0)) = true) (
        ifd (((List.getD d.1.1 (Int.toNat (Go.IntKind.wrap .i64 ((((List.length d.1.1) : Nat) : Int) - 1))) 0) == d.1.2.1) = true) (
          ifd ((decide (((0 : Int) ≤ 0) ∧ (((0 : Int) ≤ (Go.IntKind.wrap .i64 ((((List.length d.1.1) : Nat) : Int) - 1))) ∧ ((Go.IntKind.wrap .i64 ((((List.length d.1.1) : Nat) : Int) - 1)) ≤ (((List.length d.1.1) : Nat) : Int))))) = true) (
            ψ (((List.drop (Int.toNat 0) (List.take (Int.toNat (Go.IntKind.wrap .i64 ((((List.length d.1.1) : Nat) : Int) - 1))) d.1.1)), d.1.2.1, ()), ())) (
            none)) (
          some ((d.1.1, ()), ()))) (
        some ((d.1.1, ()), ()))) (
      none)) (
    ifd ((decide ((((List.length d.1.1) : Nat) : Int) > 0)) = true) (
      none) (
      some ((d.1.1, ()), ())))
noncomputable def strings_trimRightByte_L1 (pc : PC prog) (lp : LP) (d : strings_trimRightByte_L1_D) : Option strings_trimRightByte_L1_X := lp strings_trimRightByte_L1_D strings_trimRightByte_L1_X (strings_trimRightByte_L1_R pc lp) d
theorem strings_trimRightByte_L1_ap (E : AppE prog pcN pc lN lp) : ContR (fun N => strings_trimRightByte_L1_R (pcN N) (lN N)) (strings_trimRightByte_L1_R pc lp) := fun ψN ψ h d => by
  delta strings_trimRightByte_L1_R
  exact (Approx.ifd (Approx.ifd (Approx.ifd (Approx.ifd (Approx.ifd (h _) Approx.none) (Approx.const _)) (Approx.const _)) Approx.none) (Approx.ifd Approx.none (Approx.const _)))
theorem strings_trimRightByte_L1_a (E : AppE prog pcN pc lN lp) {d : strings_trimRightByte_L1_D} : Approx (fun N => strings_trimRightByte_L1 (pcN N) (lN N) d) (strings_trimRightByte_L1 pc lp d) := E.loop (strings_trimRightByte_L1_ap E) d
theorem strings_trimRightByte_L1_of {d : strings_trimRightByte_L1_D} {x : strings_trimRightByte_L1_X} (h : strings_trimRightByte_L1_R (pcL prog cfg) lpL (strings_trimRightByte_L1 (pcL prog cfg) lpL) d = some x) : strings_trimRightByte_L1 (pcL prog cfg) lpL d = some x := lpL_step (strings_trimRightByte_L1_ap (appL prog cfg)) h

noncomputable def strings_trimRightByte_B (pc : PC prog) (lp : LP) (a0 : List Int) (a1 : Int) : Option (List Int) :=
  bnd (strings_trimRightByte_L1 pc lp ((a0, a1, ()), ())) (fun (y0 : (((List Int) × Unit) × Unit)) =>
  some y0.1.1)
theorem strings_trimRightByte_eq (a0 : List Int) (a1 : Int) (pc : PC prog) (lp : LP) : got strings_trimRightByte_t (pcall prog (runO prog cfg (hand prog cfg lp pc 6 tbl 5) pc 6) 36 [(.c (.str a0)), (.c (.int .u8 a1))]) = strings_trimRightByte_B pc lp a0 a1 := by kernel_rfl
theorem strings_trimRightByte_ap (E : AppE prog pcN pc lN lp) (a0 : List Int) (a1 : Int) : Approx (fun N => strings_trimRightByte_B (pcN N) (lN N) a0 a1) (strings_trimRightByte_B pc lp a0 a1) := by
  delta strings_trimRightByte_B
  exact (Approx.bnd (strings_trimRightByte_L1_a E) (fun y0 => (Approx.const _)))
theorem strings_trimRightByte_of {a0 : List Int} {a1 : Int} {y : (List Int)} (h : strings_trimRightByte_B (pcL prog cfg) lpL a0 a1 = some y) : strings_trimRightByte_c (pcL prog cfg) a0 a1 = some y := fn_of rfl (strings_trimRightByte_eq a0 a1) (strings_trimRightByte_ap (appN prog cfg) a0 a1) h

-- strings_trimRightUnicode, loop 12
abbrev strings_trimRightUnicode_L1_D := (((List Int) × ((List Int) × Unit)) × Unit)
abbrev strings_trimRightUnicode_L1_X := (((List Int) × Unit) × Unit)
noncomputable def strings_trimRightUnicode_L1_R (pc : PC prog) (lp : LP) (ψ : strings_trimRightUnicode_L1_D → Option strings_trimRightUnicode_L1_X) (d : strings_trimRightUnicode_L1_D) : Option strings_trimRightUnicode_L1_X :=
  ifd ((decide ((((List.length d.1.1) : Nat) : Int) > 0)) = true) (
    ifd ((decide (((0 : Int) ≤ (Go.IntKind.wrap .i64 ((((List.length d.1.1) : Nat) : Int) - 1))) ∧ ((Go.IntKind.wrap .i64 ((((List.length d.1.1) : Nat) : Int) - 1)) < (((List.length d.1.1) : Nat) : Int)))) = true) (
      ifd ((decide ((Go.IntKind.wrap .i32 (List.getD d.1.1 (Int.toNat (Go.IntKind.wrap .i64 ((((List.length d.1.1) : Nat) : Int) - 1))) 0)) ≥ 128)) = true) (
        bnd (bnd (unicode_utf8_DecodeLastRuneInString_c pc d.1.1) fun (x6 : (Int × (Int × Unit))) =>
        some (x6.1, (x6.2.1, ()))) fun (x7 : (Int × (Int × Unit))) =>
        bnd (bnd (strings_ContainsRune_c pc d.1.2.1 x7.1) fun (x8 : Bool) =>
        some x8) fun (x9 : Bool) =>
        ifd ((!x9) = true) (
          some ((d.1.1, ()), ())) (
          ifd ((decide (((0 : Int) ≤ 0) ∧ (((0 : Int) ≤ (Go.IntKind.wrap .i64 ((((List.length d.1.1) : Nat) : Int) - x7.2.1))) ∧ ((Go.IntKind.wrap .i64 ((((List.length d.1.1) : Nat) : Int) - x7.2.1)) ≤ (((List.length d.1.1) : Nat) : Int))))) = true) (
            ψ (((List.drop (Int.toNat 0) (List.take (Int.toNat (Go.IntKind.wrap .i64 ((((List.length d.1.1) : Nat) : Int) - x7.2.1))) d.1.1)), d.1.2.1, ()), ())) (
            none))) (
        bnd (bnd (strings_ContainsRune_c pc d.1.2.1 (Go.IntKind.wrap .i32 (List.getD d.1.1 (Int.toNat (Go.IntKind.wrap .i64 ((((List.length d.1.1) : Nat) : Int) - 1))) 0))) fun (x10 : Bool) =>
        some x10) fun (x11 : Bool) =>
        ifd ((!x11) = true) (
          some ((d.1.1, ()), ())) (
          ifd ((decide (((0 : Int) ≤ 0) ∧ (((0 : Int) ≤ (Go.IntKind.wrap .i64 ((((List.length d.1.1) : Nat) : Int) - 1))) ∧ ((Go.IntKind.wrap .i64 ((((List.length d.1.1) : Nat) : Int) - 1)) ≤ (((List.length d.1.1) : Nat) : Int))))) = true) (
            ψ (((List.drop (Int.toNat 0) (List.take (Int.toNat (Go.IntKind.wrap .i64 ((((List.length d.1.1) : Nat) : Int) - 1))) d.1.1)), d.1.2.1, ()), ())) (
            none)))) (
      none)) (
    some ((d.1.1, ()), ()))
noncomputable def strings_trimRightUnicode_L1 (pc : PC prog) (lp : LP) (d : strings_trimRightUnicode_L1_D) : Option strings_trimRightUnicode_L1_X := lp strings_trimRightUnicode_L1_D strings_trimRightUnicode_L1_X (strings_trimRightUnicode_L1_R pc lp) d
theorem strings_trimRightUnicode_L1_ap (E : AppE prog pcN pc lN lp) : ContR (fun N => strings_trimRightUnicode_L1_R (pcN N) (lN N)) (strings_trimRightUnicode_L1_R pc lp) := fun ψN ψ h d => by
  delta strings_trimRightUnicode_L1_R
  exact (Approx.ifd (Approx.ifd (Approx.ifd (Approx.bnd (Approx.bnd (unicode_utf8_DecodeLastRuneInString_ca E) fun x6 => (Approx.const _)) fun x7 => (Approx.bnd (Approx.bnd (strings_ContainsRune_ca E) fun x8 => (Approx.const _)) fun x9 => (Approx.ifd (Approx.const _) (Approx.ifd (h _) Approx.none)))) (Approx.bnd (Approx.bnd (strings_ContainsRune_ca E) fun x10 => (Approx.const _)) fun x11 => (Approx.ifd (Approx.const _) (Approx.ifd (h _) Approx.none)))) Approx.none) (Approx.const _))
theorem strings_trimRightUnicode_L1_a (E : AppE prog pcN pc lN lp) {d : strings_trimRightUnicode_L1_D} : Approx (fun N => strings_trimRightUnicode_L1 (pcN N) (lN N) d) (strings_trimRightUnicode_L1 pc lp d) := E.loop (strings_trimRightUnicode_L1_ap E) d
theorem strings_trimRightUnicode_L1_of {d : strings_trimRightUnicode_L1_D} {x : strings_trimRightUnicode_L1_X} (h : strings_trimRightUnicode_L1_R (pcL prog cfg) lpL (strings_trimRightUnicode_L1 (pcL prog cfg) lpL) d = some x) : strings_trimRightUnicode_L1 (pcL prog cfg) lpL d = some x := lpL_step (strings_trimRightUnicode_L1_ap (appL prog cfg)) h

noncomputable def strings_trimRightUnicode_B (pc : PC prog) (lp : LP) (a0 : List Int) (a1 : List Int) : Option (List Int) :=
  bnd (strings_trimRightUnicode_L1 pc lp ((a0, a1, ()), ())) (fun (y12 : (((List Int) × Unit) × Unit)) =>
  some y12.1.1)
theorem strings_trimRightUnicode_eq (a0 : List Int) (a1 : List Int) (pc : PC prog) (lp : LP) : got strings_trimRightUnicode_t (pcall prog (runO prog cfg (hand prog cfg lp pc 6 tbl 5) pc 6) 38 [(.c (.str a0)), (.c (.str a1))]) = strings_trimRightUnicode_B pc lp a0 a1 := by kernel_rfl
theorem strings_trimRightUnicode_ap (E : AppE prog pcN pc lN lp) (a0 : List Int) (a1 : List Int) : Approx (fun N => strings_trimRightUnicode_B (pcN N) (lN N) a0 a1) (strings_trimRightUnicode_B pc lp a0 a1) := by
  delta strings_trimRightUnicode_B
  exact (Approx.bnd (strings_trimRightUnicode_L1_a E) (fun y12 => (Approx.const _)))
theorem strings_trimRightUnicode_of {a0 : List Int} {a1 : List Int} {y : (List Int)} (h : strings_trimRightUnicode_B (pcL prog cfg) lpL a0 a1 = some y) : strings_trimRightUnicode_c (pcL prog cfg) a0 a1 = some y := fn_of rfl (strings_trimRightUnicode_eq a0 a1) (strings_trimRightUnicode_ap (appN prog cfg) a0 a1) h

noncomputable def fold_isBlank_B (pc : PC prog) (lp : LP) (a0 : Int) : Option Bool :=
  ifd ((a0 == 32) = true) (
    ifd ((a0 == 32) = true) (
      some true) (
      none)) (
    ifd ((a0 == 32) = true) (
      some true) (
      some (a0 == 9)))
theorem fold_isBlank_eq (a0 : Int) (pc : PC prog) (lp : LP) : got fold_isBlank_t (pcall prog (runO prog cfg (hand prog cfg lp pc 6 tbl 5) pc 6) 39 [(.c (.int .u8 a0))]) = fold_isBlank_B pc lp a0 := by kernel_rfl
theorem fold_isBlank_ap (E : AppE prog pcN pc lN lp) (a0 : Int) : Approx (fun N => fold_isBlank_B (pcN N) (lN N) a0) (fold_isBlank_B pc lp a0) := by
  delta fold_isBlank_B
  exact (Approx.ifd (Approx.ifd (Approx.const _) Approx.none) (Approx.ifd (Approx.const _) (Approx.const _)))
theorem fold_isBlank_of {a0 : Int} {y : Bool} (h : fold_isBlank_B (pcL prog cfg) lpL a0 = some y) : fold_isBlank_c (pcL prog cfg) a0 = some y := fn_of rfl (fold_isBlank_eq a0) (fold_isBlank_ap (appN prog cfg) a0) h

-- strings_IndexRune, part 6
abbrev strings_IndexRune_C1_D := (((List Int) × (Int × Unit)) × Unit)
abbrev strings_IndexRune_C1_X := (((List Int) × (Int × (Bool × Unit))) × Unit)
noncomputable def strings_IndexRune_C1 (pc : PC prog) (lp : LP) (d : strings_IndexRune_C1_D) : Option strings_IndexRune_C1_X :=
  ifd ((decide ((0 : Int) ≤ d.1.2.1)) = true) (
    ifd ((decide ((0 : Int) ≤ d.1.2.1)) = true) (
      some ((d.1.1, d.1.2.1, (decide (d.1.2.1 < 128)), ()), ())) (
      some ((d.1.1, d.1.2.1, false, ()), ()))) (
    ifd ((decide ((0 : Int) ≤ d.1.2.1)) = true) (
      none) (
      some ((d.1.1, d.1.2.1, false, ()), ())))
theorem strings_IndexRune_C1_a (E : AppE prog pcN pc lN lp) {d : strings_IndexRune_C1_D} : Approx (fun N => strings_IndexRune_C1 (pcN N) (lN N) d) (strings_IndexRune_C1 pc lp d) := by
  delta strings_IndexRune_C1
  exact (Approx.ifd (Approx.ifd (Approx.const _) (Approx.const _)) (Approx.ifd Approx.none (Approx.const _)))

-- strings_IndexRune, loop 882
abbrev strings_IndexRune_L2_D := ((Unit × Unit) × (((List Int) × Nat) × Unit))
abbrev strings_IndexRune_L2_X := (((Int × Unit) × (((List Int) × Nat) × Unit)) ⊕ (Unit × (((List Int) × Nat) × Unit)))
noncomputable def strings_IndexRune_L2_R (pc : PC prog) (lp : LP) (ψ : strings_IndexRune_L2_D → Option strings_IndexRune_L2_X) (d : strings_IndexRune_L2_D) : Option strings_IndexRune_L2_X :=
  ifd (d.2.1.2 < (List.length d.2.1.1)) (
    ifd (((((decRune d.2.1.1 d.2.1.2).1 : Nat) : Int) == 65533) = true) (
      some (Sum.inl ((((d.2.1.2 : Nat) : Int), ()), ((d.2.1.1, (d.2.1.2 + (decRune d.2.1.1 d.2.1.2).2)), ())))) (
      ψ (((), ()), ((d.2.1.1, (d.2.1.2 + (decRune d.2.1.1 d.2.1.2).2)), ())))) (
    some (Sum.inr ((), ((d.2.1.1, d.2.1.2), ()))))
noncomputable def strings_IndexRune_L2 (pc : PC prog) (lp : LP) (d : strings_IndexRune_L2_D) : Option strings_IndexRune_L2_X := lp strings_IndexRune_L2_D strings_IndexRune_L2_X (strings_IndexRune_L2_R pc lp) d
theorem strings_IndexRune_L2_ap (E : AppE prog pcN pc lN lp) : ContR (fun N => strings_IndexRune_L2_R (pcN N) (lN N)) (strings_IndexRune_L2_R pc lp) := fun ψN ψ h d => by
  delta strings_IndexRune_L2_R
  exact (Approx.ifd (Approx.ifd (Approx.const _) (h _)) (Approx.const _))
theorem strings_IndexRune_L2_a (E : AppE prog pcN pc lN lp) {d : strings_IndexRune_L2_D} : Approx (fun N => strings_IndexRune_L2 (pcN N) (lN N) d) (strings_IndexRune_L2 pc lp d) := E.loop (strings_IndexRune_L2_ap E) d
theorem strings_IndexRune_L2_of {d : strings_IndexRune_L2_D} {x : strings_IndexRune_L2_X} (h : strings_IndexRune_L2_R (pcL prog cfg) lpL (strings_IndexRune_L2 (pcL prog cfg) lpL) d = some x) : strings_IndexRune_L2 (pcL prog cfg) lpL d = some x := lpL_step (strings_IndexRune_L2_ap (appL prog cfg)) h

-- strings_IndexRune, part 916420
abbrev strings_IndexRune_C3_D := (((List Int) × ((List Int) × (Int × (Int × Unit)))) × Unit)
abbrev strings_IndexRune_C3_X := (((Int × Unit) × Unit) ⊕ (((List Int) × ((List Int) × (Int × (Int × Unit)))) × Unit))
noncomputable def strings_IndexRune_C3 (pc : PC prog) (lp : LP) (d : strings_IndexRune_C3_D) : Option strings_IndexRune_C3_X :=
  ifd ((decide (((0 : Int) ≤ d.1.2.2.2.1) ∧ (d.1.2.2.2.1 < (((List.length d.1.1) : Nat) : Int)))) = true) (
    ifd ((decide (((0 : Int) ≤ d.1.2.2.1) ∧ (d.1.2.2.1 < (((List.length d.1.2.1) : Nat) : Int)))) = true) (
      ifd (((List.getD d.1.1 (Int.toNat d.1.2.2.2.1) 0) != (List.getD d.1.2.1 (Int.toNat d.1.2.2.1) 0)) = true) (
        ifd ((decide (((0 : Int) ≤ (Go.IntKind.wrap .i64 (d.1.2.2.2.1 + 1))) ∧ (((Go.IntKind.wrap .i64 (d.1.2.2.2.1 + 1)) ≤ (((List.length d.1.1) : Nat) : Int)) ∧ ((((List.length d.1.1) : Nat) : Int) ≤ (((List.length d.1.1) : Nat) : Int))))) = true) (
          ifd ((decide (((0 : Int) ≤ d.1.2.2.1) ∧ (d.1.2.2.1 < (((List.length d.1.2.1) : Nat) : Int)))) = true) (
            bnd (bnd (strings_IndexByte_c pc (List.drop (Int.toNat (Go.IntKind.wrap .i64 (d.1.2.2.2.1 + 1))) (List.take (Int.toNat (((List.length d.1.1) : Nat) : Int)) d.1.1)) (List.getD d.1.2.1 (Int.toNat d.1.2.2.1) 0)) fun (x9 : Int) =>
            some x9) fun (x10 : Int) =>
            ifd ((decide (x10 < 0)) = true) (
              some (Sum.inl (((-1), ()), ()))) (
              some (Sum.inr ((d.1.1, d.1.2.1, d.1.2.2.1, (Go.IntKind.wrap .i64 (d.1.2.2.2.1 + (Go.IntKind.wrap .i64 (x10 + 1)))), ()), ())))) (
            none)) (
          none)) (
        some (Sum.inr ((d.1.1, d.1.2.1, d.1.2.2.1, d.1.2.2.2.1, ()), ())))) (
      none)) (
    none)
theorem strings_IndexRune_C3_a (E : AppE prog pcN pc lN lp) {d : strings_IndexRune_C3_D} : Approx (fun N => strings_IndexRune_C3 (pcN N) (lN N) d) (strings_IndexRune_C3 pc lp d) := by
  delta strings_IndexRune_C3
  exact (Approx.ifd (Approx.ifd (Approx.ifd (Approx.ifd (Approx.ifd (Approx.bnd (Approx.bnd (strings_IndexByte_ca E) fun x9 => (Approx.const _)) fun x10 => (Approx.ifd (Approx.const _) (Approx.const _))) Approx.none) Approx.none) (Approx.const _)) Approx.none) Approx.none)

-- strings_IndexRune, loop 14662730
abbrev strings_IndexRune_L4_D := (((List Int) × ((List Int) × (Int × (Int × (Int × Unit))))) × Unit)
abbrev strings_IndexRune_L4_X := ((Int × (Int × Unit)) × Unit)
noncomputable def strings_IndexRune_L4_R (pc : PC prog) (lp : LP) (ψ : strings_IndexRune_L4_D → Option strings_IndexRune_L4_X) (d : strings_IndexRune_L4_D) : Option strings_IndexRune_L4_X :=
  ifd ((decide (d.1.2.2.2.2.1 < (((List.length d.1.2.1) : Nat) : Int))) = true) (
    ifd ((decide (((0 : Int) ≤ (Go.IntKind.wrap .i64 (d.1.2.2.2.1 - d.1.2.2.2.2.1))) ∧ ((Go.IntKind.wrap .i64 (d.1.2.2.2.1 - d.1.2.2.2.2.1)) < (((List.length d.1.1) : Nat) : Int)))) = true) (
      ifd ((decide (((0 : Int) ≤ (Go.IntKind.wrap .i64 (d.1.2.2.1 - d.1.2.2.2.2.1))) ∧ ((Go.IntKind.wrap .i64 (d.1.2.2.1 - d.1.2.2.2.2.1)) < (((List.length d.1.2.1) : Nat) : Int)))) = true) (
        ifd (((List.getD d.1.1 (Int.toNat (Go.IntKind.wrap .i64 (d.1.2.2.2.1 - d.1.2.2.2.2.1))) 0) != (List.getD d.1.2.1 (Int.toNat (Go.IntKind.wrap .i64 (d.1.2.2.1 - d.1.2.2.2.2.1))) 0)) = true) (
          none) (
          ψ ((d.1.1, d.1.2.1, d.1.2.2.1, d.1.2.2.2.1, (Go.IntKind.wrap .i64 (d.1.2.2.2.2.1 + 1)), ()), ()))) (
        none)) (
      none)) (
    some ((d.1.2.2.1, d.1.2.2.2.1, ()), ()))
noncomputable def strings_IndexRune_L4 (pc : PC prog) (lp : LP) (d : strings_IndexRune_L4_D) : Option strings_IndexRune_L4_X := lp strings_IndexRune_L4_D strings_IndexRune_L4_X (strings_IndexRune_L4_R pc lp) d
theorem strings_IndexRune_L4_ap (E : AppE prog pcN pc lN lp) : ContR (fun N => strings_IndexRune_L4_R (pcN N) (lN N)) (strings_IndexRune_L4_R pc lp) := fun ψN ψ h d => by
  delta strings_IndexRune_L4_R
  exact (Approx.ifd (Approx.ifd (Approx.ifd (Approx.ifd Approx.none (h _)) Approx.none) Approx.none) (Approx.const _))
theorem strings_IndexRune_L4_a (E : AppE prog pcN pc lN lp) {d : strings_IndexRune_L4_D} : Approx (fun N => strings_IndexRune_L4 (pcN N) (lN N) d) (strings_IndexRune_L4 pc lp d) := E.loop (strings_IndexRune_L4_ap E) d
theorem strings_IndexRune_L4_of {d : strings_IndexRune_L4_D} {x : strings_IndexRune_L4_X} (h : strings_IndexRune_L4_R (pcL prog cfg) lpL (strings_IndexRune_L4 (pcL prog cfg) lpL) d = some x) : strings_IndexRune_L4 (pcL prog cfg) lpL d = some x := lpL_step (strings_IndexRune_L4_ap (appL prog cfg)) h

-- strings_IndexRune, loop 57276
abbrev strings_IndexRune_L5_D := (((List Int) × ((List Int) × (Int × (Int × Unit)))) × Unit)
abbrev strings_IndexRune_L5_X := (((Int × Unit) × Unit) ⊕ (Unit × Unit))
noncomputable def strings_IndexRune_L5_R (pc : PC prog) (lp : LP) (ψ : strings_IndexRune_L5_D → Option strings_IndexRune_L5_X) (d : strings_IndexRune_L5_D) : Option strings_IndexRune_L5_X :=
  ifd ((decide (d.1.2.2.2.1 < (((List.length d.1.1) : Nat) : Int))) = true) (
    bnd (strings_IndexRune_C3 pc lp ((d.1.1, d.1.2.1, d.1.2.2.1, d.1.2.2.2.1, ()), ())) (Sum.elim (fun (y14 : ((Int × Unit) × Unit)) =>
    some (Sum.inl ((y14.1.1, ()), ()))) (fun (y15 : (((List Int) × ((List Int) × (Int × (Int × Unit)))) × Unit)) =>
    bnd (strings_IndexRune_L4 pc lp ((y15.1.1, y15.1.2.1, y15.1.2.2.1, y15.1.2.2.2.1, 1, ()), ())) (fun (y16 : ((Int × (Int × Unit)) × Unit)) =>
    some (Sum.inl (((Go.IntKind.wrap .i64 (y16.1.2.1 - y16.1.1)), ()), ())))))) (
    some (Sum.inr ((), ())))
noncomputable def strings_IndexRune_L5 (pc : PC prog) (lp : LP) (d : strings_IndexRune_L5_D) : Option strings_IndexRune_L5_X := lp strings_IndexRune_L5_D strings_IndexRune_L5_X (strings_IndexRune_L5_R pc lp) d
theorem strings_IndexRune_L5_ap (E : AppE prog pcN pc lN lp) : ContR (fun N => strings_IndexRune_L5_R (pcN N) (lN N)) (strings_IndexRune_L5_R pc lp) := fun ψN ψ h d => by
  delta strings_IndexRune_L5_R
  exact (Approx.ifd (Approx.bnd (strings_IndexRune_C3_a E) (Approx.sum (fun y14 => (Approx.const _)) (fun y15 => (Approx.bnd (strings_IndexRune_L4_a E) (fun y16 => (Approx.const _)))))) (Approx.const _))
theorem strings_IndexRune_L5_a (E : AppE prog pcN pc lN lp) {d : strings_IndexRune_L5_D} : Approx (fun N => strings_IndexRune_L5 (pcN N) (lN N) d) (strings_IndexRune_L5 pc lp d) := E.loop (strings_IndexRune_L5_ap E) d
theorem strings_IndexRune_L5_of {d : strings_IndexRune_L5_D} {x : strings_IndexRune_L5_X} (h : strings_IndexRune_L5_R (pcL prog cfg) lpL (strings_IndexRune_L5 (pcL prog cfg) lpL) d = some x) : strings_IndexRune_L5 (pcL prog cfg) lpL d = some x := lpL_step (strings_IndexRune_L5_ap (appL prog cfg)) h

noncomputable def strings_IndexRune_B (pc : PC prog) (lp : LP) (a0 : List Int) (a1 : Int) : Option Int :=
  bnd (strings_IndexRune_C1 pc lp ((a0, a1, ()), ())) (fun (y0 : (((List Int) × (Int × (Bool × Unit))) × Unit)) =>
  ifd (y0.1.2.2.1 = true) (
    bnd (bnd (strings_IndexByte_c pc y0.1.1 (Go.IntKind.wrap .u8 y0.1.2.1)) fun (x1 : Int) =>
    some x1) fun (x2 : Int) =>
    some x2) (
    ifd ((y0.1.2.1 == 65533) = true) (
      bnd (strings_IndexRune_L2 pc lp (((), ()), ((y0.1.1, 0), ()))) (Sum.elim (fun (y3 : ((Int × Unit) × (((List Int) × Nat) × Unit))) =>
      some y3.1.1) (fun (y4 : (Unit × (((List Int) × Nat) × Unit))) =>
      some (-1)))) (
      bnd (bnd (unicode_utf8_ValidRune_c pc y0.1.2.1) fun (x5 : Bool) =>
      some x5) fun (x6 : Bool) =>
      ifd ((!x6) = true) (
        some (-1)) (
        bnd (strings_IndexRune_L5 pc lp ((y0.1.1, (encRune y0.1.2.1), (Go.IntKind.wrap .i64 ((((List.length (encRune y0.1.2.1)) : Nat) : Int) - 1)), (Go.IntKind.wrap .i64 ((((List.length (encRune y0.1.2.1)) : Nat) : Int) - 1)), ()), ())) (Sum.elim (fun (y17 : ((Int × Unit) × Unit)) =>
        some y17.1.1) (fun (y18 : (Unit × Unit)) =>
        some (-1)))))))
theorem strings_IndexRune_eq (a0 : List Int) (a1 : Int) (pc : PC prog) (lp : LP) : got strings_IndexRune_t (pcall prog (runO prog cfg (hand prog cfg lp pc 6 tbl 5) pc 6) 40 [(.c (.str a0)), (.c (.int .i32 a1))]) = strings_IndexRune_B pc lp a0 a1 := by kernel_rfl
theorem strings_IndexRune_ap (E : AppE prog pcN pc lN lp) (a0 : List Int) (a1 : Int) : Approx (fun N => strings_IndexRune_B (pcN N) (lN N) a0 a1) (strings_IndexRune_B pc lp a0 a1) := by
  delta strings_IndexRune_B
  exact (Approx.bnd (strings_IndexRune_C1_a E) (fun y0 => (Approx.ifd (Approx.bnd (Approx.bnd (strings_IndexByte_ca E) fun x1 => (Approx.const _)) fun x2 => (Approx.const _)) (Approx.ifd (Approx.bnd (strings_IndexRune_L2_a E) (Approx.sum (fun y3 => (Approx.const _)) (fun y4 => (Approx.const _)))) (Approx.bnd (Approx.bnd (unicode_utf8_ValidRune_ca E) fun x5 => (Approx.const _)) fun x6 => (Approx.ifd (Approx.const _) (Approx.bnd (strings_IndexRune_L5_a E) (Approx.sum (fun y17 => (Approx.const _)) (fun y18 => (Approx.const _))))))))))
theorem strings_IndexRune_of {a0 : List Int} {a1 : Int} {y : Int} (h : strings_IndexRune_B (pcL prog cfg) lpL a0 a1 = some y) : strings_IndexRune_c (pcL prog cfg) a0 a1 = some y := fn_of rfl (strings_IndexRune_eq a0 a1) (strings_IndexRune_ap (appN prog cfg) a0 a1) h

noncomputable def strings_shouldUseASCIISet_B (pc : PC prog) (lp : LP) (a0 : Int) : Option Bool :=
  some (decide (a0 > 8))
theorem strings_shouldUseASCIISet_eq (a0 : Int) (pc : PC prog) (lp : LP) : got strings_shouldUseASCIISet_t (pcall prog (runO prog cfg (hand prog cfg lp pc 6 tbl 5) pc 6) 41 [(.c (.int .i64 a0))]) = strings_shouldUseASCIISet_B pc lp a0 := by kernel_rfl
theorem strings_shouldUseASCIISet_ap (E : AppE prog pcN pc lN lp) (a0 : Int) : Approx (fun N => strings_shouldUseASCIISet_B (pcN N) (lN N) a0) (strings_shouldUseASCIISet_B pc lp a0) := by
  delta strings_shouldUseASCIISet_B
  exact (Approx.const _)
theorem strings_shouldUseASCIISet_of {a0 : Int} {y : Bool} (h : strings_shouldUseASCIISet_B (pcL prog cfg) lpL a0 = some y) : strings_shouldUseASCIISet_c (pcL prog cfg) a0 = some y := fn_of rfl (strings_shouldUseASCIISet_eq a0) (strings_shouldUseASCIISet_ap (appN prog cfg) a0) h

-- unicode_utf8_DecodeRuneInString, part 6
abbrev unicode_utf8_DecodeRuneInString_C1_D := (((List Int) × Unit) × Unit)
abbrev unicode_utf8_DecodeRuneInString_C1_X := (((List Int) × (Bool × Unit)) × Unit)
noncomputable def unicode_utf8_DecodeRuneInString_C1 (pc : PC prog) (lp : LP) (d : unicode_utf8_DecodeRuneInString_C1_D) : Option unicode_utf8_DecodeRuneInString_C1_X :=
  ifd ((!(d.1.1 == ([] : List Int))) = true) (
    ifd ((decide (((0 : Int) ≤ 0) ∧ ((0 : Int) < (((List.length d.1.1) : Nat) : Int)))) = true) (
      ifd ((!(d.1.1 == ([] : List Int))) = true) (
        some ((d.1.1, (decide ((List.getD d.1.1 (Int.toNat 0) 0) < 128)), ()), ())) (
        some ((d.1.1, false, ()), ()))) (
      none)) (
    ifd ((!(d.1.1 == ([] : List Int))) = true) (
      none) (
      some ((d.1.1, false, ()), ())))
theorem unicode_utf8_DecodeRuneInString_C1_a (E : AppE prog pcN pc lN lp) {d : unicode_utf8_DecodeRuneInString_C1_D} : Approx (fun N => unicode_utf8_DecodeRuneInString_C1 (pcN N) (lN N) d) (unicode_utf8_DecodeRuneInString_C1 pc lp d) := by
  delta unicode_utf8_DecodeRuneInString_C1
  exact (Approx.ifd (Approx.ifd (Approx.ifd (Approx.const _) (Approx.const _)) Approx.none) (Approx.ifd Approx.none (Approx.const _)))

noncomputable def unicode_utf8_DecodeRuneInString_B (pc : PC prog) (lp : LP) (a0 : List Int) : Option (Int × (Int × Unit)) :=
  bnd (unicode_utf8_DecodeRuneInString_C1 pc lp ((a0, ()), ())) (fun (y0 : (((List Int) × (Bool × Unit)) × Unit)) =>
  ifd (y0.1.2.1 = true) (
    ifd ((decide (((0 : Int) ≤ 0) ∧ ((0 : Int) < (((List.length y0.1.1) : Nat) : Int)))) = true) (
      some ((Go.IntKind.wrap .i32 (List.getD y0.1.1 (Int.toNat 0) 0)), (1, ()))) (
      none)) (
    bnd (bnd (unicode_utf8_decodeRuneInStringSlow_c pc y0.1.1) fun (x1 : (Int × (Int × Unit))) =>
    some (x1.1, (x1.2.1, ()))) fun (x2 : (Int × (Int × Unit))) =>
    some (x2.1, (x2.2.1, ()))))
theorem unicode_utf8_DecodeRuneInString_eq (a0 : List Int) (pc : PC prog) (lp : LP) : got unicode_utf8_DecodeRuneInString_t (pcall prog (runO prog cfg (hand prog cfg lp pc 6 tbl 5) pc 6) 43 [(.c (.str a0))]) = unicode_utf8_DecodeRuneInString_B pc lp a0 := by kernel_rfl
theorem unicode_utf8_DecodeRuneInString_ap (E : AppE prog pcN pc lN lp) (a0 : List Int) : Approx (fun N => unicode_utf8_DecodeRuneInString_B (pcN N) (lN N) a0) (unicode_utf8_DecodeRuneInString_B pc lp a0) := by
  delta unicode_utf8_DecodeRuneInString_B
  exact (Approx.bnd (unicode_utf8_DecodeRuneInString_C1_a E) (fun y0 => (Approx.ifd (Approx.ifd (Approx.const _) Approx.none) (Approx.bnd (Approx.bnd (unicode_utf8_decodeRuneInStringSlow_ca E) fun x1 => (Approx.const _)) fun x2 => (Approx.const _)))))
theorem unicode_utf8_DecodeRuneInString_of {a0 : List Int} {y : (Int × (Int × Unit))} (h : unicode_utf8_DecodeRuneInString_B (pcL prog cfg) lpL a0 = some y) : unicode_utf8_DecodeRuneInString_c (pcL prog cfg) a0 = some y := fn_of rfl (unicode_utf8_DecodeRuneInString_eq a0) (unicode_utf8_DecodeRuneInString_ap (appN prog cfg) a0) h

noncomputable def strings_ContainsRune_B (pc : PC prog) (lp : LP) (a0 : List Int) (a1 : Int) : Option Bool :=
  bnd (bnd (strings_IndexRune_c pc a0 a1) fun (x0 : Int) =>
  some x0) fun (x1 : Int) =>
  some (decide (x1 ≥ 0))
theorem strings_ContainsRune_eq (a0 : List Int) (a1 : Int) (pc : PC prog) (lp : LP) : got strings_ContainsRune_t (pcall prog (runO prog cfg (hand prog cfg lp pc 6 tbl 5) pc 6) 44 [(.c (.str a0)), (.c (.int .i32 a1))]) = strings_ContainsRune_B pc lp a0 a1 := by kernel_rfl
theorem strings_ContainsRune_ap (E : AppE prog pcN pc lN lp) (a0 : List Int) (a1 : Int) : Approx (fun N => strings_ContainsRune_B (pcN N) (lN N) a0 a1) (strings_ContainsRune_B pc lp a0 a1) := by
  delta strings_ContainsRune_B
  exact (Approx.bnd (Approx.bnd (strings_IndexRune_ca E) fun x0 => (Approx.const _)) fun x1 => (Approx.const _))
theorem strings_ContainsRune_of {a0 : List Int} {a1 : Int} {y : Bool} (h : strings_ContainsRune_B (pcL prog cfg) lpL a0 a1 = some y) : strings_ContainsRune_c (pcL prog cfg) a0 a1 = some y := fn_of rfl (strings_ContainsRune_eq a0 a1) (strings_ContainsRune_ap (appN prog cfg) a0 a1) h

-- unicode_utf8_DecodeLastRuneInString, loop 2042
abbrev unicode_utf8_DecodeLastRuneInString_L1_D := (((List Int) × (Int × (Int × (Int × Unit)))) × Unit)
abbrev unicode_utf8_DecodeLastRuneInString_L1_X := (((List Int) × (Int × (Int × Unit))) × Unit)
noncomputable def unicode_utf8_DecodeLastRuneInString_L1_R (pc : PC prog) (lp : LP) (ψ : unicode_utf8_DecodeLastRuneInString_L1_D → Option unicode_utf8_DecodeLastRuneInString_L1_X) (d : unicode_utf8_DecodeLastRuneInString_L1_D) : Option unicode_utf8_DecodeLastRuneInString_L1_X :=
  ifd ((decide (d.1.2.2.1 ≥ d.1.2.2.2.1)) = true) (
    ifd ((decide (((0 : Int) ≤ d.1.2.2.1) ∧ (d.1.2.2.1 < (((List.length d.1.1) : Nat) : Int)))) = true) (
      bnd (bnd (unicode_utf8_RuneStart_c pc (List.getD d.1.1 (Int.toNat d.1.2.2.1) 0)) fun (x2 : Bool) =>
      some x2) fun (x3 : Bool) =>
      ifd (x3 = true) (
        some ((d.1.1, d.1.2.1, d.1.2.2.1, ()), ())) (
        ψ ((d.1.1, d.1.2.1, (Go.IntKind.wrap .i64 (d.1.2.2.1 - 1)), d.1.2.2.2.1, ()), ()))) (
      none)) (
    some ((d.1.1, d.1.2.1, d.1.2.2.1, ()), ()))
noncomputable def unicode_utf8_DecodeLastRuneInString_L1 (pc : PC prog) (lp : LP) (d : unicode_utf8_DecodeLastRuneInString_L1_D) : Option unicode_utf8_DecodeLastRuneInString_L1_X := lp unicode_utf8_DecodeLastRuneInString_L1_D unicode_utf8_DecodeLastRuneInString_L1_X (unicode_utf8_DecodeLastRuneInString_L1_R pc lp) d
theorem unicode_utf8_DecodeLastRuneInString_L1_ap (E : AppE prog pcN pc lN lp) : ContR (fun N => unicode_utf8_DecodeLastRuneInString_L1_R (pcN N) (lN N)) (unicode_utf8_DecodeLastRuneInString_L1_R pc lp) := fun ψN ψ h d => by
  delta unicode_utf8_DecodeLastRuneInString_L1_R
  exact (Approx.ifd (Approx.ifd (Approx.bnd (Approx.bnd (unicode_utf8_RuneStart_ca E) fun x2 => (Approx.const _)) fun x3 => (Approx.ifd (Approx.const _) (h _))) Approx.none) (Approx.const _))
theorem unicode_utf8_DecodeLastRuneInString_L1_a (E : AppE prog pcN pc lN lp) {d : unicode_utf8_DecodeLastRuneInString_L1_D} : Approx (fun N => unicode_utf8_DecodeLastRuneInString_L1 (pcN N) (lN N) d) (unicode_utf8_DecodeLastRuneInString_L1 pc lp d) := E.loop (unicode_utf8_DecodeLastRuneInString_L1_ap E) d
theorem unicode_utf8_DecodeLastRuneInString_L1_of {d : unicode_utf8_DecodeLastRuneInString_L1_D} {x : unicode_utf8_DecodeLastRuneInString_L1_X} (h : unicode_utf8_DecodeLastRuneInString_L1_R (pcL prog cfg) lpL (unicode_utf8_DecodeLastRuneInString_L1 (pcL prog cfg) lpL) d = some x) : unicode_utf8_DecodeLastRuneInString_L1 (pcL prog cfg) lpL d = some x := lpL_step (unicode_utf8_DecodeLastRuneInString_L1_ap (appL prog cfg)) h

-- unicode_utf8_DecodeLastRuneInString, part 511
abbrev unicode_utf8_DecodeLastRuneInString_C2_D := (((List Int) × (Int × (Int × Unit))) × Unit)
abbrev unicode_utf8_DecodeLastRuneInString_C2_X := (((List Int) × (Int × (Int × Unit))) × Unit)
noncomputable def unicode_utf8_DecodeLastRuneInString_C2 (pc : PC prog) (lp : LP) (d : unicode_utf8_DecodeLastRuneInString_C2_D) : Option unicode_utf8_DecodeLastRuneInString_C2_X :=
  ifd ((decide (d.1.2.2.1 < 0)) = true) (
    some ((d.1.1, d.1.2.1, 0, ()), ())) (
    some ((d.1.1, d.1.2.1, d.1.2.2.1, ()), ()))
theorem unicode_utf8_DecodeLastRuneInString_C2_a (E : AppE prog pcN pc lN lp) {d : unicode_utf8_DecodeLastRuneInString_C2_D} : Approx (fun N => unicode_utf8_DecodeLastRuneInString_C2 (pcN N) (lN N) d) (unicode_utf8_DecodeLastRuneInString_C2 pc lp d) := by
  delta unicode_utf8_DecodeLastRuneInString_C2
  exact (Approx.ifd (Approx.const _) (Approx.const _))

noncomputable def unicode_utf8_DecodeLastRuneInString_B (pc : PC prog) (lp : LP) (a0 : List Int) : Option (Int × (Int × Unit)) :=
  ifd (((((List.length a0) : Nat) : Int) == 0) = true) (
    some (65533, (0, ()))) (
    ifd ((decide (((0 : Int) ≤ (Go.IntKind.wrap .i64 ((((List.length a0) : Nat) : Int) - 1))) ∧ ((Go.IntKind.wrap .i64 ((((List.length a0) : Nat) : Int) - 1)) < (((List.length a0) : Nat) : Int)))) = true) (
      ifd ((decide ((Go.IntKind.wrap .i32 (List.getD a0 (Int.toNat (Go.IntKind.wrap .i64 ((((List.length a0) : Nat) : Int) - 1))) 0)) < 128)) = true) (
        some ((Go.IntKind.wrap .i32 (List.getD a0 (Int.toNat (Go.IntKind.wrap .i64 ((((List.length a0) : Nat) : Int) - 1))) 0)), (1, ()))) (
        bnd (unicode_utf8_DecodeLastRuneInString_L1 pc lp ((a0, (((List.length a0) : Nat) : Int), (Go.IntKind.wrap .i64 ((Go.IntKind.wrap .i64 ((((List.length a0) : Nat) : Int) - 1)) - 1)), (max (Go.IntKind.wrap .i64 ((((List.length a0) : Nat) : Int) - 4)) 0), ()), ())) (fun (y4 : (((List Int) × (Int × (Int × Unit))) × Unit)) =>
        bnd (unicode_utf8_DecodeLastRuneInString_C2 pc lp ((y4.1.1, y4.1.2.1, y4.1.2.2.1, ()), ())) (fun (y5 : (((List Int) × (Int × (Int × Unit))) × Unit)) =>
        ifd ((decide (((0 : Int) ≤ y5.1.2.2.1) ∧ ((y5.1.2.2.1 ≤ y5.1.2.1) ∧ (y5.1.2.1 ≤ (((List.length y5.1.1) : Nat) : Int))))) = true) (
          bnd (bnd (unicode_utf8_DecodeRuneInString_c pc (List.drop (Int.toNat y5.1.2.2.1) (List.take (Int.toNat y5.1.2.1) y5.1.1))) fun (x6 : (Int × (Int × Unit))) =>
          some (x6.1, (x6.2.1, ()))) fun (x7 : (Int × (Int × Unit))) =>
          ifd (((Go.IntKind.wrap .i64 (y5.1.2.2.1 + x7.2.1)) != y5.1.2.1) = true) (
            some (65533, (1, ()))) (
            some (x7.1, (x7.2.1, ())))) (
          none))))) (
      none))
theorem unicode_utf8_DecodeLastRuneInString_eq (a0 : List Int) (pc : PC prog) (lp : LP) : got unicode_utf8_DecodeLastRuneInString_t (pcall prog (runO prog cfg (hand prog cfg lp pc 6 tbl 5) pc 6) 49 [(.c (.str a0))]) = unicode_utf8_DecodeLastRuneInString_B pc lp a0 := by kernel_rfl
theorem unicode_utf8_DecodeLastRuneInString_ap (E : AppE prog pcN pc lN lp) (a0 : List Int) : Approx (fun N => unicode_utf8_DecodeLastRuneInString_B (pcN N) (lN N) a0) (unicode_utf8_DecodeLastRuneInString_B pc lp a0) := by
  delta unicode_utf8_DecodeLastRuneInString_B
  exact (Approx.ifd (Approx.const _) (Approx.ifd (Approx.ifd (Approx.const _) (Approx.bnd (unicode_utf8_DecodeLastRuneInString_L1_a E) (fun y4 => (Approx.bnd (unicode_utf8_DecodeLastRuneInString_C2_a E) (fun y5 => (Approx.ifd (Approx.bnd (Approx.bnd (unicode_utf8_DecodeRuneInString_ca E) fun x6 => (Approx.const _)) fun x7 => (Approx.ifd (Approx.const _) (Approx.const _))) Approx.none)))))) Approx.none))
theorem unicode_utf8_DecodeLastRuneInString_of {a0 : List Int} {y : (Int × (Int × Unit))} (h : unicode_utf8_DecodeLastRuneInString_B (pcL prog cfg) lpL a0 = some y) : unicode_utf8_DecodeLastRuneInString_c (pcL prog cfg) a0 = some y := fn_of rfl (unicode_utf8_DecodeLastRuneInString_eq a0) (unicode_utf8_DecodeLastRuneInString_ap (appN prog cfg) a0) h

noncomputable def strings_IndexByte_B (pc : PC prog) (lp : LP) (a0 : List Int) (a1 : Int) : Option Int :=
  bnd (bnd (internal_stringslite_IndexByte_c pc a0 a1) fun (x0 : Int) =>
  some x0) fun (x1 : Int) =>
  some x1
theorem strings_IndexByte_eq (a0 : List Int) (a1 : Int) (pc : PC prog) (lp : LP) : got strings_IndexByte_t (pcall prog (runO prog cfg (hand prog cfg lp pc 6 tbl 5) pc 6) 50 [(.c (.str a0)), (.c (.int .u8 a1))]) = strings_IndexByte_B pc lp a0 a1 := by kernel_rfl
theorem strings_IndexByte_ap (E : AppE prog pcN pc lN lp) (a0 : List Int) (a1 : Int) : Approx (fun N => strings_IndexByte_B (pcN N) (lN N) a0 a1) (strings_IndexByte_B pc lp a0 a1) := by
  delta strings_IndexByte_B
  exact (Approx.bnd (Approx.bnd (internal_stringslite_IndexByte_ca E) fun x0 => (Approx.const _)) fun x1 => (Approx.const _))
theorem strings_IndexByte_of {a0 : List Int} {a1 : Int} {y : Int} (h : strings_IndexByte_B (pcL prog cfg) lpL a0 a1 = some y) : strings_IndexByte_c (pcL prog cfg) a0 a1 = some y := fn_of rfl (strings_IndexByte_eq a0 a1) (strings_IndexByte_ap (appN prog cfg) a0 a1) h

noncomputable def unicode_utf8_ValidRune_B (pc : PC prog) (lp : LP) (a0 : Int) : Option Bool :=
  ifd ((decide ((0 : Int) ≤ a0)) = true) (
    ifd ((decide ((0 : Int) ≤ a0)) = true) (
      ifd ((decide (a0 < 55296)) = true) (
        some true) (
        ifd ((decide ((57343 : Int) < a0)) = true) (
          ifd ((decide ((57343 : Int) < a0)) = true) (
            ifd ((decide (a0 ≤ 1114111)) = true) (
              some true) (
              some false)) (
            some false)) (
          ifd ((decide ((57343 : Int) < a0)) = true) (
            none) (
            some false)))) (
      ifd ((decide ((57343 : Int) < a0)) = true) (
        ifd ((decide ((57343 : Int) < a0)) = true) (
          ifd ((decide (a0 ≤ 1114111)) = true) (
            some true) (
            some false)) (
          some false)) (
        ifd ((decide ((57343 : Int) < a0)) = true) (
          none) (
          some false)))) (
    ifd ((decide ((0 : Int) ≤ a0)) = true) (
      none) (
      ifd ((decide ((57343 : Int) < a0)) = true) (
        ifd ((decide ((57343 : Int) < a0)) = true) (
          ifd ((decide (a0 ≤ 1114111)) = true) (
            some true) (
            some false)) (
          some false)) (
        ifd ((decide ((57343 : Int) < a0)) = true) (
          none) (
          some false))))
theorem unicode_utf8_ValidRune_eq (a0 : Int) (pc : PC prog) (lp : LP) : got unicode_utf8_ValidRune_t (pcall prog (runO prog cfg (hand prog cfg lp pc 6 tbl 5) pc 6) 51 [(.c (.int .i32 a0))]) = unicode_utf8_ValidRune_B pc lp a0 := by kernel_rfl
theorem unicode_utf8_ValidRune_ap (E : AppE prog pcN pc lN lp) (a0 : Int) : Approx (fun N => unicode_utf8_ValidRune_B (pcN N) (lN N) a0) (unicode_utf8_ValidRune_B pc lp a0) := by
  delta unicode_utf8_ValidRune_B
  exact (Approx.ifd (Approx.ifd (Approx.ifd (Approx.const _) (Approx.ifd (Approx.ifd (Approx.ifd (Approx.const _) (Approx.const _)) (Approx.const _)) (Approx.ifd Approx.none (Approx.const _)))) (Approx.ifd (Approx.ifd (Approx.ifd (Approx.const _) (Approx.const _)) (Approx.const _)) (Approx.ifd Approx.none (Approx.const _)))) (Approx.ifd Approx.none (Approx.ifd (Approx.ifd (Approx.ifd (Approx.const _) (Approx.const _)) (Approx.const _)) (Approx.ifd Approx.none (Approx.const _)))))
theorem unicode_utf8_ValidRune_of {a0 : Int} {y : Bool} (h : unicode_utf8_ValidRune_B (pcL prog cfg) lpL a0 = some y) : unicode_utf8_ValidRune_c (pcL prog cfg) a0 = some y := fn_of rfl (unicode_utf8_ValidRune_eq a0) (unicode_utf8_ValidRune_ap (appN prog cfg) a0) h

-- unicode_utf8_decodeRuneInStringSlow, part 4094
abbrev unicode_utf8_decodeRuneInStringSlow_C1_D := (((List Int) × (Int × (Int × (Unit × (Int × Unit))))) × ((Int × (Int × Unit)) × Unit))
abbrev unicode_utf8_decodeRuneInStringSlow_C1_X := (((List Int) × (Int × (Int × (Int × (Bool × Unit))))) × ((Int × (Int × Unit)) × Unit))
noncomputable def unicode_utf8_decodeRuneInStringSlow_C1 (pc : PC prog) (lp : LP) (d : unicode_utf8_decodeRuneInStringSlow_C1_D) : Option unicode_utf8_decodeRuneInStringSlow_C1_X :=
  ifd ((decide (d.1.2.2.2.2.1 < d.2.1.1)) = true) (
    ifd ((decide (d.1.2.2.2.2.1 < d.2.1.1)) = true) (
      some ((d.1.1, d.1.2.1, d.1.2.2.1, d.1.2.2.2.2.1, true, ()), ((d.2.1.1, d.2.1.2.1, ()), ()))) (
      none)) (
    ifd ((decide (d.1.2.2.2.2.1 < d.2.1.1)) = true) (
      some ((d.1.1, d.1.2.1, d.1.2.2.1, d.1.2.2.2.2.1, true, ()), ((d.2.1.1, d.2.1.2.1, ()), ()))) (
      some ((d.1.1, d.1.2.1, d.1.2.2.1, d.1.2.2.2.2.1, (decide (d.2.1.2.1 < d.1.2.2.2.2.1)), ()), ((d.2.1.1, d.2.1.2.1, ()), ()))))
theorem unicode_utf8_decodeRuneInStringSlow_C1_a (E : AppE prog pcN pc lN lp) {d : unicode_utf8_decodeRuneInStringSlow_C1_D} : Approx (fun N => unicode_utf8_decodeRuneInStringSlow_C1 (pcN N) (lN N) d) (unicode_utf8_decodeRuneInStringSlow_C1 pc lp d) := by
  delta unicode_utf8_decodeRuneInStringSlow_C1
  exact (Approx.ifd (Approx.ifd (Approx.const _) Approx.none) (Approx.ifd (Approx.const _) (Approx.const _)))

-- unicode_utf8_decodeRuneInStringSlow, part 32766
abbrev unicode_utf8_decodeRuneInStringSlow_C2_D := (((List Int) × (Int × (Int × (Int × (Int × Unit))))) × ((Int × (Int × Unit)) × Unit))
abbrev unicode_utf8_decodeRuneInStringSlow_C2_X := (((List Int) × (Int × (Int × (Int × (Int × (Bool × Unit)))))) × ((Int × (Int × Unit)) × Unit))
noncomputable def unicode_utf8_decodeRuneInStringSlow_C2 (pc : PC prog) (lp : LP) (d : unicode_utf8_decodeRuneInStringSlow_C2_D) : Option unicode_utf8_decodeRuneInStringSlow_C2_X :=
  ifd ((decide (d.1.2.2.2.2.1 < 128)) = true) (
    ifd ((decide (d.1.2.2.2.2.1 < 128)) = true) (
      some ((d.1.1, d.1.2.1, d.1.2.2.1, d.1.2.2.2.1, d.1.2.2.2.2.1, true, ()), ((d.2.1.1, d.2.1.2.1, ()), ()))) (
      none)) (
    ifd ((decide (d.1.2.2.2.2.1 < 128)) = true) (
      some ((d.1.1, d.1.2.1, d.1.2.2.1, d.1.2.2.2.1, d.1.2.2.2.2.1, true, ()), ((d.2.1.1, d.2.1.2.1, ()), ()))) (
      some ((d.1.1, d.1.2.1, d.1.2.2.1, d.1.2.2.2.1, d.1.2.2.2.2.1, (decide ((191 : Int) < d.1.2.2.2.2.1)), ()), ((d.2.1.1, d.2.1.2.1, ()), ()))))
theorem unicode_utf8_decodeRuneInStringSlow_C2_a (E : AppE prog pcN pc lN lp) {d : unicode_utf8_decodeRuneInStringSlow_C2_D} : Approx (fun N => unicode_utf8_decodeRuneInStringSlow_C2 (pcN N) (lN N) d) (unicode_utf8_decodeRuneInStringSlow_C2 pc lp d) := by
  delta unicode_utf8_decodeRuneInStringSlow_C2
  exact (Approx.ifd (Approx.ifd (Approx.const _) Approx.none) (Approx.ifd (Approx.const _) (Approx.const _)))

-- unicode_utf8_decodeRuneInStringSlow, part 262142
abbrev unicode_utf8_decodeRuneInStringSlow_C3_D := ((Int × (Int × (Int × (Int × Unit)))) × ((Int × (Int × Unit)) × Unit))
abbrev unicode_utf8_decodeRuneInStringSlow_C3_X := ((Int × (Int × (Int × (Int × (Bool × Unit))))) × ((Int × (Int × Unit)) × Unit))
noncomputable def unicode_utf8_decodeRuneInStringSlow_C3 (pc : PC prog) (lp : LP) (d : unicode_utf8_decodeRuneInStringSlow_C3_D) : Option unicode_utf8_decodeRuneInStringSlow_C3_X :=
  ifd ((decide (d.1.2.2.2.1 < 128)) = true) (
    ifd ((decide (d.1.2.2.2.1 < 128)) = true) (
      some ((d.1.1, d.1.2.1, d.1.2.2.1, d.1.2.2.2.1, true, ()), ((d.2.1.1, d.2.1.2.1, ()), ()))) (
      none)) (
    ifd ((decide (d.1.2.2.2.1 < 128)) = true) (
      some ((d.1.1, d.1.2.1, d.1.2.2.1, d.1.2.2.2.1, true, ()), ((d.2.1.1, d.2.1.2.1, ()), ()))) (
      some ((d.1.1, d.1.2.1, d.1.2.2.1, d.1.2.2.2.1, (decide ((191 : Int) < d.1.2.2.2.1)), ()), ((d.2.1.1, d.2.1.2.1, ()), ()))))
theorem unicode_utf8_decodeRuneInStringSlow_C3_a (E : AppE prog pcN pc lN lp) {d : unicode_utf8_decodeRuneInStringSlow_C3_D} : Approx (fun N => unicode_utf8_decodeRuneInStringSlow_C3 (pcN N) (lN N) d) (unicode_utf8_decodeRuneInStringSlow_C3 pc lp d) := by
  delta unicode_utf8_decodeRuneInStringSlow_C3
  exact (Approx.ifd (Approx.ifd (Approx.const _) Approx.none) (Approx.ifd (Approx.const _) (Approx.const _)))

noncomputable def unicode_utf8_decodeRuneInStringSlow_B (pc : PC prog) (lp : LP) (a0 : List Int) : Option (Int × (Int × Unit)) :=
  ifd ((decide ((((List.length a0) : Nat) : Int) < 1)) = true) (
    some (65533, (0, ()))) (
    ifd ((decide (((0 : Int) ≤ 0) ∧ ((0 : Int) < (((List.length a0) : Nat) : Int)))) = true) (
      ifd ((decide (((0 : Int) ≤ (List.getD a0 (Int.toNat 0) 0)) ∧ ((List.getD a0 (Int.toNat 0) 0) < 256))) = true) (
        ifd ((decide ((List.getD firstL (Int.toNat (List.getD a0 (Int.toNat 0) 0)) 0) ≥ 240)) = true) (
          ifd ((decide (((0 : Int) ≤ 0) ∧ ((0 : Int) < (((List.length a0) : Nat) : Int)))) = true) (
            some ((ibits .or .i32 (ibits .andNot .i32 (Go.IntKind.wrap .i32 (List.getD a0 (Int.toNat 0) 0)) (Int.fdiv (Go.IntKind.wrap .i32 ((Go.IntKind.wrap .i32 (List.getD firstL (Int.toNat (List.getD a0 (Int.toNat 0) 0)) 0)) * ((2 : Int) ^ (min (Int.toNat 31) 32)))) ((2 : Int) ^ (min (Int.toNat 31) 32)))) (ibits .and .i32 65533 (Int.fdiv (Go.IntKind.wrap .i32 ((Go.IntKind.wrap .i32 (List.getD firstL (Int.toNat (List.getD a0 (Int.toNat 0) 0)) 0)) * ((2 : Int) ^ (min (Int.toNat 31) 32)))) ((2 : Int) ^ (min (Int.toNat 31) 32))))), (1, ()))) (
            none)) (
          ifd ((decide (((0 : Int) ≤ (Int.fdiv (List.getD firstL (Int.toNat (List.getD a0 (Int.toNat 0) 0)) 0) ((2 : Int) ^ (min (Int.toNat 4) 8)))) ∧ ((Int.fdiv (List.getD firstL (Int.toNat (List.getD a0 (Int.toNat 0) 0)) 0) ((2 : Int) ^ (min (Int.toNat 4) 8))) < 16))) = true) (
            ifd ((decide ((((List.length a0) : Nat) : Int) < (Go.IntKind.wrap .i64 (ibits .and .u8 (List.getD firstL (Int.toNat (List.getD a0 (Int.toNat 0) 0)) 0) 7)))) = true) (
              some (65533, (1, ()))) (
              ifd ((decide (((0 : Int) ≤ 1) ∧ ((1 : Int) < (((List.length a0) : Nat) : Int)))) = true) (
                bnd (unicode_utf8_decodeRuneInStringSlow_C1 pc lp ((a0, (List.getD a0 (Int.toNat 0) 0), (Go.IntKind.wrap .i64 (ibits .and .u8 (List.getD firstL (Int.toNat (List.getD a0 (Int.toNat 0) 0)) 0) 7)), (), (List.getD a0 (Int.toNat 1) 0), ()), (((List.getD acceptP (Int.toNat (Int.fdiv (List.getD firstL (Int.toNat (List.getD a0 (Int.toNat 0) 0)) 0) ((2 : Int) ^ (min (Int.toNat 4) 8)))) (0, (0, ()))).1, (List.getD acceptP (Int.toNat (Int.fdiv (List.getD firstL (Int.toNat (List.getD a0 (Int.toNat 0) 0)) 0) ((2 : Int) ^ (min (Int.toNat 4) 8)))) (0, (0, ()))).2.1, ()), ()))) (fun (y0 : (((List Int) × (Int × (Int × (Int × (Bool × Unit))))) × ((Int × (Int × Unit)) × Unit))) =>
                ifd (y0.1.2.2.2.2.1 = true) (
                  some (65533, (1, ()))) (
                  ifd ((decide (y0.1.2.2.1 ≤ 2)) = true) (
                    some ((ibits .or .i32 (Go.IntKind.wrap .i32 ((Go.IntKind.wrap .i32 (ibits .and .u8 y0.1.2.1 31)) * ((2 : Int) ^ (min (Int.toNat 6) 32)))) (Go.IntKind.wrap .i32 (ibits .and .u8 y0.1.2.2.2.1 63))), (2, ()))) (
                    ifd ((decide (((0 : Int) ≤ 2) ∧ ((2 : Int) < (((List.length y0.1.1) : Nat) : Int)))) = true) (
                      bnd (unicode_utf8_decodeRuneInStringSlow_C2 pc lp ((y0.1.1, y0.1.2.1, y0.1.2.2.1, y0.1.2.2.2.1, (List.getD y0.1.1 (Int.toNat 2) 0), ()), ((y0.2.1.1, y0.2.1.2.1, ()), ()))) (fun (y1 : (((List Int) × (Int × (Int × (Int × (Int × (Bool × Unit)))))) × ((Int × (Int × Unit)) × Unit))) =>
                      ifd (y1.1.2.2.2.2.2.1 = true) (
                        some (65533, (1, ()))) (
                        ifd ((decide (y1.1.2.2.1 ≤ 3)) = true) (
                          some ((ibits .or .i32 (ibits .or .i32 (Go.IntKind.wrap .i32 ((Go.IntKind.wrap .i32 (ibits .and .u8 y1.1.2.1 15)) * ((2 : Int) ^ (min (Int.toNat 12) 32)))) (Go.IntKind.wrap .i32 ((Go.IntKind.wrap .i32 (ibits .and .u8 y1.1.2.2.2.1 63)) * ((2 : Int) ^ (min (Int.toNat 6) 32))))) (Go.IntKind.wrap .i32 (ibits .and .u8 y1.1.2.2.2.2.1 63))), (3, ()))) (
                          ifd ((decide (((0 : Int) ≤ 3) ∧ ((3 : Int) < (((List.length y1.1.1) : Nat) : Int)))) = true) (
                            bnd (unicode_utf8_decodeRuneInStringSlow_C3 pc lp ((y1.1.2.1, y1.1.2.2.2.1, y1.1.2.2.2.2.1, (List.getD y1.1.1 (Int.toNat 3) 0), ()), ((y1.2.1.1, y1.2.1.2.1, ()), ()))) (fun (y2 : ((Int × (Int × (Int × (Int × (Bool × Unit))))) × ((Int × (Int × Unit)) × Unit))) =>
                            ifd (y2.1.2.2.2.2.1 = true) (
                              some (65533, (1, ()))) (
                              some ((ibits .or .i32 (ibits .or .i32 (ibits .or .i32 (Go.IntKind.wrap .i32 ((Go.IntKind.wrap .i32 (ibits .and .u8 y2.1.1 7)) * ((2 : Int) ^ (min (Int.toNat 18) 32)))) (Go.IntKind.wrap .i32 ((Go.IntKind.wrap .i32 (ibits .and .u8 y2.1.2.1 63)) * ((2 : Int) ^ (min (Int.toNat 12) 32))))) (Go.IntKind.wrap .i32 ((Go.IntKind.wrap .i32 (ibits .and .u8 y2.1.2.2.1 63)) * ((2 : Int) ^ (min (Int.toNat 6) 32))))) (Go.IntKind.wrap .i32 (ibits .and .u8 y2.1.2.2.2.1 63))), (4, ()))))) (
                            none))))) (
                      none))))) (
                none))) (
            none))) (
        none)) (
      none))
theorem unicode_utf8_decodeRuneInStringSlow_eq (a0 : List Int) (pc : PC prog) (lp : LP) : got unicode_utf8_decodeRuneInStringSlow_t (pcall prog (runO prog cfg (hand prog cfg lp pc 6 tbl 5) pc 6) 54 [(.c (.str a0))]) = unicode_utf8_decodeRuneInStringSlow_B pc lp a0 := by kernel_rfl
theorem unicode_utf8_decodeRuneInStringSlow_ap (E : AppE prog pcN pc lN lp) (a0 : List Int) : Approx (fun N => unicode_utf8_decodeRuneInStringSlow_B (pcN N) (lN N) a0) (unicode_utf8_decodeRuneInStringSlow_B pc lp a0) := by
  delta unicode_utf8_decodeRuneInStringSlow_B
  exact (Approx.ifd (Approx.const _) (Approx.ifd (Approx.ifd (Approx.ifd (Approx.ifd (Approx.const _) Approx.none) (Approx.ifd (Approx.ifd (Approx.const _) (Approx.ifd (Approx.bnd (unicode_utf8_decodeRuneInStringSlow_C1_a E) (fun y0 => (Approx.ifd (Approx.const _) (Approx.ifd (Approx.const _) (Approx.ifd (Approx.bnd (unicode_utf8_decodeRuneInStringSlow_C2_a E) (fun y1 => (Approx.ifd (Approx.const _) (Approx.ifd (Approx.const _) (Approx.ifd (Approx.bnd (unicode_utf8_decodeRuneInStringSlow_C3_a E) (fun y2 => (Approx.ifd (Approx.const _) (Approx.const _)))) Approx.none))))) Approx.none))))) Approx.none)) Approx.none)) Approx.none) Approx.none))
theorem unicode_utf8_decodeRuneInStringSlow_of {a0 : List Int} {y : (Int × (Int × Unit))} (h : unicode_utf8_decodeRuneInStringSlow_B (pcL prog cfg) lpL a0 = some y) : unicode_utf8_decodeRuneInStringSlow_c (pcL prog cfg) a0 = some y := fn_of rfl (unicode_utf8_decodeRuneInStringSlow_eq a0) (unicode_utf8_decodeRuneInStringSlow_ap (appN prog cfg) a0) h

noncomputable def unicode_utf8_RuneStart_B (pc : PC prog) (lp : LP) (a0 : Int) : Option Bool :=
  some ((ibits .and .u8 a0 192) != 128)
theorem unicode_utf8_RuneStart_eq (a0 : Int) (pc : PC prog) (lp : LP) : got unicode_utf8_RuneStart_t (pcall prog (runO prog cfg (hand prog cfg lp pc 6 tbl 5) pc 6) 58 [(.c (.int .u8 a0))]) = unicode_utf8_RuneStart_B pc lp a0 := by kernel_rfl
theorem unicode_utf8_RuneStart_ap (E : AppE prog pcN pc lN lp) (a0 : Int) : Approx (fun N => unicode_utf8_RuneStart_B (pcN N) (lN N) a0) (unicode_utf8_RuneStart_B pc lp a0) := by
  delta unicode_utf8_RuneStart_B
  exact (Approx.const _)
theorem unicode_utf8_RuneStart_of {a0 : Int} {y : Bool} (h : unicode_utf8_RuneStart_B (pcL prog cfg) lpL a0 = some y) : unicode_utf8_RuneStart_c (pcL prog cfg) a0 = some y := fn_of rfl (unicode_utf8_RuneStart_eq a0) (unicode_utf8_RuneStart_ap (appN prog cfg) a0) h

noncomputable def internal_stringslite_IndexByte_B (pc : PC prog) (lp : LP) (a0 : List Int) (a1 : Int) : Option Int :=
  some (indexByteL a0 a1)
theorem internal_stringslite_IndexByte_eq (a0 : List Int) (a1 : Int) (pc : PC prog) (lp : LP) : got internal_stringslite_IndexByte_t (pcall prog (runO prog cfg (hand prog cfg lp pc 6 tbl 5) pc 6) 59 [(.c (.str a0)), (.c (.int .u8 a1))]) = internal_stringslite_IndexByte_B pc lp a0 a1 := by kernel_rfl
theorem internal_stringslite_IndexByte_ap (E : AppE prog pcN pc lN lp) (a0 : List Int) (a1 : Int) : Approx (fun N => internal_stringslite_IndexByte_B (pcN N) (lN N) a0 a1) (internal_stringslite_IndexByte_B pc lp a0 a1) := by
  delta internal_stringslite_IndexByte_B
  exact (Approx.const _)
theorem internal_stringslite_IndexByte_of {a0 : List Int} {a1 : Int} {y : Int} (h : internal_stringslite_IndexByte_B (pcL prog cfg) lpL a0 a1 = some y) : internal_stringslite_IndexByte_c (pcL prog cfg) a0 a1 = some y := fn_of rfl (internal_stringslite_IndexByte_eq a0 a1) (internal_stringslite_IndexByte_ap (appN prog cfg) a0 a1) h

noncomputable def fold_Join_B (pc : PC prog) (lp : LP) (a0 : List (List Int)) : Option ((List Int) × ((List Int) × (Bool × Unit))) :=
  ifd ((decide (((List.length (joinL a0 ([] : List Int))) ≤ 140737488355328) ∧ ((List.length a0) ≤ 140737488355328))) = true) (
    bnd (bnd (strings_Cut_c pc (joinL a0 ([] : List Int)) ([58] : List Int)) fun (x0 : ((List Int) × ((List Int) × (Bool × Unit)))) =>
    some (x0.1, (x0.2.1, (x0.2.2.1, ())))) fun (x1 : ((List Int) × ((List Int) × (Bool × Unit)))) =>
    bnd (bnd (strings_Trim_c pc x1.2.1 ([32, 9] : List Int)) fun (x2 : (List Int)) =>
    some x2) fun (x3 : (List Int)) =>
    ifd (x1.2.2.1 = true) (
      bnd (bnd (fold_IsName_c pc x1.1) fun (x4 : Bool) =>
      some x4) fun (x5 : Bool) =>
      ifd (x1.2.2.1 = true) (
        some (x1.1, (x3, (x5, ())))) (
        some (x1.1, (x3, (false, ()))))) (
      ifd (x1.2.2.1 = true) (
        none) (
        some (x1.1, (x3, (false, ())))))) (
    none)
theorem fold_Join_eq (a0 : List (List Int)) (pc : PC prog) (lp : LP) : got fold_Join_t (pcall prog (runO prog cfg (hand prog cfg lp pc 6 tbl 5) pc 6) 24 [(.c (.slice .ro .str a0))]) = fold_Join_B pc lp a0 := by kernel_rfl
theorem fold_Join_ap (E : AppE prog pcN pc lN lp) (a0 : List (List Int)) : Approx (fun N => fold_Join_B (pcN N) (lN N) a0) (fold_Join_B pc lp a0) := by
  delta fold_Join_B
  exact (Approx.ifd (Approx.bnd (Approx.bnd (strings_Cut_ca E) fun x0 => (Approx.const _)) fun x1 => (Approx.bnd (Approx.bnd (strings_Trim_ca E) fun x2 => (Approx.const _)) fun x3 => (Approx.ifd (Approx.bnd (Approx.bnd (fold_IsName_ca E) fun x4 => (Approx.const _)) fun x5 => (Approx.ifd (Approx.const _) (Approx.const _))) (Approx.ifd Approx.none (Approx.const _))))) Approx.none)
theorem fold_Join_of {a0 : List (List Int)} {y : ((List Int) × ((List Int) × (Bool × Unit)))} (h : fold_Join_B (pcL prog cfg) lpL a0 = some y) : fold_Join_c (pcL prog cfg) a0 = some y := fn_of rfl (fold_Join_eq a0) (fold_Join_ap (appN prog cfg) a0) h

noncomputable def strings_Cut_B (pc : PC prog) (lp : LP) (a0 : List Int) (a1 : List Int) : Option ((List Int) × ((List Int) × (Bool × Unit))) :=
  bnd (bnd (internal_stringslite_Cut_c pc a0 a1) fun (x0 : ((List Int) × ((List Int) × (Bool × Unit)))) =>
  some (x0.1, (x0.2.1, (x0.2.2.1, ())))) fun (x1 : ((List Int) × ((List Int) × (Bool × Unit)))) =>
  some (x1.1, (x1.2.1, (x1.2.2.1, ())))
theorem strings_Cut_eq (a0 : List Int) (a1 : List Int) (pc : PC prog) (lp : LP) : got strings_Cut_t (pcall prog (runO prog cfg (hand prog cfg lp pc 6 tbl 5) pc 6) 34 [(.c (.str a0)), (.c (.str a1))]) = strings_Cut_B pc lp a0 a1 := by kernel_rfl
theorem strings_Cut_ap (E : AppE prog pcN pc lN lp) (a0 : List Int) (a1 : List Int) : Approx (fun N => strings_Cut_B (pcN N) (lN N) a0 a1) (strings_Cut_B pc lp a0 a1) := by
  delta strings_Cut_B
  exact (Approx.bnd (Approx.bnd (internal_stringslite_Cut_ca E) fun x0 => (Approx.const _)) fun x1 => (Approx.const _))
theorem strings_Cut_of {a0 : List Int} {a1 : List Int} {y : ((List Int) × ((List Int) × (Bool × Unit)))} (h : strings_Cut_B (pcL prog cfg) lpL a0 a1 = some y) : strings_Cut_c (pcL prog cfg) a0 a1 = some y := fn_of rfl (strings_Cut_eq a0 a1) (strings_Cut_ap (appN prog cfg) a0 a1) h

noncomputable def internal_stringslite_Cut_B (pc : PC prog) (lp : LP) (a0 : List Int) (a1 : List Int) : Option ((List Int) × ((List Int) × (Bool × Unit))) :=
  bnd (bnd (internal_stringslite_Index_c pc a0 a1) fun (x0 : Int) =>
  some x0) fun (x1 : Int) =>
  ifd ((decide (x1 ≥ 0)) = true) (
    ifd ((decide (((0 : Int) ≤ 0) ∧ (((0 : Int) ≤ x1) ∧ (x1 ≤ (((List.length a0) : Nat) : Int))))) = true) (
      ifd ((decide (((0 : Int) ≤ (Go.IntKind.wrap .i64 (x1 + (((List.length a1) : Nat) : Int)))) ∧ (((Go.IntKind.wrap .i64 (x1 + (((List.length a1) : Nat) : Int))) ≤ (((List.length a0) : Nat) : Int)) ∧ ((((List.length a0) : Nat) : Int) ≤ (((List.length a0) : Nat) : Int))))) = true) (
        some ((List.drop (Int.toNat 0) (List.take (Int.toNat x1) a0)), ((List.drop (Int.toNat (Go.IntKind.wrap .i64 (x1 + (((List.length a1) : Nat) : Int)))) (List.take (Int.toNat (((List.length a0) : Nat) : Int)) a0)), (true, ())))) (
        none)) (
      none)) (
    some (a0, (([] : List Int), (false, ()))))
theorem internal_stringslite_Cut_eq (a0 : List Int) (a1 : List Int) (pc : PC prog) (lp : LP) : got internal_stringslite_Cut_t (pcall prog (runO prog cfg (hand prog cfg lp pc 6 tbl 5) pc 6) 45 [(.c (.str a0)), (.c (.str a1))]) = internal_stringslite_Cut_B pc lp a0 a1 := by kernel_rfl
theorem internal_stringslite_Cut_ap (E : AppE prog pcN pc lN lp) (a0 : List Int) (a1 : List Int) : Approx (fun N => internal_stringslite_Cut_B (pcN N) (lN N) a0 a1) (internal_stringslite_Cut_B pc lp a0 a1) := by
  delta internal_stringslite_Cut_B
  exact (Approx.bnd (Approx.bnd (internal_stringslite_Index_ca E) fun x0 => (Approx.const _)) fun x1 => (Approx.ifd (Approx.ifd (Approx.ifd (Approx.const _) Approx.none) Approx.none) (Approx.const _)))
theorem internal_stringslite_Cut_of {a0 : List Int} {a1 : List Int} {y : ((List Int) × ((List Int) × (Bool × Unit)))} (h : internal_stringslite_Cut_B (pcL prog cfg) lpL a0 a1 = some y) : internal_stringslite_Cut_c (pcL prog cfg) a0 a1 = some y := fn_of rfl (internal_stringslite_Cut_eq a0 a1) (internal_stringslite_Cut_ap (appN prog cfg) a0 a1) h

-- internal_stringslite_Index, part 28
abbrev internal_stringslite_Index_C1_D := (((List Int) × ((List Int) × (Int × Unit))) × Unit)
abbrev internal_stringslite_Index_C1_X := (((List Int) × ((List Int) × (Int × (Bool × Unit)))) × Unit)
noncomputable def internal_stringslite_Index_C1 (pc : PC prog) (lp : LP) (d : internal_stringslite_Index_C1_D) : Option internal_stringslite_Index_C1_X :=
  ifd ((d.1.2.2.1 == 0) = true) (
    ifd ((d.1.2.2.1 == 0) = true) (
      some ((d.1.1, d.1.2.1, d.1.2.2.1, true, ()), ())) (
      none)) (
    ifd ((d.1.2.2.1 == 0) = true) (
      some ((d.1.1, d.1.2.1, d.1.2.2.1, true, ()), ())) (
      some ((d.1.1, d.1.2.1, d.1.2.2.1, (d.1.2.1 == d.1.1), ()), ())))
theorem internal_stringslite_Index_C1_a (E : AppE prog pcN pc lN lp) {d : internal_stringslite_Index_C1_D} : Approx (fun N => internal_stringslite_Index_C1 (pcN N) (lN N) d) (internal_stringslite_Index_C1 pc lp d) := by
  delta internal_stringslite_Index_C1
  exact (Approx.ifd (Approx.ifd (Approx.const _) Approx.none) (Approx.ifd (Approx.const _) (Approx.const _)))

-- internal_stringslite_Index, part 1855
abbrev internal_stringslite_Index_C2_D := (((List Int) × ((List Int) × (Int × Unit))) × Unit)
abbrev internal_stringslite_Index_C2_X := Empty
noncomputable def internal_stringslite_Index_C2 (pc : PC prog) (lp : LP) (d : internal_stringslite_Index_C2_D) : Option internal_stringslite_Index_C2_X :=
  none
theorem internal_stringslite_Index_C2_a (E : AppE prog pcN pc lN lp) {d : internal_stringslite_Index_C2_D} : Approx (fun N => internal_stringslite_Index_C2 (pcN N) (lN N) d) (internal_stringslite_Index_C2 pc lp d) := by
  delta internal_stringslite_Index_C2
  exact Approx.none

noncomputable def internal_stringslite_Index_B (pc : PC prog) (lp : LP) (a0 : List Int) (a1 : List Int) : Option Int :=
  bnd (internal_stringslite_Index_C1 pc lp ((a0, a1, (((List.length a1) : Nat) : Int), ()), ())) (fun (y0 : (((List Int) × ((List Int) × (Int × (Bool × Unit)))) × Unit)) =>
  ifd (y0.1.2.2.2.1 = true) (
    some 0) (
    ifd ((y0.1.2.2.1 == 1) = true) (
      ifd ((decide (((0 : Int) ≤ 0) ∧ ((0 : Int) < (((List.length y0.1.2.1) : Nat) : Int)))) = true) (
        bnd (bnd (internal_stringslite_IndexByte_c pc y0.1.1 (List.getD y0.1.2.1 (Int.toNat 0) 0)) fun (x1 : Int) =>
        some x1) fun (x2 : Int) =>
        some x2) (
        none)) (
      ifd ((decide (y0.1.2.2.1 ≥ (((List.length y0.1.1) : Nat) : Int))) = true) (
        some (-1)) (
        bnd (internal_stringslite_Index_C2 pc lp ((y0.1.1, y0.1.2.1, y0.1.2.2.1, ()), ())) (fun x => nomatch x)))))
theorem internal_stringslite_Index_eq (a0 : List Int) (a1 : List Int) (pc : PC prog) (lp : LP) : got internal_stringslite_Index_t (pcall prog (runO prog cfg (hand prog cfg lp pc 6 tbl 5) pc 6) 55 [(.c (.str a0)), (.c (.str a1))]) = internal_stringslite_Index_B pc lp a0 a1 := by kernel_rfl
theorem internal_stringslite_Index_ap (E : AppE prog pcN pc lN lp) (a0 : List Int) (a1 : List Int) : Approx (fun N => internal_stringslite_Index_B (pcN N) (lN N) a0 a1) (internal_stringslite_Index_B pc lp a0 a1) := by
  delta internal_stringslite_Index_B
  exact (Approx.bnd (internal_stringslite_Index_C1_a E) (fun y0 => (Approx.ifd (Approx.const _) (Approx.ifd (Approx.ifd (Approx.bnd (Approx.bnd (internal_stringslite_IndexByte_ca E) fun x1 => (Approx.const _)) fun x2 => (Approx.const _)) Approx.none) (Approx.ifd (Approx.const _) (Approx.bnd (internal_stringslite_Index_C2_a E) (fun x => nomatch x)))))))
theorem internal_stringslite_Index_of {a0 : List Int} {a1 : List Int} {y : Int} (h : internal_stringslite_Index_B (pcL prog cfg) lpL a0 a1 = some y) : internal_stringslite_Index_c (pcL prog cfg) a0 a1 = some y := fn_of rfl (internal_stringslite_Index_eq a0 a1) (internal_stringslite_Index_ap (appN prog cfg) a0 a1) h

end Go.Proofs.YthhllkiefncbnaaDoorSim
