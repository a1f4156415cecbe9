/- grapheme: the reference's classes and pieces. -/
import Derived.Test.YtagnebpehdonaaaDoorGraL
import Derived.Test.YtagnebpehdonaaaDoorUtfR
namespace Go.Proofs.YtagnebpehdonaaaDoorSim
open Go Go.Proofs
open Go.Proofs.Tryd (prog)
set_option linter.unusedVariables false
set_option linter.unusedSimpArgs false

theorem rClass_C1 (n : Int) : ref1_Class_C1 (pcL prog cfg) lpL ((n, ()), ()) = some ((n, (decide (0 ≤ n ∧ n ≤ 31) || decide (127 ≤ n ∧ n ≤ 159)), ()), ()) := by
  unfold ref1_Class_C1
  dsimp only
  simp only [In_spec]
  generalize decide (0 ≤ n ∧ n ≤ 31) = x
  generalize decide (127 ≤ n ∧ n ≤ 159) = y
  cases x <;> cases y <;> rfl

theorem rClass_C2 (n : Int) : ref1_Class_C2 (pcL prog cfg) lpL ((n, ()), ()) = some ((n, (decide (768 ≤ n ∧ n ≤ 879) || (decide (6832 ≤ n ∧ n ≤ 6911) || (decide (7616 ≤ n ∧ n ≤ 7679) || (decide (8400 ≤ n ∧ n ≤ 8447) || (decide (65024 ≤ n ∧ n ≤ 65039) || (decide (65056 ≤ n ∧ n ≤ 65071) || decide (127995 ≤ n ∧ n ≤ 127999))))))), ()), ()) := by
  unfold ref1_Class_C2
  dsimp only
  simp only [In_spec]
  generalize decide (768 ≤ n ∧ n ≤ 879) = x1
  generalize decide (6832 ≤ n ∧ n ≤ 6911) = x2
  generalize decide (7616 ≤ n ∧ n ≤ 7679) = x3
  generalize decide (8400 ≤ n ∧ n ≤ 8447) = x4
  generalize decide (65024 ≤ n ∧ n ≤ 65039) = x5
  generalize decide (65056 ≤ n ∧ n ≤ 65071) = x6
  generalize decide (127995 ≤ n ∧ n ≤ 127999) = x7
  cases x1 <;> first | rfl | skip
  cases x2 <;> first | rfl | skip
  cases x3 <;> first | rfl | skip
  cases x4 <;> first | rfl | skip
  cases x5 <;> first | rfl | skip
  cases x6 <;> first | rfl | skip

theorem cls_chain (n : Int) : cls n = if n = 13 then 1 else if n = 10 then 2 else if (0 ≤ n ∧ n ≤ 31) ∨ (127 ≤ n ∧ n ≤ 159) then 3
    else if (768 ≤ n ∧ n ≤ 879) ∨ (6832 ≤ n ∧ n ≤ 6911) ∨ (7616 ≤ n ∧ n ≤ 7679) ∨ (8400 ≤ n ∧ n ≤ 8447) ∨ (65024 ≤ n ∧ n ≤ 65039) ∨ (65056 ≤ n ∧ n ≤ 65071) ∨ (127995 ≤ n ∧ n ≤ 127999) then 4
    else if n = 8205 then 5 else if 127462 ≤ n ∧ n ≤ 127487 then 6 else if 4352 ≤ n ∧ n ≤ 4447 then 7 else if 4448 ≤ n ∧ n ≤ 4519 then 8 else if 4520 ≤ n ∧ n ≤ 4607 then 9 else 0 := by
  unfold cls
  simp only [spansP, clsIn]
  by_cases e0 : 13 ≤ n ∧ n ≤ 13
  · rw [if_pos e0]
    show (1 : Int) = _
    rw [if_pos (by omega)]
  rw [if_neg e0]
  by_cases e1 : 10 ≤ n ∧ n ≤ 10
  · rw [if_pos e1]
    show (2 : Int) = _
    rw [if_neg (by omega), if_pos (by omega)]
  rw [if_neg e1]
  by_cases e2 : 0 ≤ n ∧ n ≤ 31
  · rw [if_pos e2]
    show (3 : Int) = _
    rw [if_neg (by omega), if_neg (by omega), if_pos (by omega)]
  rw [if_neg e2]
  by_cases e3 : 127 ≤ n ∧ n ≤ 159
  · rw [if_pos e3]
    show (3 : Int) = _
    rw [if_neg (by omega), if_neg (by omega), if_pos (by omega)]
  rw [if_neg e3]
  by_cases e4 : 768 ≤ n ∧ n ≤ 879
  · rw [if_pos e4]
    show (4 : Int) = _
    rw [if_neg (by omega), if_neg (by omega), if_neg (by omega), if_pos (by omega)]
  rw [if_neg e4]
  by_cases e5 : 6832 ≤ n ∧ n ≤ 6911
  · rw [if_pos e5]
    show (4 : Int) = _
    rw [if_neg (by omega), if_neg (by omega), if_neg (by omega), if_pos (by omega)]
  rw [if_neg e5]
  by_cases e6 : 7616 ≤ n ∧ n ≤ 7679
  · rw [if_pos e6]
    show (4 : Int) = _
    rw [if_neg (by omega), if_neg (by omega), if_neg (by omega), if_pos (by omega)]
  rw [if_neg e6]
  by_cases e7 : 8400 ≤ n ∧ n ≤ 8447
  · rw [if_pos e7]
    show (4 : Int) = _
    rw [if_neg (by omega), if_neg (by omega), if_neg (by omega), if_pos (by omega)]
  rw [if_neg e7]
  by_cases e8 : 65024 ≤ n ∧ n ≤ 65039
  · rw [if_pos e8]
    show (4 : Int) = _
    rw [if_neg (by omega), if_neg (by omega), if_neg (by omega), if_pos (by omega)]
  rw [if_neg e8]
  by_cases e9 : 65056 ≤ n ∧ n ≤ 65071
  · rw [if_pos e9]
    show (4 : Int) = _
    rw [if_neg (by omega), if_neg (by omega), if_neg (by omega), if_pos (by omega)]
  rw [if_neg e9]
  by_cases e10 : 127995 ≤ n ∧ n ≤ 127999
  · rw [if_pos e10]
    show (4 : Int) = _
    rw [if_neg (by omega), if_neg (by omega), if_neg (by omega), if_pos (by omega)]
  rw [if_neg e10]
  by_cases e11 : 8205 ≤ n ∧ n ≤ 8205
  · rw [if_pos e11]
    show (5 : Int) = _
    rw [if_neg (by omega), if_neg (by omega), if_neg (by omega), if_neg (by omega), if_pos (by omega)]
  rw [if_neg e11]
  by_cases e12 : 127462 ≤ n ∧ n ≤ 127487
  · rw [if_pos e12]
    show (6 : Int) = _
    rw [if_neg (by omega), if_neg (by omega), if_neg (by omega), if_neg (by omega), if_neg (by omega), if_pos (by omega)]
  rw [if_neg e12]
  by_cases e13 : 4352 ≤ n ∧ n ≤ 4447
  · rw [if_pos e13]
    show (7 : Int) = _
    rw [if_neg (by omega), if_neg (by omega), if_neg (by omega), if_neg (by omega), if_neg (by omega), if_neg (by omega), if_pos (by omega)]
  rw [if_neg e13]
  by_cases e14 : 4448 ≤ n ∧ n ≤ 4519
  · rw [if_pos e14]
    show (8 : Int) = _
    rw [if_neg (by omega), if_neg (by omega), if_neg (by omega), if_neg (by omega), if_neg (by omega), if_neg (by omega), if_neg (by omega), if_pos (by omega)]
  rw [if_neg e14]
  by_cases e15 : 4520 ≤ n ∧ n ≤ 4607
  · rw [if_pos e15]
    show (9 : Int) = _
    rw [if_neg (by omega), if_neg (by omega), if_neg (by omega), if_neg (by omega), if_neg (by omega), if_neg (by omega), if_neg (by omega), if_neg (by omega), if_pos (by omega)]
  rw [if_neg e15]
  show (0 : Int) = _
  rw [if_neg (by omega), if_neg (by omega), if_neg (by omega), if_neg (by omega), if_neg (by omega), if_neg (by omega), if_neg (by omega), if_neg (by omega), if_neg (by omega)]

theorem rClass_spec (n : Int) : ref1_Class_c (pcL prog cfg) n = some (cls n) := by
  refine ref1_Class_of ?_
  unfold ref1_Class_B
  rw [cls_chain]
  by_cases h1 : n = 13
  · exact (ifd_t (by simpa using h1)).trans (by rw [if_pos h1])
  refine (ifd_f (by simpa using h1)).trans ?_
  rw [if_neg h1]
  by_cases h2 : n = 10
  · exact (ifd_t (by simpa using h2)).trans (by rw [if_pos h2])
  refine (ifd_f (by simpa using h2)).trans ?_
  rw [if_neg h2]
  refine bnd1 (rClass_C1 n) ?_
  dsimp only
  by_cases h3 : (0 ≤ n ∧ n ≤ 31) ∨ (127 ≤ n ∧ n ≤ 159)
  · exact (ifd_t (by simpa using h3)).trans (by rw [if_pos h3])
  refine (ifd_f (by simpa using h3)).trans ?_
  rw [if_neg h3]
  refine bnd1 (rClass_C2 n) ?_
  dsimp only
  by_cases h4 : (768 ≤ n ∧ n ≤ 879) ∨ (6832 ≤ n ∧ n ≤ 6911) ∨ (7616 ≤ n ∧ n ≤ 7679) ∨ (8400 ≤ n ∧ n ≤ 8447) ∨ (65024 ≤ n ∧ n ≤ 65039) ∨ (65056 ≤ n ∧ n ≤ 65071) ∨ (127995 ≤ n ∧ n ≤ 127999)
  · exact (ifd_t (by simpa using h4)).trans (by rw [if_pos h4])
  refine (ifd_f (by simpa using h4)).trans ?_
  rw [if_neg h4]
  by_cases h5 : n = 8205
  · exact (ifd_t (by simpa using h5)).trans (by rw [if_pos h5])
  refine (ifd_f (by simpa using h5)).trans ?_
  rw [if_neg h5]
  simp only [In_spec]
  by_cases h6 : 127462 ≤ n ∧ n ≤ 127487
  · rw [if_pos h6, decide_eq_true h6]; rfl
  rw [if_neg h6, decide_eq_false h6]
  by_cases h7 : 4352 ≤ n ∧ n ≤ 4447
  · rw [if_pos h7, decide_eq_true h7]; rfl
  rw [if_neg h7, decide_eq_false h7]
  by_cases h8 : 4448 ≤ n ∧ n ≤ 4519
  · rw [if_pos h8, decide_eq_true h8]; rfl
  rw [if_neg h8, decide_eq_false h8]
  by_cases h9 : 4520 ≤ n ∧ n ≤ 4607
  · rw [if_pos h9, decide_eq_true h9]; rfl
  rw [if_neg h9, decide_eq_false h9]; rfl

theorem rWide_spec (n : Int) : ref1_Wide_c (pcL prog cfg) n = some (isW n) := by
  refine ref1_Wide_of ?_
  unfold ref1_Wide_B
  simp only [In_spec]
  have e : isW n = (decide (4352 ≤ n ∧ n ≤ 4447) || (decide (11904 ≤ n ∧ n ≤ 42191) || (decide (44032 ≤ n ∧ n ≤ 55203) || (decide (63744 ≤ n ∧ n ≤ 64255) || (decide (65072 ≤ n ∧ n ≤ 65135) || (decide (65280 ≤ n ∧ n ≤ 65376) || (decide (65504 ≤ n ∧ n ≤ 65510) || (decide (127744 ≤ n ∧ n ≤ 129791) || decide (131072 ≤ n ∧ n ≤ 262141))))))))) := by
    unfold isW
    simp only [wideP, clsIn]
    by_cases e1 : 4352 ≤ n ∧ n ≤ 4447
    · rw [if_pos e1, decide_eq_true e1]; rfl
    rw [if_neg e1, decide_eq_false e1]
    by_cases e2 : 11904 ≤ n ∧ n ≤ 42191
    · rw [if_pos e2, decide_eq_true e2]; rfl
    rw [if_neg e2, decide_eq_false e2]
    by_cases e3 : 44032 ≤ n ∧ n ≤ 55203
    · rw [if_pos e3, decide_eq_true e3]; rfl
    rw [if_neg e3, decide_eq_false e3]
    by_cases e4 : 63744 ≤ n ∧ n ≤ 64255
    · rw [if_pos e4, decide_eq_true e4]; rfl
    rw [if_neg e4, decide_eq_false e4]
    by_cases e5 : 65072 ≤ n ∧ n ≤ 65135
    · rw [if_pos e5, decide_eq_true e5]; rfl
    rw [if_neg e5, decide_eq_false e5]
    by_cases e6 : 65280 ≤ n ∧ n ≤ 65376
    · rw [if_pos e6, decide_eq_true e6]; rfl
    rw [if_neg e6, decide_eq_false e6]
    by_cases e7 : 65504 ≤ n ∧ n ≤ 65510
    · rw [if_pos e7, decide_eq_true e7]; rfl
    rw [if_neg e7, decide_eq_false e7]
    by_cases e8 : 127744 ≤ n ∧ n ≤ 129791
    · rw [if_pos e8, decide_eq_true e8]; rfl
    rw [if_neg e8, decide_eq_false e8]
    by_cases e9 : 131072 ≤ n ∧ n ≤ 262141
    · rw [if_pos e9, decide_eq_true e9]; rfl
    rw [if_neg e9, decide_eq_false e9]; rfl
  rw [e]
  generalize decide (4352 ≤ n ∧ n ≤ 4447) = x1
  generalize decide (11904 ≤ n ∧ n ≤ 42191) = x2
  generalize decide (44032 ≤ n ∧ n ≤ 55203) = x3
  generalize decide (63744 ≤ n ∧ n ≤ 64255) = x4
  generalize decide (65072 ≤ n ∧ n ≤ 65135) = x5
  generalize decide (65280 ≤ n ∧ n ≤ 65376) = x6
  generalize decide (65504 ≤ n ∧ n ≤ 65510) = x7
  generalize decide (127744 ≤ n ∧ n ≤ 129791) = x8
  generalize decide (131072 ≤ n ∧ n ≤ 262141) = x9
  cases x1 <;> first | rfl | skip
  cases x2 <;> first | rfl | skip
  cases x3 <;> first | rfl | skip
  cases x4 <;> first | rfl | skip
  cases x5 <;> first | rfl | skip
  cases x6 <;> first | rfl | skip
  cases x7 <;> first | rfl | skip
  cases x8 <;> first | rfl | skip

/-- does a character go on with the piece of the one before it? -/
def contV (p n flags : Int) : Bool :=
  if p < 0 ∨ n < 0 then false else if cls p = 1 ∧ cls n = 2 then true else if (1 ≤ cls p ∧ cls p ≤ 3) ∨ (1 ≤ cls n ∧ cls n ≤ 3) then false
  else if cls n = 4 ∨ cls n = 5 then true else if cls p = 5 then cls n == 0 else if cls n = 6 then Int.tmod flags 2 == 1
  else (cls p == 7 && (cls n == 7 || cls n == 8)) || (cls p == 8 && (cls n == 8 || cls n == 9)) || (cls p == 9 && cls n == 9)

theorem Continues_spec (l : List Int) (i : Nat) (flags : Int) (h1 : 1 ≤ i) (h2 : i < l.length) (hb : l.length ≤ 4000000) :
    ref1_Continues_c (pcL prog cfg) l i flags = some (contV (l.getD (i - 1) 0) (l.getD i 0) flags) := by
  refine ref1_Continues_of ?_
  have hw : IntKind.wrap .i64 ((i : Int) - 1) = ((i - 1 : Nat) : Int) := by rw [wrap64 (by omega) (by omega)]; omega
  obtain ⟨p, hp⟩ : ∃ p, p = l.getD (i - 1) 0 := ⟨_, rfl⟩
  obtain ⟨n, hn⟩ : ∃ n, n = l.getD i 0 := ⟨_, rfl⟩
  have c1 : ref1_Continues_C1 (pcL prog cfg) lpL ((l, (i : Int), flags, ()), ()) = some ((l, (i : Int), flags, (decide (p < 0) || decide (n < 0)), ()), ()) := by
    unfold ref1_Continues_C1
    dsimp only
    rw [hw, Int.toNat_natCast, Int.toNat_natCast, ← hp, ← hn]
    refine (ifd_t (by simp only [decide_eq_true_eq]; omega)).trans ?_
    by_cases q : p < 0
    · refine (ifd_t (decide_eq_true q)).trans ?_
      refine (ifd_t (decide_eq_true q)).trans ?_
      rw [decide_eq_true q]; rfl
    · refine (ifd_f (by simpa using q)).trans ?_
      refine (ifd_t (by simp only [decide_eq_true_eq]; omega)).trans ?_
      refine (ifd_f (by simpa using q)).trans ?_
      rw [decide_eq_false q]; rfl
  unfold ref1_Continues_B
  refine bnd1 c1 ?_
  dsimp only
  rw [← hp, ← hn]
  unfold contV
  by_cases hneg : p < 0 ∨ n < 0
  · rw [if_pos hneg]
    exact ifd_t (by simpa using hneg)
  rw [if_neg hneg]
  refine (ifd_f (by simpa using hneg)).trans ?_
  rw [hw, Int.toNat_natCast, Int.toNat_natCast, ← hp, ← hn]
  refine (ifd_t (by simp only [decide_eq_true_eq]; omega)).trans ?_
  refine bnd2 (rClass_spec p) rfl ?_
  refine (ifd_t (by simp only [decide_eq_true_eq]; omega)).trans ?_
  refine bnd2 (rClass_spec n) rfl ?_
  generalize cls p = a
  generalize cls n = b
  have c2 : ref1_Continues_C2 (pcL prog cfg) lpL ((flags, a, b, ()), ()) = some ((flags, a, b, (a == 1 && b == 2), ()), ()) := by
    unfold ref1_Continues_C2
    dsimp only
    generalize (a == 1) = x
    generalize (b == 2) = y
    cases x <;> cases y <;> rfl
  refine bnd1 c2 ?_
  dsimp only
  by_cases h12 : a = 1 ∧ b = 2
  · rw [if_pos h12]
    exact ifd_t (by simpa using h12)
  rw [if_neg h12]
  refine (ifd_f (by simpa using h12)).trans ?_
  have c3 : ref1_Continues_C3 (pcL prog cfg) lpL ((flags, a, b, ()), ()) = some ((flags, a, b, (decide (1 ≤ a ∧ a ≤ 3) || decide (1 ≤ b ∧ b ≤ 3)), ()), ()) := by
    unfold ref1_Continues_C3
    dsimp only
    simp only [In_spec]
    generalize decide (1 ≤ a ∧ a ≤ 3) = x
    generalize decide (1 ≤ b ∧ b ≤ 3) = y
    cases x <;> cases y <;> rfl
  refine bnd1 c3 ?_
  dsimp only
  by_cases h13 : (1 ≤ a ∧ a ≤ 3) ∨ (1 ≤ b ∧ b ≤ 3)
  · rw [if_pos h13]
    exact ifd_t (by simpa using h13)
  rw [if_neg h13]
  refine (ifd_f (by simpa using h13)).trans ?_
  have c4 : ref1_Continues_C4 (pcL prog cfg) lpL ((flags, a, b, ()), ()) = some ((flags, a, b, (b == 4 || b == 5), ()), ()) := by
    unfold ref1_Continues_C4
    dsimp only
    generalize (b == 4) = x
    generalize (b == 5) = y
    cases x <;> cases y <;> rfl
  refine bnd1 c4 ?_
  dsimp only
  by_cases h45 : b = 4 ∨ b = 5
  · rw [if_pos h45]
    exact ifd_t (by simpa using h45)
  rw [if_neg h45]
  refine (ifd_f (by simpa using h45)).trans ?_
  by_cases h5 : a = 5
  · rw [if_pos h5]
    exact ifd_t (by simpa using h5)
  rw [if_neg h5]
  refine (ifd_f (by simpa using h5)).trans ?_
  by_cases h6 : b = 6
  · rw [if_pos h6]
    exact ifd_t (by simpa using h6)
  rw [if_neg h6]
  refine (ifd_f (by simpa using h6)).trans ?_
  generalize (a == 7) = a7
  generalize (a == 8) = a8
  generalize (a == 9) = a9
  generalize (b == 7) = b7
  generalize (b == 8) = b8
  generalize (b == 9) = b9
  cases a7 <;> cases a8 <;> cases a9 <;> cases b7 <;> cases b8 <;> cases b9 <;> rfl

end Go.Proofs.YtagnebpehdonaaaDoorSim
