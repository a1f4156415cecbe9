/- charset: decoding. -/
import Derived.Test.YtklllljgdabheaaDoorChaA
namespace Go.Proofs.YtklllljgdabheaaDoorSim
open Go Go.Proofs
open Go.Proofs.Tryd (prog)
set_option linter.unusedVariables false
set_option linter.unusedSimpArgs false

def asc (c : Int) : Int := if c ≥ 128 then 65533 else c

theorem ascii_spec {c : Int} (hc : 0 ≤ c ∧ c ≤ 255) : charset_ascii_c (pcL prog cfg) c = some (asc c) := by
  refine charset_ascii_of ?_
  unfold charset_ascii_B asc
  by_cases h : c ≥ 128
  · rw [if_pos h]; exact ifd_t (decide_eq_true h)
  · rw [if_neg h]
    refine (ifd_f (by simpa using h)).trans ?_
    rw [wrap32 (by omega) (by omega)]

theorem find1_spec {c : Int} (hc : 0 ≤ c ∧ c ≤ 255) : charset_find_1_c (pcL prog cfg) c = some c := by
  refine charset_find_1_of ?_
  unfold charset_find_1_B
  rw [wrap32 (by omega) (by omega)]

theorem Decode_L1_spec (b : List Int) (hB : Bytes b) (hb : b.length ≤ 2000000) : ∀ (k i : Nat) (out : List Int), b.length - i = k → out.length + k ≤ 4000000 →
    charset_Decode_L1 (pcL prog cfg) lpL (((), out, b, (b.length : Int), (i : Int), ()), ((0, 0, ()), ((), (), ()), ((), ()), (128, ()), ((), (), ()), ())) = some ((out ++ (b.drop i).map asc, ()), ((0, 0, ()), ((), (), ()), ((), ()), (128, ()), ((), (), ()), ())) := by
  intro k
  induction k with
  | zero =>
    intro i out hk ho
    refine charset_Decode_L1_of ?_
    unfold charset_Decode_L1_R
    dsimp only
    refine (ifd_f (by simp only [decide_eq_true_eq]; omega)).trans ?_
    rw [List.drop_eq_nil_of_le (by omega)]
    simp
  | succ k ih =>
    intro i out hk ho
    refine charset_Decode_L1_of ?_
    unfold charset_Decode_L1_R
    dsimp only
    rw [Int.toNat_natCast, wrap64 (by omega) (by omega)]
    refine (ifd_t (by simp only [decide_eq_true_eq]; omega)).trans ?_
    refine (ifd_t (by simp only [decide_eq_true_eq]; omega)).trans ?_
    refine bnd2 (ascii_spec (hB.getD i)) rfl ?_
    refine (ifd_t (by simp only [decide_eq_true_eq, List.length_cons, List.length_nil]; omega)).trans ?_
    have := ih (i + 1) (out ++ [asc (b.getD i 0)]) (by omega) (by simp; omega)
    rw [Int.natCast_add] at this
    refine this.trans ?_
    rw [drop_getD b i (by omega)]
    simp

theorem Decode_L2_spec (b : List Int) (hB : Bytes b) (hb : b.length ≤ 2000000) : ∀ (k i : Nat) (out : List Int), b.length - i = k → out.length + k ≤ 4000000 →
    charset_Decode_L2 (pcL prog cfg) lpL (((), out, b, (b.length : Int), (i : Int), ()), ((0, 0, ()), ((), (), ()), ((), ()), (256, ()), ((), (), ()), ())) = some ((out ++ b.drop i, ()), ((0, 0, ()), ((), (), ()), ((), ()), (256, ()), ((), (), ()), ())) := by
  intro k
  induction k with
  | zero =>
    intro i out hk ho
    refine charset_Decode_L2_of ?_
    unfold charset_Decode_L2_R
    dsimp only
    refine (ifd_f (by simp only [decide_eq_true_eq]; omega)).trans ?_
    rw [List.drop_eq_nil_of_le (by omega)]
    simp
  | succ k ih =>
    intro i out hk ho
    refine charset_Decode_L2_of ?_
    unfold charset_Decode_L2_R
    dsimp only
    rw [Int.toNat_natCast, wrap64 (by omega) (by omega)]
    refine (ifd_t (by simp only [decide_eq_true_eq]; omega)).trans ?_
    refine (ifd_t (by simp only [decide_eq_true_eq]; omega)).trans ?_
    refine bnd2 (find1_spec (hB.getD i)) rfl ?_
    refine (ifd_t (by simp only [decide_eq_true_eq, List.length_cons, List.length_nil]; omega)).trans ?_
    have := ih (i + 1) (out ++ [b.getD i 0]) (by omega) (by simp; omega)
    rw [Int.natCast_add] at this
    refine this.trans ?_
    rw [drop_getD b i (by omega)]
    simp

/-! ### pairs of bytes -/

def vAt (r : List Int) : Int := 256 * r.getD 0 0 + r.getD 1 0
def isPair (u : Int) (r : List Int) : Bool := decide (55296 ≤ u ∧ u ≤ 56319) && (decide (2 ≤ r.length) && decide (56320 ≤ vAt r ∧ vAt r ≤ 57343))

def unitsP : List Int → List Int
  | a :: b :: r => if isPair (256 * a + b) r then (65536 + 1024 * (256 * a + b - 55296) + (vAt r - 56320)) :: unitsP (r.drop 2) else (256 * a + b) :: unitsP r
  | _ => []
termination_by l => l.length
decreasing_by all_goals simp; try omega

def unitsL (l : List Int) : List Int := unitsP l ++ (if l.length % 2 = 1 then [-1] else [])

theorem or_u16 {x y : Int} (hx : 0 ≤ x ∧ x ≤ 255) (hy : 0 ≤ y ∧ y ≤ 255) : ibits .or .i32 (IntKind.wrap .i32 (IntKind.wrap .i32 x * ((2 : Int) ^ (min (Int.toNat 8) 32)))) (IntKind.wrap .i32 y) = 256 * x + y := by
  have e : ((2 : Int) ^ (min (Int.toNat 8) 32)) = 256 := rfl
  rw [e, wrap32 (x := x) (by omega) (by omega), wrap32 (x := y) (by omega) (by omega), wrap32 (by omega) (by omega)]
  have h1 := ofInt_toNat (x := x * 256) (w := 32) (by omega) (by omega)
  have h2 := ofInt_toNat (x := y) (w := 32) (by omega) (by omega)
  show IntKind.wrap .i32 ((BitVec.ofInt 32 (x * 256) ||| BitVec.ofInt 32 y).toNat : Nat) = _
  rw [BitVec.toNat_or, h1, h2]
  have e1 : (x * 256).toNat = 2 ^ 8 * x.toNat := by omega
  have e2 : y.toNat < 2 ^ 8 := by omega
  rw [e1, ← Nat.two_pow_add_eq_or_of_lt e2, wrap32 (by omega) (by omega)]
  omega

theorem units_C4_spec (b out : List Int) (i : Nat) (u : Int) (hb : b.length ≤ 2000000) (hi : i ≤ 2000000) :
    charset_units_C4 (pcL prog cfg) lpL ((b, out, (i : Int), u, ()), ()) = some ((b, out, (i : Int), u, (decide (55296 ≤ u ∧ u ≤ 56319) && decide (i + 3 < b.length)), ()), ()) := by
  unfold charset_units_C4
  dsimp only
  rw [wrap64 (by omega) (by omega)]
  have e3 : decide ((i : Int) + 3 < (b.length : Int)) = decide (i + 3 < b.length) := by rw [decide_eq_decide]; omega
  rw [e3]
  by_cases h1 : u ≥ 55296
  · refine (ifd_t (decide_eq_true h1)).trans ?_
    refine (ifd_t (decide_eq_true h1)).trans ?_
    by_cases h2 : u < 56320
    · refine (ifd_t (decide_eq_true h2)).trans ?_
      refine (ifd_t (decide_eq_true h2)).trans ?_
      have : decide (55296 ≤ u ∧ u ≤ 56319) = true := decide_eq_true (by omega)
      rw [this, Bool.true_and]
    · refine (ifd_f (by simpa using h2)).trans ?_
      refine (ifd_f (by simpa using h2)).trans ?_
      have : decide (55296 ≤ u ∧ u ≤ 56319) = false := decide_eq_false (by omega)
      rw [this, Bool.false_and]
  · refine (ifd_f (by simpa using h1)).trans ?_
    refine (ifd_f (by simpa using h1)).trans ?_
    have : decide (55296 ≤ u ∧ u ≤ 56319) = false := decide_eq_false (by omega)
    rw [this, Bool.false_and]

theorem units_C5_spec (b out : List Int) (i u v : Int) :
    charset_units_C5 (pcL prog cfg) lpL ((b, out, i, u, v, ()), ()) = some ((b, out, i, u, v, decide (56320 ≤ v ∧ v ≤ 57343), ()), ()) := by
  unfold charset_units_C5
  dsimp only
  by_cases h1 : v ≥ 56320
  · refine (ifd_t (decide_eq_true h1)).trans ?_
    refine (ifd_t (decide_eq_true h1)).trans ?_
    have : decide (v < 57344) = decide (56320 ≤ v ∧ v ≤ 57343) := by rw [decide_eq_decide]; omega
    rw [this]
  · refine (ifd_f (by simpa using h1)).trans ?_
    refine (ifd_f (by simpa using h1)).trans ?_
    have : decide (56320 ≤ v ∧ v ≤ 57343) = false := decide_eq_false (by omega)
    rw [this]

theorem drop2_vAt (b : List Int) (i : Nat) : vAt (b.drop (i + 2)) = 256 * b.getD (i + 2) 0 + b.getD (i + 3) 0 := by
  simp only [vAt, List.getD_eq_getElem?_getD, List.getElem?_drop, Nat.add_zero, Nat.add_assoc, Nat.reduceAdd]

theorem units_C6_spec (b out : List Int) (hB : Bytes b) (hb : b.length ≤ 2000000) (i : Nat) (hi : i + 1 < b.length) (ho : out.length ≤ 4000000) (u : Int) (hu : 0 ≤ u ∧ u ≤ 65535) :
    charset_units_C6 (pcL prog cfg) lpL ((b, out, (i : Int), u, ()), ()) = some (if isPair u (b.drop (i + 2)) then Sum.inl ((b, out ++ [65536 + 1024 * (u - 55296) + (vAt (b.drop (i + 2)) - 56320)], ((i + 2 : Nat) : Int), ()), ()) else Sum.inr ((b, out, (i : Int), u, ()), ())) := by
  unfold charset_units_C6
  dsimp only
  refine bnd1 (units_C4_spec b out i u hb (by omega)) ?_
  dsimp only
  unfold isPair
  rw [List.length_drop, drop2_vAt]
  by_cases h1 : (decide (55296 ≤ u ∧ u ≤ 56319) && decide (i + 3 < b.length)) = true
  · refine (ifd_t h1).trans ?_
    rw [Bool.and_eq_true, decide_eq_true_eq, decide_eq_true_eq] at h1
    have e2 : Int.toNat ((i : Int) + 2) = i + 2 := by omega
    have e3 : Int.toNat ((i : Int) + 3) = i + 3 := by omega
    have b2 := hB.getD (i + 2)
    have b3 := hB.getD (i + 3)
    rw [wrap64 (x := (i : Int) + 2) (by omega) (by omega), wrap64 (x := (i : Int) + 3) (by omega) (by omega), e2, e3, or_u16 b2 b3]
    refine (ifd_t (by simp only [decide_eq_true_eq]; omega)).trans ?_
    refine (ifd_t (by simp only [decide_eq_true_eq]; omega)).trans ?_
    refine bnd1 (units_C5_spec b out i u _) ?_
    dsimp only
    have q1 : decide (55296 ≤ u ∧ u ≤ 56319) = true := decide_eq_true h1.1
    have q2 : decide (2 ≤ b.length - (i + 2)) = true := decide_eq_true (by omega)
    rw [q1, q2, Bool.true_and, Bool.true_and]
    generalize 256 * b.getD (i + 2) 0 + b.getD (i + 3) 0 = v
    by_cases h2 : 56320 ≤ v ∧ v ≤ 57343
    · have q3 : decide (56320 ≤ v ∧ v ≤ 57343) = true := decide_eq_true h2
      rw [q3, if_pos rfl]
      refine (ifd_t rfl).trans ?_
      have e : ((2 : Int) ^ (min (Int.toNat 10) 32)) = 1024 := rfl
      rw [e, wrap32 (x := u - 55296) (by omega) (by omega), wrap32 (x := (u - 55296) * 1024) (by omega) (by omega), wrap32 (x := 65536 + (u - 55296) * 1024) (by omega) (by omega), wrap32 (x := v - 56320) (by omega) (by omega), wrap32 (by omega) (by omega)]
      refine (ifd_t (by simp only [decide_eq_true_eq, List.length_cons, List.length_nil]; omega)).trans ?_
      rw [Int.natCast_add, Int.mul_comm 1024, wrap64 (x := (i : Int) + 2) (by omega) (by omega)]
      rfl
    · have q3 : decide (56320 ≤ v ∧ v ≤ 57343) = false := decide_eq_false h2
      rw [q3, if_neg (by simp)]
      exact ifd_f (by simp)
  · refine (ifd_f h1).trans ?_
    rw [Bool.and_eq_true, decide_eq_true_eq, decide_eq_true_eq] at h1
    rw [if_neg]
    simp only [Bool.and_eq_true, decide_eq_true_eq]
    rintro ⟨h2, h3, _⟩
    exact h1 ⟨h2, by omega⟩

theorem drop2 (b : List Int) (i : Nat) (h : i + 1 < b.length) : b.drop i = b.getD i 0 :: b.getD (i + 1) 0 :: b.drop (i + 2) := by
  rw [drop_getD b i (by omega), drop_getD b (i + 1) h]

theorem unitsP_cons (a b : Int) (r : List Int) : unitsP (a :: b :: r) = if isPair (256 * a + b) r then (65536 + 1024 * (256 * a + b - 55296) + (vAt r - 56320)) :: unitsP (r.drop 2) else (256 * a + b) :: unitsP r := by rw [unitsP]

theorem unitsP_short (l : List Int) (h : l.length < 2) : unitsP l = [] := by
  match l, h with
  | [], _ => rw [unitsP]; intro a b r h; cases h
  | [x], _ => rw [unitsP]; intro a b r h; cases h

theorem units_L7_spec (b : List Int) (hB : Bytes b) (hb : b.length ≤ 2000000) : ∀ (k i : Nat) (out : List Int), i ≤ b.length → b.length - i = k → out.length + k ≤ 4000000 →
    charset_units_L7 (pcL prog cfg) lpL ((b, out, (i : Int), ()), ()) = some ((b, out ++ (unitsP (b.drop i)).map clean, ()), ()) := by
  intro k
  induction k using Nat.strongRecOn with
  | _ k ih =>
    intro i out hib hk ho
    refine charset_units_L7_of ?_
    unfold charset_units_L7_R
    dsimp only
    by_cases hi : i + 1 < b.length
    · rw [wrap64 (x := (i : Int) + 1) (by omega) (by omega)]
      refine (ifd_t (by simp only [decide_eq_true_eq]; omega)).trans ?_
      refine (ifd_t (by simp only [decide_eq_true_eq]; omega)).trans ?_
      refine (ifd_t (by simp only [decide_eq_true_eq]; omega)).trans ?_
      have e1 : Int.toNat ((i : Int) + 1) = i + 1 := by omega
      have b0 := hB.getD i
      have b1 := hB.getD (i + 1)
      rw [Int.toNat_natCast, e1, or_u16 b0 b1]
      refine bnd1 (units_C6_spec b out hB hb i hi (by omega) _ (by omega)) ?_
      rw [drop2 b i hi, unitsP_cons]
      have hu : 0 ≤ 256 * b.getD i 0 + b.getD (i + 1) 0 ∧ 256 * b.getD i 0 + b.getD (i + 1) 0 ≤ 65535 := by omega
      generalize 256 * b.getD i 0 + b.getD (i + 1) 0 = u at hu
      by_cases hp : isPair u (b.drop (i + 2)) = true
      · rw [if_pos hp, if_pos hp]
        have hp' := hp
        simp only [isPair, Bool.and_eq_true, decide_eq_true_eq, List.length_drop] at hp'
        simp only [Sum.elim_inl]
        rw [wrap64 (by omega) (by omega)]
        have hc : clean (65536 + 1024 * (u - 55296) + (vAt (b.drop (i + 2)) - 56320)) = 65536 + 1024 * (u - 55296) + (vAt (b.drop (i + 2)) - 56320) := clean_of (by unfold Ok; omega)
        rw [List.map_cons, hc, List.drop_drop]
        have := ih (b.length - (i + 2 + 2)) (by omega) (i + 2 + 2) (out ++ [65536 + 1024 * (u - 55296) + (vAt (b.drop (i + 2)) - 56320)]) (by omega) rfl (by simp; omega)
        have e4 : ((i + 2 : Nat) : Int) + 2 = ((i + 2 + 2 : Nat) : Int) := by omega
        rw [e4, this]
        simp
      · rw [if_neg hp, if_neg hp]
        simp only [Sum.elim_inr]
        rw [wrap64 (by omega) (by omega)]
        have e2 : (i : Int) + 2 = ((i + 2 : Nat) : Int) := by omega
        rw [e2, List.map_cons]
        have go : ∀ x, charset_units_L7 (pcL prog cfg) lpL ((b, out ++ [x], ((i + 2 : Nat) : Int), ()), ()) = some ((b, out ++ x :: (unitsP (b.drop (i + 2))).map clean, ()), ()) := fun x => by
          rw [ih (b.length - (i + 2)) (by omega) (i + 2) (out ++ [x]) (by omega) rfl (by simp; omega)]
          simp
        by_cases h1 : u ≥ 55296
        · refine (ifd_t (decide_eq_true h1)).trans ?_
          refine (ifd_t (decide_eq_true h1)).trans ?_
          by_cases h2 : u < 57344
          · refine (ifd_t (decide_eq_true h2)).trans ?_
            refine (ifd_t (by simp only [decide_eq_true_eq, List.length_cons, List.length_nil]; omega)).trans ?_
            have : clean u = 65533 := if_neg (by omega)
            rw [this]
            exact go _
          · refine (ifd_f (by simpa using h2)).trans ?_
            refine (ifd_t (by simp only [decide_eq_true_eq, List.length_cons, List.length_nil]; omega)).trans ?_
            rw [clean_of (by unfold Ok; omega)]
            exact go _
        · refine (ifd_f (by simpa using h1)).trans ?_
          refine (ifd_f (by simpa using h1)).trans ?_
          refine (ifd_t (by simp only [decide_eq_true_eq, List.length_cons, List.length_nil]; omega)).trans ?_
          rw [clean_of (by unfold Ok; omega)]
          exact go _
    · refine (ifd_f (by simp only [decide_eq_true_eq]; rw [wrap64 (x := (i : Int) + 1) (by omega) (by omega)]; omega)).trans ?_
      rw [unitsP_short _ (by rw [List.length_drop]; omega)]
      simp

theorem unitsP_len : ∀ (n : Nat) (l : List Int), l.length = n → (unitsP l).length ≤ n := by
  intro n
  induction n using Nat.strongRecOn with
  | _ n ih =>
    intro l hn
    match l, hn with
    | [], hn => rw [unitsP_short _ (by simp)]; simp
    | [x], hn => rw [unitsP_short _ (by simp)]; simp
    | a :: b :: r, hn =>
      rw [unitsP_cons]
      simp only [List.length_cons] at hn
      split
      · have := ih (r.drop 2).length (by simp; omega) _ rfl
        simp only [List.length_cons, List.length_drop] at this ⊢
        omega
      · have := ih r.length (by omega) _ rfl
        simp only [List.length_cons]
        omega

theorem units_spec (b : List Int) (hB : Bytes b) (hb : b.length ≤ 2000000) : charset_units_c (pcL prog cfg) b = some ((unitsL b).map clean) := by
  refine charset_units_of ?_
  unfold charset_units_B
  have h := units_L7_spec b hB hb _ 0 [] (by omega) rfl (by simp; omega)
  rw [List.drop_zero, List.nil_append] at h
  refine bnd1 h ?_
  dsimp only
  have hl := unitsP_len _ b rfl
  unfold unitsL
  have ht : Int.tmod (b.length : Int) 2 = ((b.length % 2 : Nat) : Int) := by
    rw [tmod_pos (by omega)]
    omega
  rw [ht]
  by_cases hodd : b.length % 2 = 1
  · rw [if_pos hodd, hodd]
    refine (ifd_t rfl).trans ?_
    refine (ifd_t (by simp only [decide_eq_true_eq, List.length_cons, List.length_nil, List.length_map]; omega)).trans ?_
    have : clean (-1) = 65533 := if_neg (by omega)
    simp [this]
  · rw [if_neg hodd]
    refine (ifd_f (by simp; omega)).trans ?_
    simp

theorem find2_spec (b : List Int) (hB : Bytes b) (hb : b.length ≤ 2000000) : charset_find_2_c (pcL prog cfg) b = some ((runesL b).map fix) := by
  refine charset_find_2_of ?_
  unfold charset_find_2_B
  rw [runes_spec b hB]
  exact ifd_t (by simp only [decide_eq_true_eq]; omega)

/-- what bytes stand for -/
def decoded (set : Int) (b : List Int) : List Int :=
  if set = 0 then (b.map asc).flatMap utf8 else if set = 1 then b.flatMap utf8 else if set = 2 then (runesL b).flatMap utf8 else (unitsL b).flatMap utf8

theorem flat_map (f : Int → Int) (h : ∀ n, utf8 (f n) = utf8 n) : ∀ l : List Int, (l.map f).flatMap utf8 = l.flatMap utf8
  | [] => rfl
  | n :: l => by rw [List.map_cons, List.flatMap_cons, List.flatMap_cons, flat_map f h l, h]

theorem Decode_spec (name b : List Int) (hN : Bytes name) (hn : name.length ≤ 2000000) (hB : Bytes b) (hb : b.length ≤ 2000000) :
    charset_Decode_c (pcL prog cfg) name b = some (if b.length > 12000 then ([], ((1, ((-1), ())), ())) else if setOf name < 0 then ([], ((18, ((-2), ())), ())) else (decoded (setOf name) b, ((0, (0, ())), ()))) := by
  refine charset_Decode_of ?_
  unfold charset_Decode_B
  refine bnd2 (lower_spec name hN hn) rfl ?_
  unfold setOf
  by_cases h12 : b.length > 12000
  · rw [if_pos h12]
    have hd : (decide (((b.length : Nat) : Int) > 12000)) = true := by simp only [decide_eq_true_eq]; omega
    by_cases h0 : lowL name = [97, 115, 99, 105, 105]
    · refine (ifd_t (by rw [h0]; rfl)).trans ?_
      exact ifd_t hd
    refine (ifd_f (by simpa using h0)).trans ?_
    by_cases h1 : lowL name = [108, 97, 116, 105, 110, 49]
    · refine (ifd_t (by rw [h1]; rfl)).trans ?_
      exact ifd_t hd
    refine (ifd_f (by simpa using h1)).trans ?_
    by_cases h2 : lowL name = [117, 116, 102, 56]
    · refine (ifd_t (by rw [h2]; rfl)).trans ?_
      exact ifd_t hd
    refine (ifd_f (by simpa using h2)).trans ?_
    by_cases h3 : lowL name = [117, 116, 102, 49, 54, 98, 101]
    · refine (ifd_t (by rw [h3]; rfl)).trans ?_
      exact ifd_t hd
    refine (ifd_f (by simpa using h3)).trans ?_
    exact ifd_t hd
  · rw [if_neg h12]
    have hd : ¬ (decide (((b.length : Nat) : Int) > 12000)) = true := by simp only [decide_eq_true_eq]; omega
    by_cases h0 : lowL name = [97, 115, 99, 105, 105]
    · refine (ifd_t (by rw [h0]; rfl)).trans ?_
      refine (ifd_f hd).trans ?_
      have h := Decode_L1_spec b hB hb _ 0 [] rfl (by simp; omega)
      rw [List.drop_zero, List.nil_append] at h
      refine bnd1 h ?_
      refine (ifd_t (by simp only [decide_eq_true_eq, List.length_map]; omega)).trans ?_
      rw [if_pos h0, encRunes_flat]
      rfl
    refine (ifd_f (by simpa using h0)).trans ?_
    rw [if_neg h0]
    by_cases h1 : lowL name = [108, 97, 116, 105, 110, 49]
    · refine (ifd_t (by rw [h1]; rfl)).trans ?_
      refine (ifd_f hd).trans ?_
      have h := Decode_L2_spec b hB hb _ 0 [] rfl (by simp; omega)
      rw [List.drop_zero, List.nil_append] at h
      refine bnd1 h ?_
      refine (ifd_t (by simp only [decide_eq_true_eq]; omega)).trans ?_
      rw [if_pos h1, encRunes_flat]
      rfl
    refine (ifd_f (by simpa using h1)).trans ?_
    rw [if_neg h1]
    by_cases h2 : lowL name = [117, 116, 102, 56]
    · refine (ifd_t (by rw [h2]; rfl)).trans ?_
      refine (ifd_f hd).trans ?_
      refine bnd2 (find2_spec b hB hb) rfl ?_
      have hl := runesL_len _ b rfl
      refine (ifd_t (by simp only [decide_eq_true_eq, List.length_map]; omega)).trans ?_
      rw [if_pos h2, encRunes_flat, flat_map _ utf8_fix]
      rfl
    refine (ifd_f (by simpa using h2)).trans ?_
    rw [if_neg h2]
    by_cases h3 : lowL name = [117, 116, 102, 49, 54, 98, 101]
    · refine (ifd_t (by rw [h3]; rfl)).trans ?_
      refine (ifd_f hd).trans ?_
      refine bnd2 (units_spec b hB hb) rfl ?_
      have hl := unitsP_len _ b rfl
      have hl2 : (unitsL b).length ≤ b.length + 1 := by
        unfold unitsL
        rw [List.length_append]
        split <;> simp <;> omega
      refine (ifd_t (by simp only [decide_eq_true_eq, List.length_map]; omega)).trans ?_
      rw [if_pos h3, encRunes_flat, flat_map _ utf8_clean]
      rfl
    refine (ifd_f (by simpa using h3)).trans ?_
    refine (ifd_f hd).trans ?_
    rw [if_neg h3]
    rfl

end Go.Proofs.YtklllljgdabheaaDoorSim
