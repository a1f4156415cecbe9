/- Plain facts that all chapters use: numbers of a kind, bits, tests. -/
import Derived.Test.YthhllkiefncbnaaDoorSimLim
namespace Go.Proofs.YthhllkiefncbnaaDoorSim
open Go
set_option linter.unusedVariables false
set_option linter.unusedSimpArgs false

/-! ### Tests and binds -/
theorem ifd_t {α : Type} {c : Prop} [Decidable c] {t e : α} (h : c) : ifd c t e = t := by rw [ifd_eq, if_pos h]
theorem ifd_f {α : Type} {c : Prop} [Decidable c] {t e : α} (h : ¬ c) : ifd c t e = e := by rw [ifd_eq, if_neg h]
theorem bnd_s {α β : Type} {x : α} {k : α → Option β} : bnd (some x) k = k x := rfl

theorem bnd2 {α β γ : Type} {o : Option α} {f : α → Option β} {k : β → Option γ} {v : α} {w : β} {x : γ} (h : o = some v) (hf : f v = some w) (hk : k w = some x) : bnd (bnd o f) k = some x := by
  subst h
  show bnd (f v) k = some x
  rw [hf]
  exact hk
theorem bnd1 {α γ : Type} {o : Option α} {k : α → Option γ} {v : α} {x : γ} (h : o = some v) (hk : k v = some x) : bnd o k = some x := by
  subst h
  exact hk

/-! ### Numbers -/
theorem wrap64 {x : Int} (h1 : -9223372036854775808 ≤ x) (h2 : x ≤ 9223372036854775807) : IntKind.wrap .i64 x = x := by
  show (if decide (x % 18446744073709551616 ≥ 9223372036854775808) = true then x % 18446744073709551616 - 18446744073709551616 else x % 18446744073709551616) = x
  simp only [decide_eq_true_eq]
  split <;> omega
theorem wrap32 {x : Int} (h1 : -2147483648 ≤ x) (h2 : x ≤ 2147483647) : IntKind.wrap .i32 x = x := by
  show (if decide (x % 4294967296 ≥ 2147483648) = true then x % 4294967296 - 4294967296 else x % 4294967296) = x
  simp only [decide_eq_true_eq]
  split <;> omega
theorem wrapU8 {x : Int} : IntKind.wrap .u8 x = x % 256 := by
  unfold IntKind.wrap
  simp [IntKind.bits, IntKind.signed]
theorem wrapU8i {x : Int} (h1 : 0 ≤ x) (h2 : x ≤ 255) : IntKind.wrap .u8 x = x := by rw [wrapU8]; omega
theorem wrapU32 {x : Int} (h1 : 0 ≤ x) (h2 : x ≤ 4294967295) : IntKind.wrap .u32 x = x := by
  unfold IntKind.wrap
  simp only [IntKind.bits, IntKind.signed, Bool.false_and]
  simp; omega
theorem wrapU64 {x : Int} (h1 : 0 ≤ x) (h2 : x ≤ 18446744073709551615) : IntKind.wrap .u64 x = x := by
  unfold IntKind.wrap
  simp only [IntKind.bits, IntKind.signed, Bool.false_and]
  simp; omega

theorem fdiv_pos {x y : Int} (h : 0 ≤ y) : x.fdiv y = x / y := Int.fdiv_eq_ediv_of_nonneg x h
theorem tdiv_pos {x y : Int} (h : 0 ≤ x) : x.tdiv y = x / y := Int.tdiv_eq_ediv_of_nonneg h
theorem tmod_pos {x y : Int} (h : 0 ≤ x) : x.tmod y = x % y := Int.tmod_eq_emod_of_nonneg h

theorem ofInt_toNat {x : Int} {w : Nat} (h1 : 0 ≤ x) (h2 : x < (2 ^ w : Nat)) : (BitVec.ofInt w x).toNat = x.toNat := by
  rw [BitVec.toNat_ofInt, Int.emod_eq_of_lt h1 (by exact_mod_cast h2)]

theorem ibits_i64 {op : BinOp} {x y : Int} (hx : 0 ≤ x) (hx' : x ≤ 9223372036854775807) (hy : 0 ≤ y) (hy' : y ≤ 9223372036854775807) :
    ibits op .i64 x y = IntKind.wrap .i64 (match op with
      | .and => (x.toNat &&& y.toNat : Nat)
      | .or => (x.toNat ||| y.toNat : Nat)
      | .xor => (x.toNat ^^^ y.toNat : Nat)
      | _ => ((BitVec.ofInt 64 x &&& ~~~ BitVec.ofInt 64 y).toNat : Nat)) := by
  have h1 := ofInt_toNat (w := 64) hx (by omega)
  have h2 := ofInt_toNat (w := 64) hy (by omega)
  cases op
  case and => show IntKind.wrap .i64 ((BitVec.ofInt 64 x &&& BitVec.ofInt 64 y).toNat : Nat) = _; rw [BitVec.toNat_and, h1, h2]
  case or => show IntKind.wrap .i64 ((BitVec.ofInt 64 x ||| BitVec.ofInt 64 y).toNat : Nat) = _; rw [BitVec.toNat_or, h1, h2]
  case xor => show IntKind.wrap .i64 ((BitVec.ofInt 64 x ^^^ BitVec.ofInt 64 y).toNat : Nat) = _; rw [BitVec.toNat_xor, h1, h2]
  all_goals rfl

theorem and_mask {x : Int} (k : Nat) (hx : 0 ≤ x) (hx' : x ≤ 9223372036854775807) (hk : k ≤ 62) : ibits .and .i64 x ((2 ^ k - 1 : Nat) : Int) = x % (2 ^ k : Nat) := by
  have hp : 2 ^ k ≤ 2 ^ 62 := Nat.pow_le_pow_right (by decide) hk
  have h0 : 0 < 2 ^ k := Nat.two_pow_pos k
  rw [ibits_i64 hx hx' (by omega) (by omega)]
  dsimp only
  rw [Int.toNat_natCast, Nat.and_two_pow_sub_one_eq_mod]
  have : x = (x.toNat : Int) := by omega
  rw [this, Int.toNat_natCast, ← Int.natCast_emod]
  have hlt := Nat.mod_lt x.toNat h0
  exact wrap64 (by omega) (by omega)

theorem or_shift {x y : Int} (k : Nat) (hx : 0 ≤ x) (hy : 0 ≤ y) (hyk : y < (2 ^ k : Nat)) (hb : x * (2 ^ k : Nat) + y ≤ 9223372036854775807) : ibits .or .i64 (x * (2 ^ k : Nat)) y = x * (2 ^ k : Nat) + y := by
  have h0 : 0 ≤ x * ((2 ^ k : Nat) : Int) := Int.mul_nonneg hx (by omega)
  rw [ibits_i64 h0 (by omega) hy (by omega)]
  dsimp only
  have e1 : (x * ((2 ^ k : Nat) : Int)).toNat = 2 ^ k * x.toNat := by
    rw [Int.toNat_mul hx (by omega), Int.toNat_natCast, Nat.mul_comm]
  have hy2 : y.toNat < 2 ^ k := by omega
  rw [e1, ← Nat.two_pow_add_eq_or_of_lt hy2]
  have e2 : ((2 ^ k * x.toNat + y.toNat : Nat) : Int) = x * (2 ^ k : Nat) + y := by
    rw [Int.natCast_add, Int.natCast_mul, Int.mul_comm]
    congr 1
    · rw [Int.toNat_of_nonneg hx]
    · omega
  rw [e2]
  exact wrap64 (by omega) (by omega)

theorem and_mask' {x m : Int} {k : Nat} (hx : 0 ≤ x) (hx' : x ≤ 9223372036854775807) (hk : k ≤ 62) (hm : m = ((2 ^ k - 1 : Nat) : Int)) : ibits .and .i64 x m = x % (2 ^ k : Nat) := by
  subst hm; exact and_mask k hx hx' hk

/-! ### Lists -/
theorem getD_drop {α : Type} (l : List α) (i : Nat) (d : α) : l.getD i d = (l.drop i).headD d := by
  rw [List.getD_eq_getElem?_getD, ← List.head?_drop, List.headD_eq_head?_getD]

theorem drop_getD (l : List Int) (i : Nat) (h : i < l.length) : l.drop i = l.getD i 0 :: l.drop (i + 1) := by
  rw [List.drop_eq_getElem_cons h, List.getD_eq_getElem?_getD, List.getElem?_eq_getElem h]
  rfl

theorem chunk_end (s : List Int) (i n : Int) (h0 : 0 ≤ i) (hi : i < s.length) (hn : 1 ≤ n) (hn' : n ≤ 1000000) (hb : s.length ≤ 4000000000) :
    IntKind.wrap .i64 (i + min n ((List.length (List.drop i.toNat (List.take (Int.toNat (s.length : Nat)) s)) : Nat) : Int)) = min (i + n) s.length := by
  rw [Int.toNat_natCast, List.take_length, List.length_drop, wrap64 (by omega) (by omega)]
  omega

theorem chunk_part (s : List Int) (i n : Int) (h0 : 0 ≤ i) (hi : i < s.length) (hn : 1 ≤ n) : List.drop i.toNat (List.take (min (i + n) s.length).toNat s) = (s.drop i.toNat).take n.toNat := by
  rw [List.drop_take]
  by_cases h : i + n ≤ s.length
  · rw [Int.min_eq_left h]
    congr 1; omega
  · rw [Int.min_eq_right (by omega)]
    rw [List.take_of_length_le (by simp), List.take_of_length_le (by simp; omega)]

/-- Bytes. -/
def Bytes (l : List Int) : Prop := ∀ x ∈ l, 0 ≤ x ∧ x ≤ 255

theorem Bytes.nil : Bytes [] := fun x h => by cases h
theorem Bytes.cons {a : Int} {l : List Int} (ha : 0 ≤ a ∧ a ≤ 255) (h : Bytes l) : Bytes (a :: l) := fun x hx => by
  rcases List.mem_cons.1 hx with rfl | hx
  · exact ha
  · exact h x hx
theorem Bytes.append {a b : List Int} (ha : Bytes a) (hb : Bytes b) : Bytes (a ++ b) := fun x hx => by
  rcases List.mem_append.1 hx with h | h
  · exact ha x h
  · exact hb x h
theorem Bytes.tail {a : Int} {l : List Int} (h : Bytes (a :: l)) : Bytes l := fun x hx => h x (by simp [hx])
theorem Bytes.head {a : Int} {l : List Int} (h : Bytes (a :: l)) : 0 ≤ a ∧ a ≤ 255 := h a (by simp)
theorem Bytes.left {a b : List Int} (h : Bytes (a ++ b)) : Bytes a := fun x hx => h x (by simp [hx])
theorem Bytes.right {a b : List Int} (h : Bytes (a ++ b)) : Bytes b := fun x hx => h x (by simp [hx])
theorem Bytes.take {l : List Int} (h : Bytes l) (n : Nat) : Bytes (l.take n) := fun x hx => h x (List.mem_of_mem_take hx)
theorem Bytes.drop {l : List Int} (h : Bytes l) (n : Nat) : Bytes (l.drop n) := fun x hx => h x (List.mem_of_mem_drop hx)
theorem Bytes.getD {l : List Int} (h : Bytes l) (i : Nat) : 0 ≤ l.getD i 0 ∧ l.getD i 0 ≤ 255 := by
  rw [List.getD_eq_getElem?_getD]
  cases e : l[i]? with
  | none => simp
  | some x => exact h x (List.mem_of_getElem? e)

end Go.Proofs.YthhllkiefncbnaaDoorSim
