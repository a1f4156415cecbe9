/- The operations that make a value and touch no state: what the machine does is what the interpreter says. -/
import Derived.Test.YthhllkiefncbnaaDoorSimB
import Derived.Laws.StructEq
import Derived.Laws.BytesString
import Derived.ChangeKeysEq
import Derived.Calls
namespace Go.Proofs.YthhllkiefncbnaaDoorSim
open Go
set_option linter.unusedVariables false
set_option linter.unusedSimpArgs false

variable {P : Program} {g : Gh} {w : World} {st : St} {b : Nat → Bool} {m : Nat}

theorem run_sizeT {t : TypeId} {n : Nat} (h : sizeT P t = some n) (w : World) : (sizeOf t).run P w = .ok n w := by
  unfold sizeT at h
  cases hi : P.info? t with
  | none => rw [hi] at h; cases h
  | some i => rw [hi] at h; simp at h; subst h; simp [sizeOf, run_typeInfo w hi]

theorem run_aggT {t : TypeId} {r : Bool} (h : aggT P t = some r) (w : World) : (isAgg t).run P w = .ok r w := by
  unfold aggT at h
  cases hu : P.underlying t with
  | none => rw [hu] at h; cases h
  | some d =>
    rw [hu] at h
    unfold isAgg
    simp only [Sem.run_bind, run_underlying hu, Result.andThen_ok]
    cases d <;> (injection h with h; subst h) <;> rfl

theorem bl_length (s : ByteArray) : (bl s).length = s.size := by simp [bl]

theorem wf_of_wfb {k : IntKind} {n : Int} (h : wfb k n = true) : wf k n := by simpa [wfb, wf] using h

theorem wf_wrap (k : IntKind) (n : Int) : wf k (k.wrap n) := by
  unfold wf IntKind.wrap IntKind.min IntKind.max
  cases k <;> simp only [IntKind.bits, IntKind.signed] <;> simp <;> (try split) <;> omega

theorem ofVal_rel {v : Value} {c : C} (h : ofVal v = some c) : RelC g w c v ∧ belowC b m c = true := by
  unfold ofVal at h
  split at h
  · split at h
    · rename_i hw; cases h; exact ⟨⟨rfl, wf_of_wfb hw⟩, rfl⟩
    · cases h
  · cases h; exact ⟨rfl, rfl⟩
  · split at h
    · rename_i s hs; cases h; exact ⟨⟨s, rfl, rfl, hs⟩, rfl⟩
    · cases h
  all_goals first | (cases h; exact ⟨rfl, rfl⟩) | cases h

theorem ofVals_rel : ∀ {vs : List Value} {cs : List C}, ofVals vs = some cs → All2 (RelC g w) cs vs ∧ ∀ x ∈ cs, belowC b m x = true
  | [], cs, h => by simp [ofVals] at h; subst h; exact ⟨trivial, by simp⟩
  | v :: vs, cs, h => by
    simp only [ofVals] at h
    split at h
    · rename_i c cs' h1 h2
      cases h
      have a := ofVal_rel (g := g) (w := w) (b := b) (m := m) h1
      have r := ofVals_rel h2
      exact ⟨⟨a.1, r.1⟩, by intro x hx; rcases List.mem_cons.1 hx with rfl | hx; exact a.2; exact r.2 x hx⟩
    · cases h

theorem ofValPV_rel {v : Value} {pv : PV} (h : ofValPV v = some pv) : RelPV g w pv v ∧ belowPV b m pv = true := by
  unfold ofValPV at h
  split at h
  · rename_i cs
    split at h
    · rename_i l hl
      cases h
      have r := ofVals_rel (g := g) (w := w) (b := b) (m := m) hl
      exact ⟨⟨cs.toList, by simp, r.1⟩, by simpa [belowPV] using r.2⟩
    · cases h
  · split at h
    · rename_i c hc
      cases h
      exact ofVal_rel hc
    · cases h

/-- The frame's slots. -/
def RelSlots (g : Gh) (w : World) (b : Nat → Bool) (m : Nat) (tmps : List PV) (vs : Array Value) : Prop :=
  All2 (RelPV g w) tmps vs.toList ∧ ∀ x ∈ tmps, belowPV b m x = true

theorem evalO_rel {tmps : List PV} {a : Act} (h : RelSlots g w b m tmps a.tmps) (x : Operand) : RelPV g w (evalO tmps x) (a.eval x) ∧ belowPV b m (evalO tmps x) = true := by
  cases x with
  | tmp t =>
    simp only [evalO, Act.eval]
    cases ht : tmps[t]? with
    | none => simp [List.getD, ht]; exact ⟨trivial, rfl⟩
    | some pv =>
      obtain ⟨v, hv, r⟩ := h.1.get t pv ht
      have e : a.tmps.getD t undef = v := by
        simp only [Array.getElem?_toList] at hv
        simp [Array.getD_eq_getD_getElem?, hv]
      simp only [List.getD, ht, Option.getD_some, e]
      exact ⟨r, h.2 pv (List.mem_of_getElem? ht)⟩
  | const v =>
    simp only [evalO, Act.eval]
    cases hv : ofValPV v with
    | none => exact ⟨trivial, rfl⟩
    | some pv => exact ofValPV_rel hv
  | global n => exact ⟨by simp [evalO, Act.eval, RelPV, RelC], rfl⟩
  | func f => exact ⟨by simp [evalO, Act.eval, RelPV, RelC], rfl⟩

/-- A piece of the machine's work that hands back a value and turns nothing. -/
def ValOk (P : Program) (g : Gh) (b : Nat → Bool) (m : Nat) (w : World) (s : Sem Value) (pv : PV) : Prop :=
  ∃ v, s.run P w = .ok v w ∧ RelPV g w pv v ∧ belowPV b m pv = true

/-! ### Operators -/
theorem wf_zero_in (k : IntKind) : k.min ≤ 0 ∧ 0 ≤ k.max := by cases k <;> decide

theorem wf_tmod {k : IntKind} {x y : Int} (h : wf k x) : wf k (x.tmod y) := by
  obtain ⟨h1, h2⟩ := h
  have hk := wf_zero_in k
  have e := Int.natAbs_tmod x y
  have l := Nat.mod_le x.natAbs y.natAbs
  rcases Int.le_total 0 x with hx | hx
  · have a := Int.tmod_nonneg y hx
    exact ⟨by omega, by omega⟩
  · have a : 0 ≤ (-x).tmod y := Int.tmod_nonneg y (by omega)
    rw [Int.neg_tmod] at a
    exact ⟨by omega, by omega⟩

theorem wf_fdiv {k : IntKind} {x : Int} {d : Int} (hd : 1 ≤ d) (h : wf k x) : wf k (x.fdiv d) := by
  obtain ⟨h1, h2⟩ := h
  have hk := wf_zero_in k
  rw [Int.fdiv_eq_ediv_of_nonneg _ (by omega)]
  rcases Int.le_total 0 x with hx | hx
  · have a := Int.ediv_nonneg hx (show 0 ≤ d by omega)
    have c := Int.ediv_le_self d hx
    exact ⟨by omega, by omega⟩
  · have a : x ≤ x / d := by
      rw [Int.le_ediv_iff_mul_le (by omega)]
      have := Int.mul_le_mul_of_nonpos_left hx hd
      simpa using this
    have c : x / d ≤ 0 := by
      have := Int.ediv_le_ediv (show 0 < d by omega) hx
      simpa using this
    exact ⟨by omega, by omega⟩

theorem intOp_ok {op : BinOp} {k : IntKind} {x y : Int} {c : C} {t : TypeId} (h : intOp op k x y = some (true, c)) (hx : wf k x) :
    ∃ v, (binOp op t (.int k x) (.int k y)).run P w = .ok v w ∧ RelC g w c v ∧ belowC b m c = true := by
  cases op <;> simp only [intOp, Option.some.injEq, Prod.mk.injEq, decide_eq_true_eq, reduceCtorEq, true_and] at h
  all_goals (try (obtain ⟨hy, rfl⟩ := h))
  all_goals (try subst h)
  all_goals (try simp only [binOp, ne_eq, not_true_eq_false, if_false, Op.intArith, Op.intDiv, Op.intBits, Op.intCmp, Sem.run_pure, Sem.run_ite])
  all_goals (try rw [if_neg hy])
  all_goals (try simp only [Sem.run_pure])
  all_goals first
    | exact ⟨_, rfl, ⟨rfl, wf_wrap _ _⟩, rfl⟩
    | exact ⟨_, rfl, ⟨rfl, wf_tmod hx⟩, rfl⟩
    | exact ⟨_, rfl, rfl, rfl⟩

theorem shiftOp_ok {op : BinOp} {k k' : IntKind} {x y : Int} {c : C} {t : TypeId} (h : shiftOp op k x y = some (true, c)) (hx : wf k x) :
    ∃ v, (binOp op t (.int k x) (.int k' y)).run P w = .ok v w ∧ RelC g w c v ∧ belowC b m c = true := by
  cases op <;> simp only [shiftOp, Option.some.injEq, Prod.mk.injEq, decide_eq_true_eq, reduceCtorEq] at h
  all_goals obtain ⟨hy, rfl⟩ := h
  all_goals simp only [binOp, Op.shift]
  all_goals rw [if_neg (by omega)]
  all_goals simp only [Sem.run_pure]
  · exact ⟨_, rfl, ⟨rfl, wf_wrap _ _⟩, rfl⟩
  · refine ⟨_, rfl, ⟨rfl, wf_fdiv ?_ hx⟩, rfl⟩
    have := Int.pow_pos (n := 2) (m := min y.toNat k.bits) (by decide)
    omega

/-! ### Strings -/
theorem u8_int_inj {a b : UInt8} (h : (a.toNat : Int) = (b.toNat : Int)) : a = b := by
  apply UInt8.toNat.inj; omega

theorem map_u8_inj : ∀ {x y : List UInt8}, (x.map fun b => (b.toNat : Int)) = (y.map fun b => (b.toNat : Int)) → x = y
  | [], [], _ => rfl
  | [], _ :: _, h => by simp at h
  | _ :: _, [], h => by simp at h
  | a :: x, b :: y, h => by
    simp only [List.map_cons, List.cons.injEq] at h
    rw [u8_int_inj h.1, map_u8_inj h.2]

theorem bl_inj {s t : ByteArray} (h : bl s = bl t) : s = t := by
  have := map_u8_inj h
  cases s; cases t
  simp only [ByteArray.mk.injEq]
  exact Array.toList_inj.1 this

theorem bl_beq (s t : ByteArray) : (s.toList == t.toList) = (bl s == bl t) := by
  rw [Bool.eq_iff_iff]
  simp only [beq_iff_eq]
  constructor
  · intro h
    rw [ByteArray.toList_eq, ByteArray.toList_eq] at h
    unfold bl; rw [h]
  · intro h; rw [bl_inj h]

theorem bytesLess_map : ∀ (x y : List UInt8), Op.bytesLess x y = bytesLess (x.map fun b => (b.toNat : Int)) (y.map fun b => (b.toNat : Int))
  | x, [] => by cases x <;> simp [Op.bytesLess, bytesLess]
  | [], _ :: _ => by simp [Op.bytesLess, bytesLess]
  | a :: x, b :: y => by
    simp only [Op.bytesLess, List.map_cons, bytesLess, bytesLess_map x y]
    congr 1
    · rw [Bool.eq_iff_iff]; simp [UInt8.lt_iff_toNat_lt]
    · congr 1
      rw [Bool.eq_iff_iff]; simp only [beq_iff_eq]
      exact ⟨fun h => by rw [h], u8_int_inj⟩

theorem bl_less (s t : ByteArray) : Op.bytesLess s.toList t.toList = bytesLess (bl s) (bl t) := by
  rw [bytesLess_map, ByteArray.toList_eq, ByteArray.toList_eq]; rfl

theorem bl_append (s t : ByteArray) : bl (s ++ t) = bl s ++ bl t := by
  simp [bl, ByteArray.data_append]

theorem strOp_ok {op : BinOp} {x y : List Int} {c : C} {t : TypeId} {u v : Value} (h : strOp op x y = some (true, c)) (hx : StrR x u) (hy : StrR y v) :
    ∃ r, (binOp op t u v).run P w = .ok r w ∧ RelC g w c r ∧ belowC b m c = true := by
  obtain ⟨s, rfl, rfl, hs⟩ := hx
  obtain ⟨s', rfl, rfl, hs'⟩ := hy
  cases op <;> simp only [strOp, Option.some.injEq, Prod.mk.injEq, decide_eq_true_eq, reduceCtorEq, true_and] at h
  case add =>
    obtain ⟨hl, rfl⟩ := h
    rw [bl_length, bl_length] at hl
    have hsz : (s ++ s').size = s.size + s'.size := by simp
    refine ⟨.string (s ++ s'), ?_, ⟨_, rfl, bl_append _ _, by unfold maxL; omega⟩, rfl⟩
    simp only [binOp, Op.stringOp]
    rw [if_neg (by have : IntKind.i64.max = 9223372036854775807 := by decide
                   omega)]
    rfl
  all_goals subst h
  all_goals (refine ⟨_, ?_, rfl, rfl⟩)
  all_goals simp only [binOp, Op.stringOp, Sem.run_pure, bl_beq, bl_less]


theorem eqGuard_plain {op : BinOp} {t : TypeId} {x y : Operand} {u v : Value} (h : ¬ (u = .nilIface ∧ v = .nilIface)) (h' : ∀ a c, ¬ (u = .agg a ∧ v = .agg c)) :
    (eqGuard op t x y u v).run P w = .ok () w := by
  unfold eqGuard
  cases op <;> simp only [Bool.not_true, Bool.not_false, Bool.false_eq_true, if_false, if_true] <;> first
    | rfl
    | (split
       · exact absurd ⟨rfl, rfl⟩ h
       · rename_i a c; exact absurd ⟨rfl, rfl⟩ (h' a c)
       · rfl)

theorem eqCell_ok {k : Nat} {t : TypeId} {x y : C} {u v : Value} {e : Bool} (h : eqCell (P.underlying t) x y = some e) (hx : RelC g w x u) (hy : RelC g w y v) :
    (Op.equalIn (k + 1) t u v).run P w = .ok e w := by
  cases x <;> cases y <;> simp only [eqCell, reduceCtorEq] at h
  · split at h
    · rename_i q hu
      split at h
      · rename_i hk; subst hk; cases h
        rw [hx.1, hy.1]
        exact run_equalIn_int w k t _ q _ _ hu
      · cases h
    · cases h
  · split at h
    · rename_i hu
      cases h
      rw [show u = _ from hx, show v = _ from hy]
      exact run_equalIn_bool w k t _ _ hu
    · cases h
  · split at h
    · rename_i hu
      cases h
      obtain ⟨s, rfl, rfl, _⟩ := hx
      obtain ⟨s', rfl, rfl, _⟩ := hy
      rw [run_equalIn_string w k t s s' hu, bl_beq]
    · cases h

theorem eqCell_scalar {t : TypeId} {x y : C} {e : Bool} (h : eqCell (P.underlying t) x y = some e) : (∃ q, P.underlying t = some (.int q)) ∨ P.underlying t = some .bool ∨ P.underlying t = some .string := by
  cases x <;> cases y <;> simp only [eqCell, reduceCtorEq] at h
  · split at h
    · rename_i q hu; exact .inl ⟨q, hu⟩
    · cases h
  · split at h
    · rename_i hu; exact .inr (.inl hu)
    · cases h
  · split at h
    · rename_i hu; exact .inr (.inr hu)
    · cases h

theorem eqCells_rel {k : Nat} : ∀ (fs : List Field) (i : Nat) (xs ys : List C) (us vs : List Value) (r : Bool) (as cs : List Value),
    eqCells P i fs xs ys = some r → All2 (RelC g w) xs us → All2 (RelC g w) ys vs → as.drop i = us → cs.drop i = vs →
    (Op.eqFields (k + 1) as.toArray cs.toArray fs).run P w = .ok r w
  | [], i, xs, ys, us, vs, r, as, cs, he, hx, hy, ha, hc => by
    cases xs <;> cases ys <;> simp [eqCells] at he
    subst he; rfl
  | f :: fs, i, xs, ys, us, vs, r, as, cs, he, hx, hy, ha, hc => by
    match xs, ys, us, vs, hx, hy, he with
    | [], [], _, _, _, _, he => simp [eqCells] at he
    | [], _ :: _, _, _, _, _, he => simp [eqCells] at he
    | _ :: _, [], _, _, _, _, he => simp [eqCells] at he
    | x :: xs, y :: ys, u :: us, v :: vs, hx, hy, he =>
      simp only [eqCells] at he
      split at he
      · rename_i hon
        obtain ⟨ho, hn⟩ := hon
        split at he
        · rename_i e r' h1 h2
          cases he
          have hu := eqCell_scalar h1
          have ga : as[i]? = some u := by have := congrArg (·[0]?) ha; simpa using this
          have gc : cs[i]? = some v := by have := congrArg (·[0]?) hc; simpa using this
          have ih := eqCells_rel (k := k) fs (i + 1) xs ys us vs r' as cs h2 hx.2 hy.2
              (by have := congrArg (List.drop 1) ha; rw [List.drop_drop] at this; simpa [Nat.add_comm] using this)
              (by have := congrArg (List.drop 1) hc; rw [List.drop_drop] at this; simpa [Nat.add_comm] using this)
          have hagg : (isAgg f.type).run P w = .ok false w := by
            rcases hu with ⟨q, hu⟩ | hu | hu <;> exact run_aggT (by simp [aggT, hu]) w
          have pa : (part f.type as.toArray f.offset).run P w = .ok u w := by
            simp [part, hagg, ho, ga]
          have pc : (part f.type cs.toArray f.offset).run P w = .ok v w := by
            simp [part, hagg, ho, gc]
          have hq : (Op.equalIn (k + 1) f.type u v).run P w = .ok e w := eqCell_ok h1 hx.1 hy.1
          simp only [Op.eqFields, ne_eq, hn, not_false_eq_true, if_true, Sem.run_bind, pa, pc, hq, Result.andThen_ok]
          cases e with
          | true => simpa using ih
          | false => simp
        · cases he
      · cases he

theorem eqGuardType_flat : ∀ (fs : List Field) (i d : Nat) (xs ys : List C) (r : Bool), eqCells P i fs xs ys = some r → fs.any (fun f => f.name != "_" && P.eqGuardType (d + 1) f.type) = false
  | [], _, _, _, _, _, _ => rfl
  | f :: fs, i, d, xs, ys, r, he => by
    match xs, ys, he with
    | [], [], he => simp [eqCells] at he
    | [], _ :: _, he => simp [eqCells] at he
    | _ :: _, [], he => simp [eqCells] at he
    | x :: xs, y :: ys, he =>
      simp only [eqCells] at he
      split at he
      · split at he
        · rename_i e r' h1 h2
          have hu := eqCell_scalar h1
          simp only [List.any_cons, eqGuardType_flat fs (i + 1) d xs ys r' h2, Bool.or_false]
          rcases hu with ⟨q, hu⟩ | hu | hu <;> simp [Program.eqGuardType, hu]
        · cases he
      · cases he

theorem eqAgg_ok {op : BinOp} {t : TypeId} {x y : Operand} {xs ys : List C} {us vs : List Value} {r : Bool} (h : eqAgg P t xs ys = some r) (hx : All2 (RelC g w) xs us) (hy : All2 (RelC g w) ys vs) :
    (eqGuard op t x y (.agg us.toArray) (.agg vs.toArray)).run P w = .ok () w ∧ (Op.equal t (.agg us.toArray) (.agg vs.toArray)).run P w = .ok r w := by
  unfold eqAgg at h
  split at h
  · rename_i fs hu
    split at h
    · cases h
    · rename_i hs
      constructor
      · have hd : P.eqGuardType P.depth t = false := by
          have : P.depth = (2 * (P.types.size + Made.depth)) + 1 + 1 := rfl
          rw [this]
          simp only [Program.eqGuardType, hu]
          rw [← Array.any_toList]
          exact eqGuardType_flat fs.toList 0 _ xs ys r h
        unfold eqGuard
        cases op <;> simp only [Bool.not_true, Bool.not_false, Bool.false_eq_true, if_false, if_true] <;> first
          | rfl
          | simp [hd]
      · have : Op.equal t (.agg us.toArray) (.agg vs.toArray) = Op.equalIn (9999 + 1) t (.agg us.toArray) (.agg vs.toArray) := rfl
        rw [this, run_equalIn_struct w 9999 t _ _ (by simp [Program.fieldsOf, hu]) (by simpa using hs)]
        simp only [Program.fieldsOf, hu]
        exact eqCells_rel (k := 9998) fs.toList 0 xs ys us vs r us vs h hx hy rfl rfl
  · cases h

theorem binOpC_ok {op : BinOp} {t : TypeId} {X Y : Operand} {x y : PV} {u v : Value} {c : PV} (h : binOpC P op t x y = some (true, c)) (hx : RelPV g w x u) (hy : RelPV g w y v) :
    ValOk P g b m w (do eqGuard op t X Y u v; binOp op t u v) c := by
  unfold binOpC at h
  split at h
  · rename_i k a k' a'
    have hu := hx.1
    have hv := hy.1
    subst hu; subst hv
    have hg : (eqGuard op t X Y (.int k a) (.int k' a')).run P w = .ok () w := eqGuard_plain (by simp) (by simp)
    unfold ValOk
    simp only [Sem.run_bind, hg, Result.andThen_ok]
    split at h
    · simp only [Option.map_eq_some_iff] at h
      obtain ⟨⟨g1, c1⟩, h1, h2⟩ := h
      cases h2
      exact shiftOp_ok h1 hx.2
    · simp only [Option.map_eq_some_iff] at h
      obtain ⟨⟨g1, c1⟩, h1, h2⟩ := h
      cases h2
      exact shiftOp_ok h1 hx.2
    · split at h
      · rename_i hk; subst hk
        simp only [Option.map_eq_some_iff] at h
        obtain ⟨⟨g1, c1⟩, h1, h2⟩ := h
        cases h2
        exact intOp_ok h1 hx.2
      · cases h
  · simp only [Option.map_eq_some_iff] at h
    obtain ⟨⟨g1, c1⟩, h1, h2⟩ := h
    cases h2
    have hg : (eqGuard op t X Y u v).run P w = .ok () w := by
      obtain ⟨s, rfl, _⟩ := hx
      exact eqGuard_plain (by simp) (by simp)
    unfold ValOk
    simp only [Sem.run_bind, hg, Result.andThen_ok]
    exact strOp_ok h1 hx hy
  · rename_i a a'
    have hu : u = .bool a := hx
    have hv : v = .bool a' := hy
    subst hu; subst hv
    have hg : (eqGuard op t X Y (.bool a) (.bool a')).run P w = .ok () w := eqGuard_plain (by simp) (by simp)
    unfold ValOk
    simp only [Sem.run_bind, hg, Result.andThen_ok]
    split at h
    · rename_i hu
      cases h
      have : (Op.equal t (.bool a) (.bool a')).run P w = .ok (a == a') w := run_equalIn_bool w 9999 t _ _ hu
      exact ⟨.bool (a == a'), by simp [binOp, this], rfl, rfl⟩
    · rename_i hu
      cases h
      have : (Op.equal t (.bool a) (.bool a')).run P w = .ok (a == a') w := run_equalIn_bool w 9999 t _ _ hu
      exact ⟨.bool (!(a == a')), by simp [binOp, this], rfl, rfl⟩
    · cases h
  · rename_i xs ys
    obtain ⟨us, rfl, hx⟩ := hx
    obtain ⟨vs, rfl, hy⟩ := hy
    unfold ValOk
    split at h
    · rename_i r hr
      cases h
      obtain ⟨h1, h2⟩ := eqAgg_ok (op := .eql) (x := X) (y := Y) hr hx hy
      simp only [Sem.run_bind, h1, Result.andThen_ok]
      exact ⟨.bool r, by simp [binOp, h2], rfl, rfl⟩
    · rename_i r hr
      cases h
      obtain ⟨h1, h2⟩ := eqAgg_ok (op := .neq) (x := X) (y := Y) hr hx hy
      simp only [Sem.run_bind, h1, Result.andThen_ok]
      exact ⟨.bool (!r), by simp [binOp, h2], rfl, rfl⟩
    · cases h
  · cases h

theorem unOpC_ok {op : UnOp} {x : PV} {u : Value} {c : PV} (h : unOpC op x = some (true, c)) (hx : RelPV g w x u) : ValOk P g b m w (Op.unary op u) c := by
  unfold unOpC at h
  split at h
  · cases h
    rw [hx.1]
    exact ⟨_, rfl, ⟨rfl, wf_wrap _ _⟩, rfl⟩
  · cases h
    rw [hx.1]
    exact ⟨_, rfl, ⟨rfl, wf_wrap _ _⟩, rfl⟩
  · cases h
    rw [show u = _ from hx]
    exact ⟨_, rfl, rfl, rfl⟩
  · cases h


/-! ### Conversions without memory of their own -/
theorem RelRow_cells {k : IntKind} {l : List Int} {v : Value} {prot : Nat → Nat → Prop} (h : SliceR w prot (RelD w prot (.int k)) 1 l v) (hne : l ≠ []) :
    ∃ b off cap, v = .slice (some ⟨b, off, none⟩) l.length cap ∧ (loadCells ⟨b, off, none⟩ l.length).run P w = .ok (l.map (Value.int k)).toArray w ∧ ∀ n ∈ l, wf k n := by
  obtain ⟨a, cap, rfl, h1, h2, h3⟩ := h
  obtain ⟨x, l', rfl⟩ : ∃ x l', l = x :: l' := by cases l with
    | nil => exact absurd rfl hne
    | cons x l' => exact ⟨x, l', rfl⟩
  obtain ⟨b, off, cs, rfl, _, _, _⟩ := h3 0 x rfl
  refine ⟨b, off, cap, rfl, ?_, fun n hn => ?_⟩
  · have := run_loadCells_list (P := P) w ⟨b, off, none⟩ ((x :: l').map (Value.int k)) (fun j v hj => by
      simp only [List.getElem?_map, Option.map_eq_some_iff] at hj
      obtain ⟨n, hn, rfl⟩ := hj
      obtain ⟨b', off', cs, e, hr, hl, hall⟩ := h3 j n hn
      simp only [Option.some.injEq, Addr.mk.injEq, and_true] at e
      obtain ⟨rfl, rfl⟩ := e
      have hc := (hall 0 (.int k n) (by rw [hr.1]; rfl)).2
      have ea : (⟨b, off, none⟩ : Addr).add j = ⟨b, off + j * 1 + 0, none⟩ := by
        unfold Addr.add; split <;> simp_all
      rw [ea]; exact hc)
    simpa using this
  · obtain ⟨j, hj⟩ := List.mem_iff_getElem?.1 hn
    obtain ⟨_, _, _, _, hr, _, _⟩ := h3 j n hj
    exact hr.2

theorem toNat_ofNat_u8 {n : Int} (h : wf .u8 n) : ((UInt8.ofNat n.toNat).toNat : Int) = n := by
  obtain ⟨h1, h2⟩ := h
  have e1 : IntKind.u8.min = 0 := by decide
  have e2 : IntKind.u8.max = 255 := by decide
  rw [e1] at h1; rw [e2] at h2
  simp [UInt8.toNat_ofNat']
  omega

theorem push_all : ∀ (l : List Int) (s : ByteArray), (l.foldl (fun r n => r.push (UInt8.ofNat n.toNat)) s).data.toList = s.data.toList ++ l.map fun n => UInt8.ofNat n.toNat
  | [], s => by simp
  | n :: l, s => by simp only [List.foldl_cons, push_all l, List.map_cons]; simp [ByteArray.push]

theorem bl_push {l : List Int} (h : ∀ n ∈ l, wf .u8 n) : bl (l.foldl (fun r n => r.push (UInt8.ofNat n.toNat)) ByteArray.empty) = l := by
  unfold bl
  rw [push_all]
  have : (ByteArray.empty.data.toList : List UInt8) = [] := rfl
  rw [this, List.nil_append, List.map_map]
  conv => rhs; rw [← List.map_id l]
  exact List.map_congr_left fun n hn => toNat_ofNat_u8 (h n hn)

/-- A slice of bytes as a string. -/
theorem bytesToString_ok {l : List Int} {v : Value} (h : SliceR w g.prot (RelD w g.prot (.int .u8)) 1 l v) :
    ∃ r, (Conv.bytesToString v).run P w = .ok r w ∧ StrR l r := by
  by_cases hne : l = []
  · subst hne
    obtain ⟨a, cap, rfl, h1, h2, h3⟩ := h
    cases a with
    | none => exact ⟨_, rfl, _, rfl, rfl, by simp [maxL]⟩
    | some a =>
      refine ⟨.string .empty, ?_, _, rfl, rfl, by simp [maxL]⟩
      have := run_bytesToString (P := P) w a 0 cap [] (by simp [loadCells, loadCellsFrom])
      simpa using this
  · obtain ⟨b, off, cap, rfl, hc, hw⟩ := RelRow_cells (P := P) h hne
    have := run_bytesToString (P := P) w ⟨b, off, none⟩ l.length cap l hc
    refine ⟨_, this, _, rfl, bl_push hw, ?_⟩
    obtain ⟨_, cap', e, h1, h2, _⟩ := h
    have : (l.foldl (fun r n => r.push (UInt8.ofNat n.toNat)) ByteArray.empty).size = l.length := by
      rw [← bl_length, bl_push hw]
    rw [this]; omega


theorem encode_size (n : Int) : (Utf8.encode n).size ≤ 4 := by
  unfold Utf8.encode
  dsimp only
  generalize (if Utf8.valid n = true then n.toNat else Utf8.runeError) = c
  split
  · exact (show 1 ≤ 4 by decide)
  · split
    · exact (show 2 ≤ 4 by decide)
    · split
      · exact (show 3 ≤ 4 by decide)
      · exact (show 4 ≤ 4 by decide)

theorem bl_append_all : ∀ (l : List Int) (s : ByteArray), bl (l.foldl (fun r n => r ++ Utf8.encode n) s) = bl s ++ encRunes l
  | [], s => by simp [encRunes]
  | n :: l, s => by simp only [List.foldl_cons, bl_append_all l, bl_append, encRunes, encRune, List.append_assoc]

theorem encRunes_length : ∀ (l : List Int), (encRunes l).length ≤ 4 * l.length
  | [] => by simp [encRunes]
  | n :: l => by
    have := encRunes_length l
    have e := encode_size n
    simp only [encRunes, encRune, List.length_append, bl_length, List.length_cons]
    omega

theorem run_forIn_runes (f : Value → ByteArray → Sem (ForInStep ByteArray))
    (hf : ∀ (n : Int) (r : ByteArray), (f (.int .i32 n) r).run P w = .ok (.yield (r ++ Utf8.encode n)) w) :
    ∀ (l : List Int) (r : ByteArray), (forIn (l.map (Value.int .i32)) r f).run P w = .ok (l.foldl (fun r n => r ++ Utf8.encode n) r) w
  | [], r => by simp
  | n :: l, r => by
    simp only [List.map_cons, List.forIn_cons, Sem.run_bind, hf, Result.andThen_ok, List.foldl_cons]
    exact run_forIn_runes f hf l _

theorem runesToString_ok {l : List Int} {v : Value} (hl : 4 * l.length ≤ 9223372036854775807) (h : SliceR w g.prot (RelD w g.prot (.int .i32)) 1 l v) :
    ∃ r, (Conv.runesToString v).run P w = .ok r w ∧ StrR (encRunes l) r := by
  have hs : ∀ s : ByteArray, bl s = encRunes l → s.size ≤ maxL := fun s e => by
    have := encRunes_length l
    rw [← bl_length, e]; unfold maxL; omega
  by_cases hne : l = []
  · subst hne
    obtain ⟨a, cap, rfl, h1, h2, h3⟩ := h
    cases a with
    | none => exact ⟨_, rfl, _, rfl, rfl, by simp [maxL]⟩
    | some a =>
      refine ⟨.string .empty, ?_, _, rfl, rfl, by simp [maxL]⟩
      simp [Conv.runesToString, loadCells, loadCellsFrom]
  · obtain ⟨b, off, cap, rfl, hc, hw⟩ := RelRow_cells (P := P) h hne
    have e : bl (l.foldl (fun r n => r ++ Utf8.encode n) ByteArray.empty) = encRunes l := by
      rw [bl_append_all]; rfl
    refine ⟨.string (l.foldl (fun r n => r ++ Utf8.encode n) ByteArray.empty), ?_, _, rfl, e, hs _ e⟩
    unfold Conv.runesToString
    simp only [Sem.run_bind, hc, Result.andThen, List.forIn_toArray]
    rw [run_forIn_runes _ (by intro n r; simp [Sem.run_pure])]
    simp [Sem.run_pure]

theorem undInt_eq {e : TypeId} {k : IntKind} (h : undInt P e = some k) : P.underlying e = some (.int k) := by
  unfold undInt at h
  split at h
  · rename_i hu; rw [hu]; simpa using h
  · cases h

theorem convC_ok {src dst : TypeId} {x : PV} {u : Value} {c : PV} (h : convC P src dst x = some (true, c)) (hx : RelPV g w x u) : ValOk P g b m w (convert src dst u) c := by
  unfold convC at h
  split at h
  · rename_i d k k' n hs hd
    cases h
    rw [hx.1]
    refine ⟨.int k (k.wrap n), ?_, ⟨rfl, wf_wrap _ _⟩, rfl⟩
    simp only [convert, Sem.run_bind, run_underlying hs, run_underlying hd, Result.andThen_ok]
    rfl
  · rename_i d k n hs hd
    cases h
    rw [hx.1]
    refine ⟨.string (Utf8.encode n), ?_, ⟨_, rfl, rfl, by have := encode_size n; unfold maxL; omega⟩, rfl⟩
    simp only [convert, Sem.run_bind, run_underlying hs, run_underlying hd, Result.andThen_ok]
    rfl
  · rename_i d l hs hd
    cases h
    obtain ⟨s, rfl, rfl, hz⟩ := hx
    refine ⟨.string s, ?_, ⟨_, rfl, rfl, hz⟩, rfl⟩
    simp only [convert, Sem.run_bind, run_underlying hs, run_underlying hd, Result.andThen_ok]
    rfl
  · rename_i e t l hs hd
    split at h
    · rename_i he
      cases h
      have he' := undInt_eq he
      obtain ⟨r, hr, hs'⟩ := bytesToString_ok (P := P) hx.1
      refine ⟨r, ?_, hs', rfl⟩
      obtain ⟨a, cap, rfl, _⟩ := hx.1
      simp only [convert, Sem.run_bind, run_underlying hs, run_underlying hd, Result.andThen_ok, run_underlying he']
      exact hr
    · cases h
  · rename_i e t l hs hd
    split at h
    · rename_i he
      have he' := undInt_eq he
      simp only [Option.some.injEq, Prod.mk.injEq, decide_eq_true_eq] at h
      obtain ⟨hl, rfl⟩ := h
      obtain ⟨r, hr, hs'⟩ := runesToString_ok (P := P) hl hx.1
      refine ⟨r, ?_, hs', rfl⟩
      obtain ⟨a, cap, rfl, _⟩ := hx.1
      simp only [convert, Sem.run_bind, run_underlying hs, run_underlying hd, Result.andThen_ok, run_underlying he']
      exact hr
    · cases h
  · rename_i e hs hd
    split at h
    · rename_i he
      cases h
      rw [show u = _ from hx]
      refine ⟨.string .empty, ?_, ⟨_, rfl, rfl, by simp [maxL]⟩, rfl⟩
      rcases he with he | he <;>
        (simp only [convert, Sem.run_bind, run_underlying hs, run_underlying hd, Result.andThen_ok, run_underlying (undInt_eq he)]; rfl)
    · cases h
  · cases h

end Go.Proofs.YthhllkiefncbnaaDoorSim
