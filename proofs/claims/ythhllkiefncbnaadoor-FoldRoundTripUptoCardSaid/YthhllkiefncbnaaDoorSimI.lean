/- makeSlice, conversions into new rows, append; one operation that turns the state. -/
import Derived.Test.YthhllkiefncbnaaDoorSimH
namespace Go.Proofs.YthhllkiefncbnaaDoorSim
open Go
set_option linter.unusedVariables false
set_option linter.unusedSimpArgs false

variable {P : Program} {g g' : Gh} {w w' : World} {st : St} {b : Nat → Bool} {m : Nat}

theorem chunk_zero {z : Array Value} {k i : Nat} (hi : i < k) (hz : 0 < z.size) :
    (((List.range (k * z.size)).map fun j => z[j % z.size]!).drop (i * z.size)).take z.size = z.toList := by
  apply List.ext_getElem?
  intro j
  rw [List.getElem?_take]
  split
  · rename_i hj
    have hlt : i * z.size + j < k * z.size := by
      have : (i + 1) * z.size ≤ k * z.size := Nat.mul_le_mul_right _ hi
      rw [Nat.add_mul] at this; omega
    rw [List.getElem?_drop, List.getElem?_map, List.getElem?_range hlt]
    simp only [Option.map_some]
    have e : (i * z.size + j) % z.size = j := by rw [Nat.mul_comm, Nat.mul_add_mod, Nat.mod_eq_of_lt hj]
    rw [e]
    simp [hj]
  · rename_i hj
    simp; omega

theorem range_map_arr (N : Nat) (f : Nat → Value) : (Array.range N).map f = ((List.range N).map f).toArray := by
  apply Array.toList_inj.1; simp

theorem makeSlice_run {t e : TypeId} {τ : Ty} {z : List C} {x : τ.den} {bt : Nat} {n k : Int} {kn kk : IntKind} (hu : P.underlying t = some (.slice e)) (hτ : elemTy P e = some τ) (hz : zeroCells P e = some z)
    (hb : bytesT P e = some bt) (hx : ofCells τ z = some (x, [])) (h0 : bt ≠ 0) (hg : 0 ≤ n ∧ n ≤ k ∧ k * bt ≤ 140737488355328) :
    ∃ vs : List Value, (Instr.makeSlice t (.int kn n) (.int kk k)).run P w = .ok (.slice (some ⟨w.heap.size, 0, none⟩) n.toNat k.toNat) (w.alloc (.cells vs.toArray e)) ∧ vs.length = k.toNat * τ.size ∧ n.toNat ≤ k.toNat ∧ k.toNat ≤ maxL ∧
      RowR (RelD w g.prot τ) τ.size (List.replicate n.toNat x) vs := by
  obtain ⟨zv, hzv, hzr, _⟩ := zeroCells_run (g := g) (w := w) (b := fun _ => true) (m := 0) hz
  obtain ⟨v1, v2, e1, hxr, hnil⟩ := ofCells_rel τ z x [] _ hx hzr
  have hv2 : v2 = [] := by cases v2 with
    | nil => rfl
    | cons => exact hnil.elim
  subst hv2
  simp only [List.append_nil] at e1
  have hsz := elemTy_size hτ
  have hzs : zv.cells.size = τ.size := by rw [← RelD.length τ x v1 hxr, ← e1]; simp
  have hk : k ≤ 140737488355328 := by
    have : k * 1 ≤ k * bt := Int.mul_le_mul_of_nonneg_left (by omega) (by omega)
    omega
  have hwn : IntKind.i64.wrap n = n := by unfold IntKind.wrap; simp only [IntKind.bits, IntKind.signed]; simp; omega
  have hwk : IntKind.i64.wrap k = k := by unfold IntKind.wrap; simp only [IntKind.bits, IntKind.signed]; simp; omega
  obtain ⟨i, hi⟩ : ∃ i, P.info? e = some i ∧ i.bytes = bt := by
    unfold bytesT at hb
    cases hq : P.info? e with
    | none => rw [hq] at hb; cases hb
    | some i => rw [hq] at hb; simp at hb; exact ⟨i, rfl, hb⟩
  have hbn : ¬ ((bt : Int) * k > 2 ^ 48) := by rw [Int.mul_comm]; omega
  refine ⟨(List.range (k.toNat * τ.size)).map fun j => zv.cells[j % zv.cells.size]!, ?_, by simp, by omega, by unfold maxL; omega, ?_⟩
  · unfold Instr.makeSlice
    simp only [Sem.run_bind, run_underlying hu, Result.andThen_ok, asInt, asIntOf, Sem.run_pure, run_typeInfo w hi.1, hi.2, hwn, hwk]
    have c1 : ((decide (k < 0) || decide ((bt : Int) * k > 2 ^ 48)) || decide (n < 0) || decide (n > k)) = false := by
      simp only [Bool.or_eq_false_iff, decide_eq_false_iff_not]
      exact ⟨⟨⟨by omega, hbn⟩, by omega⟩, by omega⟩
    simp only [Bool.or_eq_true, decide_eq_true_eq] at c1 ⊢
    have c2 : ¬ (((k < 0 ∨ (bt : Int) * k > 2 ^ 48) ∨ n < 0) ∨ n > k) := by omega
    rw [if_neg c2]
    simp only [Sem.run_bind, run_askRoom, Result.andThen_ok, run_sizeT hsz]
    by_cases h0' : k.toNat * τ.size = 0
    · rw [if_pos h0', h0']
      simp [newRow, range_map_arr]
    · rw [if_neg h0']
      simp only [Sem.run_bind, hzv, Sem.run_pure, Result.andThen_ok]
      simp [newRow, range_map_arr]
  · refine ⟨by simp; exact Nat.mul_le_mul_right _ (by omega), fun i y hy => ?_⟩
    rw [List.getElem?_replicate] at hy
    split at hy
    · rename_i hlt
      cases hy
      by_cases hp : τ.size = 0
      · have hl := RelD.length τ x v1 hxr
        rw [hp] at hl ⊢
        have : v1 = [] := List.eq_nil_of_length_eq_zero hl
        rw [this] at hxr
        simpa using hxr
      · have := chunk_zero (z := zv.cells) (k := k.toNat) (i := i) (by omega) (by omega)
        rw [hzs] at this
        rw [hzs, this, e1]
        exact hxr
    · cases hy

/-! ### Conversions of a string into a row -/
theorem freeze_heap {W : World} {k n : Nat} {cs : Array Value} {t : TypeId} (h : W.heap[k]? = some (.cells cs t (0, 0))) :
    (W.freeze ⟨k, n, none⟩ 1).heap[k]? = some (.cells cs t (n, n + 1)) ∧ (∀ j, j ≠ k → (W.freeze ⟨k, n, none⟩ 1).heap[j]? = W.heap[j]?) ∧ (W.freeze ⟨k, n, none⟩ 1).heap.size = W.heap.size := by
  obtain ⟨hlt, hk⟩ := Array.getElem?_eq_some_iff.1 h
  unfold World.freeze
  simp only [if_neg (show ¬ (1 = 0) by decide)]
  refine ⟨?_, fun j hj => ?_, by simp⟩
  · rw [Array.getElem?_modify, if_pos rfl, h]
    rfl
  · rw [Array.getElem?_modify, if_neg (fun e => hj e.symm)]

theorem bytesRow {s : ByteArray} {extra : List Value} : RowR (RelD w g.prot (.int .u8)) 1 (bl s) ((s.data.map fun b => Value.int .u8 b.toNat).toList ++ extra) := by
  refine ⟨by simp [bl], fun i x hx => ?_⟩
  have hlt := (List.getElem?_eq_some_iff.1 hx).1
  rw [bl_length] at hlt
  simp only [bl, List.getElem?_map, Option.map_eq_some_iff] at hx
  obtain ⟨u, hu, rfl⟩ := hx
  have e1 : (((s.data.map fun b => Value.int .u8 b.toNat).toList ++ extra).drop (i * 1)).take 1 = [.int .u8 (u.toNat : Int)] := by
    rw [Nat.mul_one, List.take_one, List.head?_drop, List.getElem?_append_left (by simpa using hlt)]
    simp only [Array.toList_map, List.getElem?_map, hu]
    rfl
  rw [e1]
  refine ⟨rfl, ?_⟩
  have := u.toNat_lt
  have e1 : IntKind.u8.min = 0 := by decide
  have e2 : IntKind.u8.max = 255 := by decide
  exact ⟨by rw [e1]; omega, by rw [e2]; omega⟩

/-- What the conversion lays. -/
theorem stringToBytes_run {e : TypeId} {s : ByteArray} (hs : s.size ≤ maxL) : ∃ cap extra W, (Conv.stringToBytes e s).run P w = .ok (.slice (some ⟨w.heap.size, 0, none⟩) s.size cap) W ∧
    W.os = w.os ∧ W.tape = w.tape ∧ W.output = w.output ∧ W.heap.size = w.heap.size + 1 ∧ (∀ k, k < w.heap.size → W.heap[k]? = w.heap[k]?) ∧
    W.heap[w.heap.size]? = some (.cells ((s.data.map fun b => Value.int .u8 b.toNat).toList ++ extra).toArray e (s.size + extra.length, s.size + extra.length + 1)) ∧ s.size ≤ cap ∧ cap ≤ maxL ∧
    W = (w.drew.alloc (.cells ((s.data.map fun b => Value.int .u8 b.toNat).toList ++ extra).toArray e)).freeze ⟨w.heap.size, s.size + extra.length, none⟩ 1 := by
  obtain ⟨cap, hcap⟩ : ∃ cap, cap = grownCap w s.size 0 e := ⟨_, rfl⟩
  have hge : s.size ≤ cap := by rw [hcap]; exact grownCap_ge w s.size 0 e
  have hle : cap ≤ maxL := by rw [hcap]; exact grownCap_le_maxLen w s.size 0 e hs
  obtain ⟨extra, hex⟩ : ∃ extra, extra = List.replicate (cap - s.size) (Value.int .u8 0) := ⟨_, rfl⟩
  obtain ⟨row, hrow⟩ : ∃ row, row = (s.data.map fun b => Value.int .u8 b.toNat).toList ++ extra := ⟨_, rfl⟩
  have hrl : row.toArray.size = s.size + extra.length := by rw [hrow]; simp
  have hnew : (w.drew.alloc (.cells row.toArray e)).heap[w.heap.size]? = some (.cells row.toArray e (0, 0)) := heap_alloc_new w.drew _
  obtain ⟨f1, f2, f3⟩ := freeze_heap (n := s.size + extra.length) hnew
  refine ⟨cap, extra, (w.drew.alloc (.cells row.toArray e)).freeze ⟨w.heap.size, s.size + extra.length, none⟩ 1, ?_, ?_, ?_, ?_, by rw [f3]; simp, fun k hk => by rw [f2 k (by omega)]; exact heap_alloc_old w.drew _ k hk, by rw [← hrow]; exact f1, hge, hle, by rw [← hrow]⟩
  · unfold Conv.stringToBytes
    have hch : (choose (.appendCap s.size 0 e)).run P w = .ok cap w.drew := by simp [Question.forced, hcap, grownCap]
    have harr : (s.data.map fun b => Value.int .u8 b.toNat) ++ Array.replicate (cap - s.size) (Value.int .u8 0) = row.toArray := by
      apply Array.toList_inj.1
      rw [hrow, hex]; simp
    simp only [Sem.run_bind, hch, Result.andThen_ok, harr]
    have hshape : (w.drew.alloc (.cells row.toArray e)).shape? w.heap.size = some (e, row.toArray.size) := by unfold World.shape?; rw [hnew]
    simp only [newRow, Sem.run_bind, run_newObj, Sem.run_pure, Result.andThen_ok, World.alloc_eq, World.size_drew, markStringish, run_shape, hshape, run_freeze, hrl]
  · unfold World.freeze; split <;> rfl
  · unfold World.freeze; split <;> rfl
  · unfold World.freeze; split <;> rfl

end Go.Proofs.YthhllkiefncbnaaDoorSim
