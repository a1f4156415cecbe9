/- Reading a law's arguments. -/
import Derived.Test.YthhllkiefncbnaaDoorSimPr
import Derived.Test.YthhllkiefncbnaaDoorRows
import Derived.ChangeArms
import Derived.DataReads
namespace Go.Proofs.YthhllkiefncbnaaDoorSim
open Go Go.Proofs.YthhllkiefncbnaaDoor
set_option linter.unusedVariables false
set_option linter.unusedSimpArgs false

/-- Values and letters, as the statements count them. -/
def bulkD : (τ : Ty) → τ.den → Nat
  | .int _, _ => 1
  | .bool, _ => 1
  | .str, l => l.length + 1
  | .unit, _ => 0
  | .slice τ, l => (l.map (bulkD τ)).sum + 1
  | .pair a b, x => bulkD a x.1 + bulkD b x.2

/-- Numbers are within their kinds; letters are bytes. -/
def wfD : (τ : Ty) → τ.den → Prop
  | .int k, n => wf k n
  | .bool, _ => True
  | .str, l => ∀ x ∈ l, 0 ≤ x ∧ x ≤ 255
  | .unit, _ => True
  | .slice τ, l => ∀ x ∈ l, wfD τ x
  | .pair a b, x => wfD a x.1 ∧ wfD b x.2

theorem bl_wf (s : ByteArray) : ∀ x ∈ bl s, 0 ≤ x ∧ x ≤ 255 := by
  intro x hx
  simp only [bl, List.mem_map] at hx
  obtain ⟨b, _, rfl⟩ := hx
  have := b.toNat_lt
  omega

theorem relD_wf {w : World} {prot : Nat → Nat → Prop} : ∀ {τ : Ty} {x : τ.den} {cs : List Value}, RelD w prot τ x cs → wfD τ x
  | .int k, x, cs, h => h.2
  | .bool, _, _, _ => trivial
  | .str, x, cs, h => by
    obtain ⟨v, _, s, _, rfl, _⟩ := h
    exact bl_wf s
  | .unit, _, _, _ => trivial
  | .slice τ, l, cs, h => by
    obtain ⟨v, _, a, cap, _, _, _, h⟩ := h
    intro x hx
    obtain ⟨i, hi⟩ := List.mem_iff_getElem?.1 hx
    obtain ⟨b, off, cs, _, hr, _⟩ := h i x hi
    exact relD_wf hr
  | .pair a b, x, cs, h => by
    obtain ⟨c1, c2, _, h1, h2⟩ := h
    exact ⟨relD_wf h1, relD_wf h2⟩

def fieldsOk (P : Program) (rd : TypeId → Bool) (ty : TypeId → Option Ty) : Nat → List Field → Bool
  | _, [] => true
  | off, f :: r => f.offset == off && rd f.type && match ty f.type with
    | some τ => P.cellsOf f.type == τ.size && fieldsOk P rd ty (off + τ.size) r
    | none => false

/-- A type whose readings the interpreter's types tell. -/
def rdOk (P : Program) : Nat → TypeId → Bool
  | 0, _ => false
  | d + 1, t => match P.underlying t with
    | some (.int _) | some .bool | some .string => true
    | some (.slice e) => rdOk P d e && match tyOf P d e with
      | some τ => P.cellsOf e == τ.size && τ.size != 0
      | none => false
    | some (.struct fs) => fieldsOk P (rdOk P d) (tyOf P d) 0 fs.toList && match tyOf P (d + 1) t with
      | some τ => P.cellsOf t == τ.size
      | none => false
    | _ => false

variable {H : Type} {enc : TypeId × Value → H} {P : Program} {W : World} {sp : Nat → Bool} {hd : Bool}

def oldP (W : World) : Nat → Nat → Prop := fun k _ => k < W.heap.size

theorem cell_old {k off : Nat} {sp : Option Nat} {u : Value} (h : W.cell? ⟨k, off, sp⟩ = some u) : k < W.heap.size ∧ sp = none := by
  unfold World.cell? at h
  split at h
  · rename_i c t f hb
    refine ⟨(Array.getElem?_eq_some_iff.1 hb).1, ?_⟩
    cases sp with
    | none => rfl
    | some s => simp at h
  · cases h

/-- The datum as the interpreter's types tell it. -/
def undatL {α : Type} (f : DataW H → Option α) : List (DataW H) → Option (List α)
  | [] => some []
  | d :: r => match f d, undatL f r with
    | some x, some l => some (x :: l)
    | _, _ => none

def undat : (τ : Ty) → DataW H → Option τ.den
  | .int k, .lit (.int k' n) => if k' = k then some n else none
  | .bool, .lit (.bool b) => some b
  | .str, .lit (.string l) => some (l.map fun b => (b.toNat : Int))
  | .unit, .agg [] => some ()
  | .slice _, .nil => some []
  | .slice τ, .slice ds _ => undatL (undat τ) ds
  | .pair a b, .agg (d :: r) => match undat a d, undat b (.agg r) with
    | some x, some y => some (x, y)
    | _, _ => none
  | _, _ => none

theorem bulkAll_append : ∀ (l r : List (DataW H)), Rows.uptoBulkAll (l ++ r) = Rows.uptoBulkAll l + Rows.uptoBulkAll r
  | [], r => by simp [Rows.uptoBulkAll]
  | x :: l, r => by simp only [List.cons_append, Rows.uptoBulkAll, bulkAll_append l r]; omega

/-- The elements of a slice, one by one. -/
theorem elems_read {τ : Ty} {e : TypeId} {n : Nat} {f : Nat → Option (List Value)} : ∀ (elems : List (DataW H × List MemPlace)) (i0 : Nat)
    (h : ∀ i, i < elems.length → (f (i0 + i)).bind (DataW.trod enc P W 0 sp hd n e) = elems[i]?)
    (ih : ∀ cs y, DataW.trod enc P W 0 sp hd n e cs = some y → ∃ x : τ.den, RelD W (oldP W) τ x cs ∧ bulkD τ x ≤ Rows.uptoBulk y.1 ∧ undat τ y.1 = some x),
    ∃ l : List τ.den, l.length = elems.length ∧ (∀ i x, l[i]? = some x → ∃ cs, f (i0 + i) = some cs ∧ RelD W (oldP W) τ x cs) ∧ (l.map (bulkD τ)).sum ≤ Rows.uptoBulkAll (elems.map (·.1)) ∧ undatL (undat τ) (elems.map (·.1)) = some l
  | [], i0, _, _ => ⟨[], rfl, fun i x h => by simp at h, by simp [Rows.uptoBulkAll], rfl⟩
  | y :: elems, i0, h, ih => by
    have h0 := h 0 (by simp)
    simp only [Nat.add_zero, List.getElem?_cons_zero, Option.bind_eq_some_iff] at h0
    obtain ⟨cs, hcs, hy⟩ := h0
    obtain ⟨x, hx, hbk, hud⟩ := ih cs y hy
    obtain ⟨l, hl, hall, hsum, hul⟩ := elems_read elems (i0 + 1) (fun i hi => by
      have := h (i + 1) (by simp; omega)
      rw [show i0 + (i + 1) = i0 + 1 + i by omega] at this
      simpa using this) ih
    refine ⟨x :: l, by simp [hl], fun i z hz => ?_, ?_, by simp only [List.map_cons, undatL, hud, hul]⟩
    · cases i with
      | zero => simp at hz; subst hz; exact ⟨cs, hcs, hx⟩
      | succ i =>
        have := hall i z (by simpa using hz)
        rw [show i0 + 1 + i = i0 + (i + 1) by omega] at this
        exact this
    · simp only [List.map_cons, List.sum_cons, Rows.uptoBulkAll]
      omega

theorem fields_read {d n : Nat} {cs : List Value} (ih : ∀ t τ cs y, rdOk P d t = true → tyOf P d t = some τ → DataW.trod enc P W 0 sp hd n t cs = some y → ∃ x : τ.den, RelD W (oldP W) τ x cs ∧ bulkD τ x ≤ Rows.uptoBulk y.1 ∧ undat τ y.1 = some x) :
    ∀ (fs : List Field) (xs : List (DataW H × List MemPlace)) (off : Nat) (τ : Ty), fs.foldr (fun f acc => match tyOf P d f.type, acc with
      | some a, some b => some (.pair a b)
      | _, _ => none) (some .unit) = some τ → fieldsOk P (rdOk P d) (tyOf P d) off fs = true → (cs.drop off).length = τ.size → xs.length = fs.length →
      (∀ (i : Nat) (f : Field), fs[i]? = some f → DataW.trod enc P W 0 sp hd n f.type ((cs.drop f.offset).take (P.cellsOf f.type)) = xs[i]?) →
      ∃ x : τ.den, RelD W (oldP W) τ x (cs.drop off) ∧ bulkD τ x ≤ Rows.uptoBulkAll (xs.map (·.1)) ∧ undat τ (.agg (xs.map (·.1))) = some x
  | [], xs, off, τ, ht, _, hl, hxl, _ => by
    simp only [List.foldr_nil, Option.some.injEq] at ht
    subst ht
    have hx0 : xs = [] := List.eq_nil_of_length_eq_zero (by simpa using hxl)
    subst hx0
    exact ⟨(), List.eq_nil_of_length_eq_zero hl, Nat.zero_le _, rfl⟩
  | f :: fs, xs, off, τ, ht, hok, hl, hxl, hr => by
    simp only [List.foldr_cons] at ht
    split at ht
    · rename_i a b ha hb
      simp only [Option.some.injEq] at ht
      subst ht
      simp only [fieldsOk, Bool.and_eq_true, beq_iff_eq, ha] at hok
      obtain ⟨⟨ho, hrd⟩, hsz, hrest⟩ := hok
      subst ho
      match xs, hxl with
      | y :: xs, hxl =>
        have h0 := hr 0 f rfl
        simp only [List.getElem?_cons_zero] at h0
        obtain ⟨x, hx, hbk, hud⟩ := ih f.type a _ y hrd ha h0
        simp only [Ty.size] at hl
        obtain ⟨z, hz, hzb, hzu⟩ := fields_read (cs := cs) ih fs xs (f.offset + a.size) b hb hrest (by rw [List.length_drop] at hl ⊢; omega) (by simpa using hxl) (fun i g hg => by simpa using hr (i + 1) g (by simpa using hg))
        refine ⟨(x, z), ⟨_, _, ?_, hx, hz⟩, ?_, by simp only [List.map_cons, undat, hud, hzu]⟩
        · rw [hsz, ← List.drop_drop, List.take_append_drop]
        · simp only [bulkD, List.map_cons, Rows.uptoBulkAll]
          omega
      | [], hxl => simp at hxl
    · cases ht

theorem trod_read : ∀ (d n : Nat) (t : TypeId) (τ : Ty) (cs : List Value) (y : DataW H × List MemPlace), rdOk P d t = true → tyOf P d t = some τ → DataW.trod enc P W 0 sp hd n t cs = some y → ∃ x : τ.den, RelD W (oldP W) τ x cs ∧ bulkD τ x ≤ Rows.uptoBulk y.1 ∧ undat τ y.1 = some x
  | 0, n, t, τ, cs, y, hok, _, _ => by simp [rdOk] at hok
  | d + 1, n, t, τ, cs, y, hok, ht, h => by
    simp only [rdOk] at hok
    have ht' := ht
    simp only [tyOf] at ht
    split at hok
    · rename_i k hu
      simp only [hu, Option.some.injEq] at ht
      subst ht
      obtain ⟨m, rfl, rfl, hw⟩ := DataW.trod_int hu h
      refine ⟨m, ⟨rfl, ?_⟩, by simp [bulkD, Rows.uptoBulk], by simp [undat]⟩
      simpa [Lit.wf, wf] using hw
    · rename_i hu
      simp only [hu, Option.some.injEq] at ht
      subst ht
      obtain ⟨m, rfl, rfl⟩ := DataW.trod_bool hu h
      exact ⟨m, rfl, by simp [bulkD, Rows.uptoBulk], rfl⟩
    · rename_i hu
      simp only [hu, Option.some.injEq] at ht
      subst ht
      obtain ⟨s, rfl, rfl, hs⟩ := DataW.trod_string hu h
      refine ⟨bl s, ⟨_, rfl, s, rfl, rfl, hs⟩, ?_, by simp [undat, bl]⟩
      simp [bulkD, Rows.uptoBulk, bl]
    · rename_i e hu
      simp only [hu, Option.map_eq_some_iff] at ht
      obtain ⟨τe, hte, rfl⟩ := ht
      rw [hte] at hok
      simp only [Bool.and_eq_true, beq_iff_eq, bne_iff_ne, ne_eq] at hok
      obtain ⟨hre, hce, hpos⟩ := hok
      rcases DataW.trod_slice hu h with ⟨rfl, rfl⟩ | ⟨a, len, cap, elems, rest, m, rfl, rfl, rfl, hb, hle, hcap, hlen, hel, _, _⟩
      · exact ⟨[], ⟨_, rfl, none, 0, rfl, Nat.le_refl _, by simp [maxL], fun i x hx => by simp at hx⟩, by simp [bulkD, Rows.uptoBulk], rfl⟩
      · obtain ⟨l, hl, hall, hsum, hul⟩ := elems_read (τ := τe) (f := fun i => W.cells? 0 (a.add (i * P.cellsOf e)) (P.cellsOf e)) elems 0 (fun i hi => by
          rw [Nat.zero_add]; exact hel i (by omega)) (fun cs y hy => trod_read d m e τe cs y hre hte hy)
        refine ⟨l, ⟨_, rfl, some a, cap, by rw [hl, hlen], by omega, hcap, fun i x hx => ?_⟩, ?_, by simpa only [undat] using hul⟩
        · obtain ⟨cs, hcs, hr⟩ := hall i x hx
          rw [Nat.zero_add] at hcs
          obtain ⟨_, hcl, hcell⟩ := World.cells?_some hcs
          rw [hce] at hcl hcell
          -- the address bears no spot: its first cell is there
          have hspot : a.spot = none ∨ i * P.cellsOf e ≠ 0 := by
            by_cases hz : i * P.cellsOf e = 0
            · left
              have h0 := hcell 0 (by omega)
              rw [← hce, hz] at h0
              simp only [Addr.add, if_true] at h0
              obtain ⟨u, hu⟩ : ∃ u, cs[0]? = some u := ⟨_, List.getElem?_eq_getElem (by omega)⟩
              rw [hu] at h0
              obtain ⟨b', o', s'⟩ := a
              exact (cell_old h0).2
            · exact .inr hz
          have hsp : a.spot = none := by
            rcases hspot with q | q
            · exact q
            · -- element 0 is there as well
              have hi0 : 0 < l.length := by have := (List.getElem?_eq_some_iff.1 hx).1; omega
              obtain ⟨cs0, hcs0, _⟩ := hall 0 _ (List.getElem?_eq_getElem hi0)
              obtain ⟨_, hcl0, hcell0⟩ := World.cells?_some hcs0
              rw [hce] at hcl0 hcell0
              have h0 := hcell0 0 (by omega)
              simp only [Nat.zero_add, Nat.zero_mul, Addr.add, if_true] at h0
              obtain ⟨u, hu⟩ : ∃ u, cs0[0]? = some u := ⟨_, List.getElem?_eq_getElem (by omega)⟩
              rw [hu] at h0
              obtain ⟨b', o', s'⟩ := a
              exact (cell_old h0).2
          obtain ⟨b', o', s'⟩ := a
          simp only at hsp
          subst hsp
          refine ⟨b', o', cs, rfl, hr, hcl, fun j u hu => ?_⟩
          have hj : j < τe.size := by rw [← hcl]; exact (List.getElem?_eq_some_iff.1 hu).1
          have hc := hcell j hj
          rw [hu, add_none, add_none] at hc
          exact ⟨(cell_old hc).1, hc⟩
        · simp only [bulkD, Rows.uptoBulk]
          omega
    · rename_i fs hu
      simp only [hu] at ht
      rw [Bool.and_eq_true] at hok
      obtain ⟨hf, hsz⟩ := hok
      rw [ht'] at hsz
      simp only [beq_iff_eq] at hsz
      obtain ⟨xs, m, rfl, rfl, hcl, hxl, hread⟩ := DataW.trod_struct hu h
      obtain ⟨x, hx, hbk, hux⟩ := fields_read (cs := cs) (fun t τ cs y h1 h2 h3 => trod_read d m t τ cs y h1 h2 h3) fs.toList xs 0 τ ht hf (by simpa using hcl.trans hsz) (by simpa using hxl) (fun i f hf => hread i f (by simpa using hf))
      refine ⟨x, by simpa using hx, ?_, hux⟩
      simp only [Rows.uptoBulk]
      omega
    · cases hok

end Go.Proofs.YthhllkiefncbnaaDoorSim
