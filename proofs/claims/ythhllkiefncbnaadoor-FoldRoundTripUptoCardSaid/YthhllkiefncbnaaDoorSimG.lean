/- The operations that turn the state. -/
import Derived.Test.YthhllkiefncbnaaDoorSimF
namespace Go.Proofs.YthhllkiefncbnaaDoorSim
open Go
set_option linter.unusedVariables false
set_option linter.unusedSimpArgs false

variable {P : Program} {g g' : Gh} {w w' : World} {st : St} {b : Nat → Bool} {m : Nat}

def nextVal : Next → Option Value
  | .value v => some v
  | .skip => some undef
  | _ => none

/-- A piece of the machine's work that turns the state as the interpreter says. -/
def StOk (P : Program) (g : Gh) (b : Nat → Bool) (st : St) (w : World) (s : Sem Next) (pv : PV) (st' : St) (b' : Nat → Bool) : Prop :=
  ∃ n w' g' v, s.run P w = .ok n w' ∧ nextVal n = some v ∧ RelPV g' w' pv v ∧ belowPV b' st'.objs.length pv = true ∧ Inv g' b' st' w' ∧ Ext b st.objs.length g w g' w'

theorem Inv.mono_b {b' : Nat → Bool} (hb : ∀ t, b t = true → b' t = true) (hi : Inv g b st w) : Inv g b' st w :=
  { hi with below := fun o x h => belowObj.mono hb (Nat.le_refl _) (hi.below o x h), lt := fun t h => hb t (hi.lt t h) }

theorem unprot_new (hi : Inv g b st w) (off : Nat) : ¬ g.prot w.heap.size off := fun h => by have := hi.protEx _ _ h; omega

theorem more_phi (n blk : Nat) (mr : Nat × Nat) : (g.more n blk mr).phi n = blk := by simp [Gh.more]
theorem more_mrow (n blk : Nat) (mr : Nat × Nat) : (g.more n blk mr).mrow n = mr := by simp [Gh.more]

/-- A new box. -/
theorem newBox_ok (hi : Inv g b st w) {cs : List C} {vs : List Value} {ty : TypeId} (hr : All2 (RelC g w) cs vs) (hb : ∀ x ∈ cs, belowC b st.objs.length x = true) :
    Inv (g.more st.objs.length w.heap.size (0, 0)) b (addObj st (.cells cs)) (w.alloc (.cells vs.toArray ty)) := by
  have he := ext_more hi (.cells vs.toArray ty) (0, 0)
  refine hi.newObj _ _ _ ⟨fun off h => unprot_new hi off (by simpa [more_phi, Gh.more] using h), vs, ty, ?_, RelCs.mono he hb hr⟩ (fun x hx => belowC.mono (fun _ h => h) (by omega) (hb x hx))
  rw [more_phi]; exact heap_alloc_new w _

theorem newArr_ok (hi : Inv g b st w) {t : TypeId} {cs : List C} {vs : List Value} {ty : TypeId} (hr : All2 (RelC g w) cs vs) (hb : ∀ x ∈ cs, belowC b st.objs.length x = true) :
    ∃ mr, Inv (g.more st.objs.length w.heap.size mr) b (addObj st (objOf P t cs)) (w.alloc (.cells vs.toArray ty)) := by
  unfold objOf
  cases h : rowOf P t cs with
  | none => exact ⟨_, newBox_ok hi hr hb⟩
  | some x =>
    unfold rowOf at h
    split at h
    · rename_i n e hu
      split at h
      · rename_i hn
        split at h
        · rename_i τ hτ
          split at h
          · rename_i hz
            rw [Option.map_eq_some_iff] at h
            obtain ⟨l, hl, rfl⟩ := h
            obtain ⟨e1, e2, e3⟩ := arrElems_rel n cs l vs hl hr
            have he := ext_more hi (.cells vs.toArray ty) (l.length, l.length)
            refine ⟨(l.length, l.length), hi.newObj _ _ _ ⟨fun _ off h => unprot_new hi off (by simpa [more_phi, Gh.more] using h), (fun h => by cases h), vs, ty, (0, 0), l.length, ?_, (fun h => by simp at h), more_mrow _ _ _, Nat.le_refl _, by simp [maxL]; omega,
              RowR.mono (fun x cs => RelD.mono he.prot he.cells τ x cs) (show RowR (RelD w g.prot τ) τ.size l vs from ⟨by rw [e1, e2]; exact Nat.le_refl _, e3⟩)⟩ trivial⟩
            rw [more_phi]; exact heap_alloc_new w _
          · cases h
        · cases h
      · cases h
    · cases h

theorem alloc_ok (hi : Inv g b st w) {t : TypeId} {cs : List C} (h : zeroCells P t = some cs) :
    StOk P g b st w (do pure (.value (← Instr.alloc t true (.tuple #[])))) (.c (.ptr st.objs.length 0)) (addObj st (objOf P t cs)) b := by
  obtain ⟨z, hz, hr, hb⟩ := zeroCells_run (g := g) (w := w) (b := b) (m := st.objs.length) h
  obtain ⟨mr, hnew⟩ := newArr_ok (P := P) (t := t) (ty := t) hi hr hb
  refine ⟨.value (.pointer (some ⟨w.heap.size, 0, none⟩)), w.alloc (.cells z.cells t), _, _, ?_, rfl, ?_, ?_, hnew, ext_more hi _ _⟩
  · simp [Instr.alloc, hz, newVar, newRow]
  · simp [RelPV, RelC, more_phi]
  · simp [belowPV, belowC, addObj]

theorem box_ok (hi : Inv g b st w) {t : TypeId} {x : PV} {u : Value} {cs : List C} {n : Nat} (h : x.cells = some cs) (hn : sizeT P t = some n) (hx : RelPV g w x u) (hb : belowPV b st.objs.length x = true) :
    StOk P g b st w (do pure (.value (← Instr.box t u))) (.c (.ptr st.objs.length 0)) (addObj st (objOf P t cs)) b := by
  obtain ⟨hr, hbb⟩ := cells_rel h hx hb
  obtain ⟨mr, hnew⟩ := newArr_ok (P := P) (t := t) (ty := t) hi hr hbb
  refine ⟨.value (.pointer (some ⟨w.heap.size, 0, none⟩)), w.alloc (.cells u.cells t), _, _, ?_, rfl, ?_, ?_, hnew, ext_more hi _ _⟩
  · simp [Instr.box, newVar, newRow]
  · simp [RelPV, RelC, more_phi]
  · simp [belowPV, belowC, addObj]

/-! ### Stores -/
theorem placeAt_eq {α : Type} : ∀ (xs cs : List α) (off : Nat), off + xs.length ≤ cs.length → placeAt cs off xs = cs.take off ++ xs ++ cs.drop (off + xs.length)
  | [], cs, off, _ => by simp [placeAt]
  | x :: xs, cs, off, h => by
    simp only [placeAt]
    rw [placeAt_eq xs (cs.set off x) (off + 1) (by simp at h ⊢; omega)]
    have e1 : (cs.set off x).take (off + 1) = cs.take off ++ [x] := by
      rw [List.take_add_one]
      simp only [List.length_cons] at h
      rw [List.take_set_of_le (Nat.le_refl _)]
      simp [show off < cs.length by omega]
    have e2 : (cs.set off x).drop (off + 1 + xs.length) = cs.drop (off + (xs.length + 1)) := by
      rw [List.drop_set_of_lt (by omega)]; congr 1; omega
    rw [e1, e2]; simp

theorem run_storeCells_fr (k o : Nat) (t : TypeId) (fr : Nat × Nat) : ∀ (vs : List Value) (i : Nat) (cur : Array Value) (w : World), w.heap[k]? = some (.cells cur t fr) → (fr.1 < fr.2 → cur.size ≤ fr.1) → o + i + vs.length ≤ cur.size → (∀ v ∈ vs, v.oneCell' = true) →
    (storeCells ⟨k, o, none⟩ vs i).run P w = .ok () (w.setRow k (cur.toList.take (o + i) ++ vs ++ cur.toList.drop (o + i + vs.length)).toArray)
  | [], i, cur, w, hg, _, _, _ => by
    simp only [storeCells, List.append_nil, List.length_nil, Nat.add_zero, List.take_append_drop, Array.toArray_toList]
    rw [setRow_self w k cur t fr hg]
    rfl
  | v :: rest, i, cur, w, hg, hf, hl, h1 => by
    have hi : o + i < cur.size := by simp at hl; omega
    have hcell : w.cell? ⟨k, o + i, none⟩ = some cur[o + i] := by simp [World.cell?, hg, hi]
    have hfro : w.frozen? ⟨k, o + i, none⟩ = false := by
      obtain ⟨lo, hi'⟩ := fr
      simp only [World.frozen?, hg, Bool.and_eq_false_iff, decide_eq_false_iff_not]
      simp only at hf
      by_cases q : lo < hi'
      · have := hf q; left; omega
      · by_cases q2 : lo ≤ o + i
        · right; omega
        · left; exact q2
    have hst : (store ((⟨k, o, none⟩ : Addr).add i) v).run P w = .ok () (w.setRow k (cur.setIfInBounds (o + i) v)) := by
      rw [add_none, run_store P w _ v _ (h1 v (by simp)), hcell]
      simp [hfro, setCell_eq_setRow w k (o + i) cur t fr v hg]
    have ih := run_storeCells_fr k o t fr rest (i + 1) (cur.setIfInBounds (o + i) v) (w.setRow k (cur.setIfInBounds (o + i) v)) (setRow_heap w k cur _ t _ hg) (by simpa using hf) (by simp at hl ⊢; omega) (fun x hx => h1 x (by simp [hx]))
    simp only [storeCells, Sem.run_bind, hst, Result.andThen_ok, ih, setRow_setRow]
    congr 3
    have e := list_seg_step cur.toList (o + i) v rest (by simp at hl ⊢; omega)
    simpa [Array.toList_setIfInBounds, Nat.add_assoc] using e

theorem RelCs.one {cs : List C} {vs : List Value} (h : All2 (RelC g w) cs vs) : ∀ v ∈ vs, v.oneCell' = true := fun v hv => by
  obtain ⟨i, hi⟩ := List.mem_iff_getElem?.1 hv
  obtain ⟨x, _, r⟩ := h.get' i v hi
  exact RelC.one r

theorem storePtr_ok (hi : Inv g b st w) {t : TypeId} {x : PV} {u ua : Value} {o off n : Nat} {cs xs : List C} (ho : st.objs[o]? = some (.cells cs)) (hx : x.cells = some xs) (hn : sizeT P t = some n)
    (hl : xs.length = n) (hle : off + n ≤ cs.length) (hr : RelPV g w x u) (hb : belowPV b st.objs.length x = true) (ha : RelPV g w (.c (.ptr o off)) ua) :
    StOk P g b st w (do Instr.storeAt t ua u; pure .skip) .any (setObj st o (.cells (placeAt cs off xs))) b := by
  obtain ⟨hxr, hxb⟩ := cells_rel hx hr hb
  have holt := (List.getElem?_eq_some_iff.1 ho).1
  obtain ⟨hnp, vs, ty, hh, hcs⟩ := hi.objs o _ ho
  have hbl := hi.below o _ ho
  have hul : u.cells.toList.length = n := by rw [← hl, hxr.length]
  have hrun := run_storeCells_fr (P := P) (g.phi o) off ty (0, 0) u.cells.toList 0 vs.toArray w hh (by simp) (by have := hcs.length; simp at hul; simp; omega) (RelCs.one hxr)
  have hnew : All2 (RelC g w) (placeAt cs off xs) (vs.take off ++ u.cells.toList ++ vs.drop (off + u.cells.toList.length)) := by
    rw [placeAt_eq xs cs off (by omega), hul, hl]
    exact ((hcs.take off).append hxr).append (hcs.drop _)
  obtain ⟨W, hW⟩ : ∃ W, W = w.setRow (g.phi o) (vs.take off ++ u.cells.toList ++ vs.drop (off + u.cells.toList.length)).toArray := ⟨_, rfl⟩
  have hWh : W.heap[g.phi o]? = some (.cells (vs.take off ++ u.cells.toList ++ vs.drop (off + u.cells.toList.length)).toArray ty (0, 0)) := by rw [hW]; exact setRow_heap w _ _ _ ty _ hh
  have hother : ∀ k, k ≠ g.phi o → W.heap[k]? = w.heap[k]? := fun k hk => by rw [hW]; exact setRow_other w _ k _ hk
  have hsz' : W.heap.size = w.heap.size := by rw [hW]; simp
  have hcells : ∀ k off', g.prot k off' → W.cell? ⟨k, off', none⟩ = w.cell? ⟨k, off', none⟩ := fun k off' hk => World.cell?_of_block (hother k (fun e => hnp off' (e ▸ hk)))
  have he : Ext b st.objs.length g w g W :=
    { os := by rw [hW]; rfl, tape := by rw [hW]; rfl, output := by rw [hW]; rfl, size := by omega, hid := fun _ h => h, hidden := fun k hk => hother k (fun e => hi.ohid o ⟨_, ho, trivial⟩ (e ▸ hk)),
      cells := hcells, prot := fun _ _ h => h, newp := fun _ _ _ h => h, phi := fun _ _ => rfl, mrow := fun _ _ => rfl, tok := fun _ _ => .inl rfl }
  have hbn : ∀ y ∈ placeAt cs off xs, belowC b st.objs.length y = true := fun y hy => by
    rcases placeAt_mem _ _ _ y hy with h | h
    · exact hbl y h
    · exact hxb y h
  obtain ⟨h1, h2⟩ := hi.putObj (x := .cells (placeAt cs off xs)) ⟨_, ho, trivial⟩ he.os he.tape he.output hsz' hother
    ⟨hnp, _, ty, hWh, RelCs.mono he hbn hnew⟩ hbn hnp
  refine ⟨.skip, W, g, undef, ?_, rfl, trivial, rfl, h1, h2⟩
  rw [show ua = _ from ha]
  have hsz : ¬ (u.cells.size ≠ n) := by simpa using hul
  simp only [Instr.storeAt, Instr.sureAddr, storeVar, Sem.run_bind, Sem.run_pure, Result.andThen_ok, run_sizeT hn, hsz, if_false]
  simp only [Nat.add_zero] at hrun
  rw [hrun, hW]
  rfl

theorem take_set_drop {α : Type} (vs : List α) (off n i : Nat) (u : α) (h1 : off + n ≤ vs.length) (h2 : i < n) :
    vs.take off ++ ((vs.drop off).take n).set i u ++ vs.drop (off + n) = vs.set (off + i) u := by
  have e1 : vs = vs.take off ++ ((vs.drop off).take n ++ (vs.drop off).drop n) := by rw [List.take_append_drop, List.take_append_drop]
  conv => rhs; rw [e1]
  rw [List.set_append_right _ _ (by simp; omega), List.set_append_left _ _ (by simp; omega), List.append_assoc]
  rw [show off + i - (vs.take off).length = i by simp; omega, List.drop_drop]

/-- A store into an array of integers. -/
theorem storeA_ok (hi : Inv g b st w) {t : TypeId} {u ua : Value} {o off n i : Nat} {k : IntKind} {v : Int} {cs : List C} {l : List Int} (ho : st.objs[o]? = some (.cells cs)) (hn : sizeT P t = some 1)
    (hl : arrInts k ((cs.drop off).take n) = some l) (hle : off + n ≤ cs.length) (hlt : i < n) (hr : RelC g w (.int k v) u) (ha : RelPV g w (.c (.aptr o off n i k)) ua) :
    StOk P g b st w (do Instr.storeAt t ua u; pure .skip) .any (setObj st o (.cells (placeAt cs off (setInts k l i v 0 n)))) b := by
  have holt := (List.getElem?_eq_some_iff.1 ho).1
  obtain ⟨hnp, vs, ty, hh, hcs⟩ := hi.objs o _ ho
  have hbl := hi.below o _ ho
  obtain ⟨rfl, hwf⟩ := hr
  have hvl := hcs.length
  obtain ⟨e1, e2⟩ := arrInts_rel hl ((hcs.drop off).take n)
  have hln : l.length = n := by rw [e1]; simp; omega
  have hrun := run_storeCells_fr (P := P) (g.phi o) (off + i) ty (0, 0) [Value.int k v] 0 vs.toArray w hh (by simp) (by simp; omega) (by intro x hx; simp at hx; subst hx; rfl)
  have hnew : All2 (RelC g w) (placeAt cs off (setInts k l i v 0 n)) (vs.take (off + i) ++ [Value.int k v] ++ vs.drop (off + i + [Value.int k v].length)) := by
    rw [placeAt_eq _ cs off (by rw [setInts_length]; omega), setInts_length]
    have hs := setInts_rel (g := g) (w := w) (show i < l.length by omega) hwf e2 n 0 (by omega) e1
    rw [List.drop_zero] at hs
    have := ((hcs.take off).append hs).append (hcs.drop (off + n))
    rw [take_set_drop vs off n i _ (by omega) hlt, List.set_eq_take_append_cons_drop, if_pos (by omega)] at this
    simpa using this
  obtain ⟨W, hW⟩ : ∃ W, W = w.setRow (g.phi o) (vs.take (off + i) ++ [Value.int k v] ++ vs.drop (off + i + [Value.int k v].length)).toArray := ⟨_, rfl⟩
  have hWh : W.heap[g.phi o]? = some (.cells (vs.take (off + i) ++ [Value.int k v] ++ vs.drop (off + i + [Value.int k v].length)).toArray ty (0, 0)) := by rw [hW]; exact setRow_heap w _ _ _ ty _ hh
  have hother : ∀ k, k ≠ g.phi o → W.heap[k]? = w.heap[k]? := fun k hk => by rw [hW]; exact setRow_other w _ k _ hk
  have hsz' : W.heap.size = w.heap.size := by rw [hW]; simp
  have hcells : ∀ k off', g.prot k off' → W.cell? ⟨k, off', none⟩ = w.cell? ⟨k, off', none⟩ := fun k off' hk => World.cell?_of_block (hother k (fun e => hnp off' (e ▸ hk)))
  have he : Ext b st.objs.length g w g W :=
    { os := by rw [hW]; rfl, tape := by rw [hW]; rfl, output := by rw [hW]; rfl, size := by omega, hid := fun _ h => h, hidden := fun k hk => hother k (fun e => hi.ohid o ⟨_, ho, trivial⟩ (e ▸ hk)),
      cells := hcells, prot := fun _ _ h => h, newp := fun _ _ _ h => h, phi := fun _ _ => rfl, mrow := fun _ _ => rfl, tok := fun _ _ => .inl rfl }
  have hbs : ∀ (n j : Nat), ∀ y ∈ setInts k l i v j n, belowC b st.objs.length y = true := by
    intro n
    induction n with
    | zero => intro j y hy; simp [setInts] at hy
    | succ n ih =>
      intro j y hy
      simp only [setInts, List.mem_cons] at hy
      rcases hy with rfl | hy
      · rfl
      · exact ih _ y hy
  have hbn : ∀ y ∈ placeAt cs off (setInts k l i v 0 n), belowC b st.objs.length y = true := fun y hy => by
    rcases placeAt_mem _ _ _ y hy with h | h
    · exact hbl y h
    · exact hbs _ _ y h
  obtain ⟨h1, h2⟩ := hi.putObj (x := .cells (placeAt cs off (setInts k l i v 0 n))) ⟨_, ho, trivial⟩ he.os he.tape he.output hsz' hother
    ⟨hnp, _, ty, hWh, RelCs.mono he hbn hnew⟩ hbn hnp
  refine ⟨.skip, W, g, undef, ?_, rfl, trivial, rfl, h1, h2⟩
  rw [show ua = _ from ha]
  have hsz : ¬ ((Value.int k v).cells.size ≠ 1) := by simp [Value.cells]
  simp only [Instr.storeAt, Instr.sureAddr, storeVar, Sem.run_bind, Sem.run_pure, Result.andThen_ok, run_sizeT hn, hsz, if_false]
  simp only [Nat.add_zero] at hrun
  have hcl : (Value.int k v).cells.toList = [Value.int k v] := rfl
  rw [hcl]
  rw [hrun, hW]
  rfl

/-- One element of a row is turned. -/
theorem RowR.set {α : Type} {R : α → List Value → Prop} {sz : Nat} {l : List α} {vs us : List Value} {i : Nat} {y : α} (h : RowR R sz l vs) (hlt : i < l.length) (hy : R y us) (hu : us.length = sz) :
    RowR R sz (l.set i y) (vs.take (i * sz) ++ us ++ vs.drop (i * sz + us.length)) := by
  have hle : i * sz + sz ≤ vs.length := by
    have : (i + 1) * sz ≤ l.length * sz := Nat.mul_le_mul_right _ (by omega)
    rw [Nat.add_mul] at this
    have := h.1
    omega
  have hlen : (vs.take (i * sz) ++ us ++ vs.drop (i * sz + us.length)).length = vs.length := by simp; omega
  refine ⟨by rw [hlen, List.length_set]; exact h.1, fun j x hx => ?_⟩
  rw [List.getElem?_set] at hx
  by_cases e : i = j
  · subst e
    rw [if_pos rfl, if_pos hlt] at hx
    cases hx
    have : ((vs.take (i * sz) ++ us ++ vs.drop (i * sz + us.length)).drop (i * sz)).take sz = us := by
      rw [List.append_assoc, List.drop_append_of_le_length (by simp; omega)]
      rw [List.drop_eq_nil_of_le (by simp; omega), List.nil_append, ← hu, List.take_left]
    rw [this]; exact hy
  · rw [if_neg e] at hx
    have hq := h.2 j x hx
    have : ((vs.take (i * sz) ++ us ++ vs.drop (i * sz + us.length)).drop (j * sz)).take sz = (vs.drop (j * sz)).take sz := by
      apply List.ext_getElem?
      intro q
      rw [List.getElem?_take, List.getElem?_take]
      split
      · rename_i hq
        rw [List.getElem?_drop, List.getElem?_drop]
        rcases Nat.lt_or_gt_of_ne e with h' | h'
        · have : (i + 1) * sz ≤ j * sz := Nat.mul_le_mul_right _ (by omega)
          rw [Nat.add_mul] at this
          rw [List.getElem?_append_right (by simp; omega), List.getElem?_drop]
          congr 1
          simp; omega
        · have : (j + 1) * sz ≤ i * sz := Nat.mul_le_mul_right _ (by omega)
          rw [Nat.add_mul] at this
          rw [List.append_assoc, List.getElem?_append_left (by simp; omega), List.getElem?_take]
          rw [if_pos (by omega)]
      · rfl
    rw [this]; exact hq

theorem storeE_ok (hi : Inv g b st w) {t : TypeId} {x : PV} {u ua : Value} {o i n : Nat} {τ : Ty} {l : List τ.den} {y : τ.den} {xs : List C} (ho : st.objs[o]? = some (.row τ l false)) (hx : x.cells = some xs)
    (hn : sizeT P t = some n) (hnz : n = τ.size) (hy : ofCells τ xs = some (y, [])) (hlt : i < l.length) (hr : RelPV g w x u) (hb : belowPV b st.objs.length x = true) (ha : RelPV g w (.c (.eptr o i n)) ua) :
    StOk P g b st w (do Instr.storeAt t ua u; pure .skip) .any (setObj st o (.row τ (l.set i y) false)) b := by
  subst hnz
  obtain ⟨hxr, hxb⟩ := cells_rel hx hr hb
  obtain ⟨v1, v2, e, hyr, hnil⟩ := ofCells_rel τ xs y [] u.cells.toList hy hxr
  have hv2 : v2 = [] := by cases v2 with
    | nil => rfl
    | cons => exact hnil.elim
  subst hv2
  simp only [List.append_nil] at e
  have holt := (List.getElem?_eq_some_iff.1 ho).1
  obtain ⟨hnp, _, vs, ty, fr, cap, hh, hfr, hm, hc1, hc2, hrow⟩ := hi.objs o _ ho
  have hnp := hnp rfl
  have hul : u.cells.toList.length = τ.size := by rw [e]; exact RelD.length τ y v1 hyr
  have hle : i * τ.size + τ.size ≤ vs.length := by
    have : (i + 1) * τ.size ≤ l.length * τ.size := Nat.mul_le_mul_right _ (by omega)
    rw [Nat.add_mul] at this
    have := hrow.1
    omega
  have hrun := run_storeCells_fr (P := P) (g.phi o) (i * τ.size) ty fr u.cells.toList 0 vs.toArray w hh (by simpa using hfr) (by simp at hul; simp; omega) (RelCs.one hxr)
  have hnew := hrow.set (i := i) (y := y) (us := u.cells.toList) hlt (by rw [e]; exact hyr) hul
  obtain ⟨W, hW⟩ : ∃ W, W = w.setRow (g.phi o) (vs.take (i * τ.size) ++ u.cells.toList ++ vs.drop (i * τ.size + u.cells.toList.length)).toArray := ⟨_, rfl⟩
  have hWh : W.heap[g.phi o]? = some (.cells (vs.take (i * τ.size) ++ u.cells.toList ++ vs.drop (i * τ.size + u.cells.toList.length)).toArray ty fr) := by rw [hW]; exact setRow_heap w _ _ _ ty _ hh
  have hother : ∀ k, k ≠ g.phi o → W.heap[k]? = w.heap[k]? := fun k hk => by rw [hW]; exact setRow_other w _ k _ hk
  have hsz' : W.heap.size = w.heap.size := by rw [hW]; simp
  have hcells : ∀ k off', g.prot k off' → W.cell? ⟨k, off', none⟩ = w.cell? ⟨k, off', none⟩ := fun k off' hk => World.cell?_of_block (hother k (fun e => hnp off' (e ▸ hk)))
  have hlv : (vs.take (i * τ.size) ++ u.cells.toList ++ vs.drop (i * τ.size + u.cells.toList.length)).length = vs.length := by
    rw [hul]; simp only [List.length_append, List.length_take, List.length_drop, hul]; omega
  obtain ⟨h1, h2⟩ := hi.putObj (x := .row τ (l.set i y) false) ⟨_, ho, trivial⟩ (by rw [hW]; rfl) (by rw [hW]; rfl) (by rw [hW]; rfl) hsz' hother
    ⟨fun _ => hnp, (fun h => by cases h), _, ty, fr, cap, hWh, fun h => by rw [hlv]; exact hfr h, by simpa using hm, by simpa using hc1, hc2,
      hnew.mono fun z zs => RelD.mono (fun _ _ h => h) hcells τ z zs⟩ trivial hnp
  refine ⟨.skip, W, g, undef, ?_, rfl, trivial, rfl, h1, h2⟩
  rw [show ua = _ from ha]
  have hsz : ¬ (u.cells.size ≠ τ.size) := by simpa using hul
  simp only [Instr.storeAt, Instr.sureAddr, storeVar, Sem.run_bind, Sem.run_pure, Result.andThen_ok, run_sizeT hn, hsz, if_false]
  simp only [Nat.add_zero] at hrun
  rw [hrun, hW]
  rfl

theorem part_list {α : Type} (vs us : List α) (a sz f : Nat) (h1 : a + sz ≤ vs.length) (h2 : f + us.length ≤ sz) :
    vs.take a ++ (((vs.drop a).take sz).take f ++ us ++ ((vs.drop a).take sz).drop (f + us.length)) ++ vs.drop (a + sz) = vs.take (a + f) ++ us ++ vs.drop (a + f + us.length) := by
  have e1 : ((vs.drop a).take sz).take f = (vs.drop a).take f := by rw [List.take_take, Nat.min_eq_left (by omega)]
  have e2 : ((vs.drop a).take sz).drop (f + us.length) ++ vs.drop (a + sz) = vs.drop (a + f + us.length) := by
    have : vs.drop (a + sz) = (vs.drop a).drop sz := by rw [List.drop_drop]
    rw [this, ← List.drop_append_of_le_length (by simp; omega), List.take_append_drop, List.drop_drop]
    congr 1; omega
  rw [e1, List.take_add]
  simp only [List.append_assoc]
  rw [e2]

/-- A part of an element of a row is turned. -/
theorem put_part {t : TypeId} {k i f n : Nat} {τ : Ty} {l : List τ.den} {y : τ.den} {vs us : List Value} {ty : TypeId} {fr : Nat × Nat} {u : Value} (hh : w.heap[k]? = some (.cells vs.toArray ty fr)) (hfr : fr.1 < fr.2 → vs.length ≤ fr.1)
    (hrow : RowR (RelD w g.prot τ) τ.size l vs) (hlt : i < l.length) (hn : sizeT P t = some n) (hu : u.cells.toList = us) (hul : us.length = n) (hone : ∀ v ∈ us, v.oneCell' = true) (hle : f + n ≤ τ.size)
    (hy : RelD w g.prot τ y (((vs.drop (i * τ.size)).take τ.size).take f ++ us ++ ((vs.drop (i * τ.size)).take τ.size).drop (f + us.length))) :
    ∃ vs', (Instr.storeAt t (.pointer (some ⟨k, i * τ.size + f, none⟩)) u).run P w = .ok () (w.setRow k vs'.toArray) ∧ vs'.length = vs.length ∧ RowR (RelD w g.prot τ) τ.size (l.set i y) vs' := by
  have hle2 : i * τ.size + τ.size ≤ vs.length := by
    have : (i + 1) * τ.size ≤ l.length * τ.size := Nat.mul_le_mul_right _ (by omega)
    rw [Nat.add_mul] at this
    have := hrow.1
    omega
  have hrun := run_storeCells_fr (P := P) k (i * τ.size + f) ty fr us 0 vs.toArray w hh (by simpa using hfr) (by simp; omega) hone
  simp only [Nat.add_zero] at hrun
  have hel : (((vs.drop (i * τ.size)).take τ.size).take f ++ us ++ ((vs.drop (i * τ.size)).take τ.size).drop (f + us.length)).length = τ.size := by
    simp only [List.length_append, List.length_take, List.length_drop]; omega
  have hnew := hrow.set hlt hy hel
  rw [hel, part_list vs us (i * τ.size) τ.size f hle2 (by omega)] at hnew
  refine ⟨_, ?_, ?_, hnew⟩
  · have hsz : ¬ (u.cells.size ≠ n) := by rw [← Array.length_toList, hu, hul]; simp
    simp only [Instr.storeAt, Instr.sureAddr, storeVar, Sem.run_bind, Sem.run_pure, Result.andThen_ok, run_sizeT hn, hsz, if_false, hu]
    rw [hrun]
  · simp only [List.length_append, List.length_take, List.length_drop]; omega

theorem storeV_aux (hi : Inv g b st w) {s : Sem Unit} {o : Nat} {τ : Ty} {l l' : List τ.den} {vs' : List Value} {cap : Nat} {ty : TypeId} {vs : List Value} (ho : st.objs[o]? = some (.vec τ l false)) (hne : l ≠ []) (hll : l'.length = l.length)
    (h0 : τ.size ≠ 0) (hnp : ∀ off, ¬ g.prot (g.phi o) off) (hm : g.mrow o = (l.length, cap)) (hh : w.heap[g.phi o]? = some (.cells vs.toArray ty (0, 0))) (hvl : vs.length = cap * τ.size) (hc1 : l.length ≤ cap) (hc2 : cap ≤ maxL)
    (hrun : s.run P w = .ok () (w.setRow (g.phi o) vs'.toArray)) (hl : vs'.length = vs.length) (hrow : RowR (RelD w g.prot τ) τ.size l' vs') :
    StOk P g b st w (do s; pure .skip) .any (setObj st o (.vec τ l' false)) b := by
  have hs : Sol st.objs o := ⟨_, ho, hne⟩
  obtain ⟨W, hW⟩ : ∃ W, W = w.setRow (g.phi o) vs'.toArray := ⟨_, rfl⟩
  rw [← hW] at hrun
  have hWh : W.heap[g.phi o]? = some (.cells vs'.toArray ty (0, 0)) := by rw [hW]; exact setRow_heap w _ _ _ ty _ hh
  have hother : ∀ k, k ≠ g.phi o → W.heap[k]? = w.heap[k]? := fun k hk => by rw [hW]; exact setRow_other w _ k _ hk
  have hcells : ∀ k off', g.prot k off' → W.cell? ⟨k, off', none⟩ = w.cell? ⟨k, off', none⟩ := fun k off' hk => World.cell?_of_block (hother k (fun e => hnp off' (e ▸ hk)))
  have hne' : l' ≠ [] := fun e => hne (List.eq_nil_of_length_eq_zero (by rw [← hll, e]; rfl))
  obtain ⟨h1, h2⟩ := hi.putObj (x := .vec τ l' false) hs (by rw [hW]; rfl) (by rw [hW]; rfl) (by rw [hW]; rfl) (by rw [hW]; simp) hother
    ⟨cap, by rw [hll]; exact hm, fun _ => ⟨h0, fun _ => hnp, (fun h => by cases h), vs', ty, hWh, by rw [hl]; exact hvl, by rw [hll]; exact hc1, hc2,
      hrow.mono fun z zs => RelD.mono (fun _ _ h => h) hcells τ z zs⟩⟩ trivial hnp
  exact ⟨.skip, W, g, undef, by simp [hrun], rfl, trivial, rfl, h1, h2⟩

theorem storeR_aux (hi : Inv g b st w) {s : Sem Unit} {o : Nat} {τ : Ty} {l l' : List τ.den} {vs' : List Value} {cap : Nat} {ty : TypeId} {fr : Nat × Nat} {vs : List Value} (ho : st.objs[o]? = some (.row τ l false)) (hll : l'.length = l.length)
    (hnp : ∀ off, ¬ g.prot (g.phi o) off) (hm : g.mrow o = (l.length, cap)) (hh : w.heap[g.phi o]? = some (.cells vs.toArray ty fr)) (hfr : fr.1 < fr.2 → vs.length ≤ fr.1) (hc1 : l.length ≤ cap) (hc2 : cap ≤ maxL)
    (hrun : s.run P w = .ok () (w.setRow (g.phi o) vs'.toArray)) (hl : vs'.length = vs.length) (hrow : RowR (RelD w g.prot τ) τ.size l' vs') :
    StOk P g b st w (do s; pure .skip) .any (setObj st o (.row τ l' false)) b := by
  have hs : Sol st.objs o := ⟨_, ho, trivial⟩
  obtain ⟨W, hW⟩ : ∃ W, W = w.setRow (g.phi o) vs'.toArray := ⟨_, rfl⟩
  rw [← hW] at hrun
  have hWh : W.heap[g.phi o]? = some (.cells vs'.toArray ty fr) := by rw [hW]; exact setRow_heap w _ _ _ ty _ hh
  have hother : ∀ k, k ≠ g.phi o → W.heap[k]? = w.heap[k]? := fun k hk => by rw [hW]; exact setRow_other w _ k _ hk
  have hcells : ∀ k off', g.prot k off' → W.cell? ⟨k, off', none⟩ = w.cell? ⟨k, off', none⟩ := fun k off' hk => World.cell?_of_block (hother k (fun e => hnp off' (e ▸ hk)))
  obtain ⟨h1, h2⟩ := hi.putObj (x := .row τ l' false) hs (by rw [hW]; rfl) (by rw [hW]; rfl) (by rw [hW]; rfl) (by rw [hW]; simp) hother
    ⟨fun _ => hnp, (fun h => by cases h), vs', ty, fr, cap, hWh, fun h => by rw [hl]; exact hfr h, by rw [hll]; exact hm, by rw [hll]; exact hc1, hc2,
      hrow.mono fun z zs => RelD.mono (fun _ _ h => h) hcells τ z zs⟩ trivial hnp
  exact ⟨.skip, W, g, undef, by simp [hrun], rfl, trivial, rfl, h1, h2⟩

/-- A placed part of an element makes an element. -/
theorem part_elem {x : PV} {u : Value} {i f n : Nat} {τ : Ty} {l : List τ.den} {y : τ.den} {xs : List C} {vs : List Value} (hx : x.cells = some xs) (hr : RelPV g w x u) (hb : belowPV b m x = true) (hxl : xs.length = n) (hle : f + n ≤ τ.size)
    (hrow : RowR (RelD w g.prot τ) τ.size l vs) (hlt : i < l.length) (hy : ofCells τ (placeAt (toCells τ (l.getD i τ.dflt)) f xs) = some (y, [])) :
    RelD w g.prot τ y (((vs.drop (i * τ.size)).take τ.size).take f ++ u.cells.toList ++ ((vs.drop (i * τ.size)).take τ.size).drop (f + u.cells.toList.length)) ∧ u.cells.toList.length = n ∧ ∀ v ∈ u.cells.toList, v.oneCell' = true := by
  obtain ⟨hxr, hxb⟩ := cells_rel hx hr hb
  have hul : u.cells.toList.length = n := by rw [← hxl, hxr.length]
  have hxd := hrow.2 i _ (getD_get (d := τ.dflt) hlt)
  have hcs := toCells_rel (g := g) τ _ _ hxd
  have hcl : (toCells τ (l.getD i τ.dflt)).length = τ.size := by rw [hcs.length]; exact RelD.length τ _ _ hxd
  have hnew : All2 (RelC g w) (placeAt (toCells τ (l.getD i τ.dflt)) f xs) (((vs.drop (i * τ.size)).take τ.size).take f ++ u.cells.toList ++ ((vs.drop (i * τ.size)).take τ.size).drop (f + u.cells.toList.length)) := by
    rw [placeAt_eq xs _ f (by rw [hcl]; omega), hul, hxl]
    exact ((hcs.take f).append hxr).append (hcs.drop _)
  obtain ⟨v1, v2, e, hyr, hnil⟩ := ofCells_rel τ _ y [] _ hy hnew
  have hv2 : v2 = [] := by cases v2 with
    | nil => rfl
    | cons => exact hnil.elim
  subst hv2
  simp only [List.append_nil] at e
  exact ⟨e ▸ hyr, hul, RelCs.one hxr⟩

/-- A part of an element is stored. -/
theorem storeF_ok (hi : Inv g b st w) {t : TypeId} {x : PV} {u ua : Value} {o i f n : Nat} {τ : Ty} {l : List τ.den} {y : τ.den} {xs : List C} (ho : st.objs[o]? = some (.row τ l false)) (hx : x.cells = some xs)
    (hn : sizeT P t = some n) (hxl : xs.length = n) (hle : f + n ≤ τ.size) (hy : ofCells τ (placeAt (toCells τ (l.getD i τ.dflt)) f xs) = some (y, [])) (hlt : i < l.length) (hr : RelPV g w x u) (hb : belowPV b st.objs.length x = true)
    (ha : ua = .pointer (some ⟨g.phi o, i * τ.size + f, none⟩)) :
    StOk P g b st w (do Instr.storeAt t ua u; pure .skip) .any (setObj st o (.row τ (l.set i y) false)) b := by
  obtain ⟨hnp, _, vs, ty, fr, cap, hh, hfr, hm, hc1, hc2, hrow⟩ := hi.objs o _ ho
  have hnp := hnp rfl
  obtain ⟨e1, e2, e3⟩ := part_elem hx hr hb hxl hle hrow hlt hy
  obtain ⟨vs', hrun, hl, hrow'⟩ := put_part (P := P) (t := t) hh hfr hrow hlt hn rfl e2 e3 hle e1
  rw [ha]
  exact storeR_aux hi ho (by simp) hnp hm hh hfr hc1 hc2 hrun hl hrow'

theorem storeVF_ok (hi : Inv g b st w) {t : TypeId} {x : PV} {u ua : Value} {o i f n : Nat} {τ : Ty} {l : List τ.den} {y : τ.den} {xs : List C} (ho : st.objs[o]? = some (.vec τ l false)) (hx : x.cells = some xs)
    (hn : sizeT P t = some n) (hxl : xs.length = n) (hle : f + n ≤ τ.size) (hy : ofCells τ (placeAt (toCells τ (l.getD i τ.dflt)) f xs) = some (y, [])) (hlt : i < l.length) (hr : RelPV g w x u) (hb : belowPV b st.objs.length x = true)
    (ha : ua = .pointer (some ⟨g.phi o, i * τ.size + f, none⟩)) :
    StOk P g b st w (do Instr.storeAt t ua u; pure .skip) .any (setObj st o (.vec τ (l.set i y) false)) b := by
  have hne : l ≠ [] := fun e => by rw [e] at hlt; simp at hlt
  obtain ⟨cap, hm, hob⟩ := hi.objs o _ ho
  obtain ⟨h0, hnp, _, vs, ty, hh, hvl, hc1, hc2, hrow⟩ := hob hne
  have hnp := hnp rfl
  obtain ⟨e1, e2, e3⟩ := part_elem hx hr hb hxl hle hrow hlt hy
  obtain ⟨vs', hrun, hl, hrow'⟩ := put_part (P := P) (t := t) hh (by simp) hrow hlt hn rfl e2 e3 hle e1
  rw [ha]
  exact storeV_aux hi ho hne (by simp) h0 hnp hm hh hvl hc1 hc2 hrun hl hrow'

theorem toCells_length : ∀ (τ : Ty) (x : τ.den), (toCells τ x).length = τ.size
  | .int _, _ => rfl
  | .bool, _ => rfl
  | .str, _ => rfl
  | .unit, _ => rfl
  | .slice _, _ => rfl
  | .pair a b, x => by simp [toCells, Ty.size, toCells_length a, toCells_length b]

/-- One element of a slice that is appended to is stored. -/
theorem storeVE_ok (hi : Inv g b st w) {t : TypeId} {x : PV} {u ua : Value} {o i n : Nat} {τ : Ty} {l : List τ.den} {y : τ.den} {xs : List C} (ho : st.objs[o]? = some (.vec τ l false)) (hx : x.cells = some xs)
    (hn : sizeT P t = some n) (hxl : xs.length = n) (hnz : n = τ.size) (hy : ofCells τ xs = some (y, [])) (hlt : i < l.length) (hr : RelPV g w x u) (hb : belowPV b st.objs.length x = true)
    (ha : ua = .pointer (some ⟨g.phi o, i * n, none⟩)) :
    StOk P g b st w (do Instr.storeAt t ua u; pure .skip) .any (setObj st o (.vec τ (l.set i y) false)) b := by
  refine storeVF_ok (f := 0) hi ho hx hn hxl (by omega) ?_ hlt hr hb (by rw [ha, hnz]; rfl)
  rw [placeAt_eq xs _ 0 (by rw [toCells_length]; omega), List.drop_eq_nil_of_le (by rw [toCells_length]; omega)]
  simpa using hy

/-- A whole array is stored. -/
theorem storeW_ok (hi : Inv g b st w) {t : TypeId} {x : PV} {u ua : Value} {o n m : Nat} {τ : Ty} {l l' : List τ.den} {xs : List C} (ho : st.objs[o]? = some (.row τ l false)) (hx : x.cells = some xs)
    (hn : sizeT P t = some n) (hxl : xs.length = n) (hy : arrElems τ m xs = some l') (hlm : l.length = m) (hr : RelPV g w x u) (hb : belowPV b st.objs.length x = true) (ha : RelPV g w (.c (.ptr o 0)) ua) :
    StOk P g b st w (do Instr.storeAt t ua u; pure .skip) .any (setObj st o (.row τ l' false)) b := by
  obtain ⟨hxr, hxb⟩ := cells_rel hx hr hb
  obtain ⟨q1, q2, q3⟩ := arrElems_rel m xs l' u.cells.toList hy hxr
  have holt := (List.getElem?_eq_some_iff.1 ho).1
  obtain ⟨hnp, _, vs, ty, fr, cap, hh, hfr, hm, hc1, hc2, hrow⟩ := hi.objs o _ ho
  have hnp := hnp rfl
  have hul : u.cells.toList.length = n := by rw [← hxl, hxr.length]
  have hle : n ≤ vs.length := by
    have := hrow.1
    rw [hlm, ← q2, hul] at this
    exact this
  have hrun := run_storeCells_fr (P := P) (g.phi o) 0 ty fr u.cells.toList 0 vs.toArray w hh (by simpa using hfr) (by simp at hul; simp; omega) (RelCs.one hxr)
  simp only [Nat.add_zero, Nat.zero_add, List.take_zero, List.nil_append] at hrun
  have hnew : RowR (RelD w g.prot τ) τ.size l' (u.cells.toList ++ vs.drop u.cells.toList.length) := by
    refine ⟨by rw [List.length_append, q1, q2]; omega, fun i z hz => ?_⟩
    have hlt : i < l'.length := (List.getElem?_eq_some_iff.1 hz).1
    have hb : i * τ.size + τ.size ≤ u.cells.toList.length := by
      have : (i + 1) * τ.size ≤ m * τ.size := Nat.mul_le_mul_right _ (by omega)
      rw [Nat.add_mul] at this
      omega
    rw [List.drop_append_of_le_length (by omega), List.take_append_of_le_length (by simp; simp at hb; omega)]
    exact q3 i z hz
  obtain ⟨W, hW⟩ : ∃ W, W = w.setRow (g.phi o) (u.cells.toList ++ vs.drop u.cells.toList.length).toArray := ⟨_, rfl⟩
  have hWh : W.heap[g.phi o]? = some (.cells (u.cells.toList ++ vs.drop u.cells.toList.length).toArray ty fr) := by rw [hW]; exact setRow_heap w _ _ _ ty _ hh
  have hother : ∀ k, k ≠ g.phi o → W.heap[k]? = w.heap[k]? := fun k hk => by rw [hW]; exact setRow_other w _ k _ hk
  have hsz' : W.heap.size = w.heap.size := by rw [hW]; simp
  have hcells : ∀ k off', g.prot k off' → W.cell? ⟨k, off', none⟩ = w.cell? ⟨k, off', none⟩ := fun k off' hk => World.cell?_of_block (hother k (fun e => hnp off' (e ▸ hk)))
  have hlv : (u.cells.toList ++ vs.drop u.cells.toList.length).length = vs.length := by
    rw [List.length_append, List.length_drop]; omega
  obtain ⟨h1, h2⟩ := hi.putObj (x := .row τ l' false) ⟨_, ho, trivial⟩ (by rw [hW]; rfl) (by rw [hW]; rfl) (by rw [hW]; rfl) hsz' hother
    ⟨fun _ => hnp, (fun h => by cases h), _, ty, fr, cap, hWh, fun h => by rw [hlv]; exact hfr h, by rw [q1, ← hlm]; exact hm, by rw [q1, ← hlm]; exact hc1, hc2,
      hnew.mono fun z zs => RelD.mono (fun _ _ h => h) hcells τ z zs⟩ trivial hnp
  refine ⟨.skip, W, g, undef, ?_, rfl, trivial, rfl, h1, h2⟩
  rw [show ua = _ from ha]
  have hsz : ¬ (u.cells.size ≠ n) := by simpa using hul
  simp only [Instr.storeAt, Instr.sureAddr, storeVar, Sem.run_bind, Sem.run_pure, Result.andThen_ok, run_sizeT hn, hsz, if_false]
  rw [hrun, hW]
  rfl

end Go.Proofs.YthhllkiefncbnaaDoorSim
