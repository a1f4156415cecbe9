/- One operation that touches no state. -/
import Derived.Test.YthhllkiefncbnaaDoorSimD
namespace Go.Proofs.YthhllkiefncbnaaDoorSim
open Go
set_option linter.unusedVariables false
set_option linter.unusedSimpArgs false

variable {P : Program} {g : Gh} {w : World} {st : St} {b : Nat → Bool} {m : Nat}

theorem cells_rel {x : PV} {v : Value} {cs : List C} (h : x.cells = some cs) (hr : RelPV g w x v) (hb : belowPV b m x = true) :
    All2 (RelC g w) cs v.cells.toList ∧ (∀ y ∈ cs, belowC b m y = true) := by
  cases x with
  | any => cases h
  | c y =>
    cases h
    have h1 := RelC.one hr
    have e : v.cells = #[v] := by cases v <;> first | rfl | (simp [Value.oneCell'] at h1)
    rw [e]
    exact ⟨⟨hr, trivial⟩, by intro z hz; simp at hz; subst hz; exact hb⟩
  | agg cs' =>
    cases h
    obtain ⟨vs, rfl, hr⟩ := hr
    exact ⟨hr, by simpa [belowPV] using hb⟩
  | tup vs => cases h
  | rptr vs => cases h

theorem foldl_place : ∀ (us : List Value) (xs : List C) (k off : Nat) (cs : List C) (arr : Array Value), All2 (RelC g w) xs us → All2 (RelC g w) cs arr.toList →
    All2 (RelC g w) (placeAt cs (off + k) xs) ((us.zipIdx k).foldl (fun a (c, j) => a.setIfInBounds (off + j) c) arr).toList
  | [], [], k, off, cs, arr, _, h => h
  | u :: us, x :: xs, k, off, cs, arr, hx, h => by
    simp only [placeAt, List.zipIdx_cons, List.foldl_cons]
    have := foldl_place us xs (k + 1) off (cs.set (off + k) x) (arr.setIfInBounds (off + k) u) hx.2 (by rw [Array.toList_setIfInBounds]; exact h.set _ hx.1)
    rw [show off + k + 1 = off + (k + 1) by omega]
    exact this
  | [], _ :: _, _, _, _, _, h, _ => h.elim
  | _ :: _, [], _, _, _, _, h, _ => h.elim

theorem placeAt_length : ∀ (xs : List C) (cs : List C) (off : Nat), (placeAt cs off xs).length = cs.length
  | [], _, _ => rfl
  | _ :: xs, cs, off => by simp [placeAt, placeAt_length xs]

theorem placeAt_mem : ∀ (xs cs : List C) (off : Nat) (y : C), y ∈ placeAt cs off xs → y ∈ cs ∨ y ∈ xs
  | [], _, _, _, h => .inl h
  | x :: xs, cs, off, y, h => by
    rcases placeAt_mem xs _ _ y h with h | h
    · rcases List.mem_or_eq_of_mem_set h with h | h
      · exact .inl h
      · exact .inr (by simp [h])
    · exact .inr (by simp [h])

theorem fill_ok {pl : Nat → Option (Nat × Nat)} : ∀ (parts : List (Nat × PV)) (us : List (Nat × Value)) (cs out : List C) (arr : Array Value),
    fillParts pl cs parts = some out → All2 (fun p u => p.1 = u.1 ∧ RelPV g w p.2 u.2 ∧ belowPV b m p.2 = true) parts us → All2 (RelC g w) cs arr.toList → (∀ y ∈ cs, belowC b m y = true) →
    ∃ res, Instr.fill pl arr us = some res ∧ All2 (RelC g w) out res.toList ∧ ∀ y ∈ out, belowC b m y = true
  | [], [], cs, out, arr, h, _, hr, hb => by
    simp [fillParts] at h; subst h
    exact ⟨arr, rfl, hr, hb⟩
  | (i, v) :: parts, (i', u) :: us, cs, out, arr, h, hp, hr, hb => by
    obtain ⟨⟨e, hv, hvb⟩, hp⟩ := hp
    simp only at e hv hvb
    subst e
    simp only [fillParts] at h
    split at h
    · rename_i off n xs hpl hxs
      split at h
      · rename_i hc
        obtain ⟨hn, hle⟩ := hc
        obtain ⟨hxr, hxb⟩ := cells_rel hxs hv hvb
        have hlen : u.cells.size = n := by rw [← hn, hxr.length]; simp
        have hal : arr.size = cs.length := by rw [hr.length]; simp
        have hpa := foldl_place u.cells.toList xs 0 off cs arr hxr hr
        simp only [Nat.add_zero] at hpa
        obtain ⟨res, h1, h2, h3⟩ := fill_ok parts us _ out _ h hp hpa (fun y hy => by
          rcases placeAt_mem _ _ _ y hy with hy | hy
          · exact hb y hy
          · exact hxb y hy)
        refine ⟨res, ?_, h2, h3⟩
        simp only [Instr.fill, hpl, hlen]
        rw [if_neg (by simp; omega), ← Array.foldl_toList, Array.toList_zipIdx]
        exact h1
      · cases h
    · cases h
  | [], _ :: _, _, _, _, _, h, _, _ => h.elim
  | _ :: _, [], _, _, _, _, h, _, _ => h.elim

theorem run_mapM_list {α β : Type} (f : α → Sem β) (q : α → β) : ∀ (l : List α), (∀ x ∈ l, (f x).run P w = .ok (q x) w) → (l.mapM f).run P w = .ok (l.map q) w
  | [], _ => by simp
  | x :: l, h => by
    simp only [List.mapM_cons, Sem.run_bind, h x (by simp), Result.andThen_ok, run_mapM_list f q l (fun y hy => h y (by simp [hy])), Sem.run_pure, List.map_cons]

theorem zeroCells_run {t : TypeId} {z : List C} (h : zeroCells P t = some z) : ∃ v, (zeroValue t).run P w = .ok v w ∧ All2 (RelC g w) z v.cells.toList ∧ ∀ y ∈ z, belowC b m y = true := by
  unfold zeroCells at h
  split at h
  · rename_i i hi
    split at h
    · rename_i v hv
      have := ofVals_rel (g := g) (w := w) (b := b) (m := m) h
      exact ⟨v, by simp [zeroValue, run_typeInfo w hi, hv], this.1, this.2⟩
    · cases h
  · cases h

theorem build_ok {t : TypeId} {fs : List Field} {z cs : List C} {parts : List (Nat × PV)} {us : List (Nat × Value)} (hf : fieldsOf P t = some fs) (hz : zeroCells P t = some z)
    (hs : fs.any (fun f => (sizeT P f.type).isNone) = false) (h : fillParts (structPlaces P fs) z parts = some cs)
    (hp : All2 (fun p u => p.1 = u.1 ∧ RelPV g w p.2 u.2 ∧ belowPV b m p.2 = true) parts us) : ValOk P g b m w (Instr.build t us.toArray) (.agg cs) := by
  obtain ⟨zv, hzv, hzr, hzb⟩ := zeroCells_run (g := g) (w := w) (b := b) (m := m) hz
  obtain ⟨res, h1, h2, h3⟩ := fill_ok parts us z cs zv.cells h hp hzr hzb
  have hm : (fs.toArray.mapM (fun f => do pure (f.offset, ← sizeOf f.type) : Field → Sem (Nat × Nat))).run P w = .ok (fs.map fun f => (f.offset, (sizeT P f.type).getD 0)).toArray w := by
    rw [Array.mapM_eq_mapM_toList]
    simp only [Sem.run_map]
    rw [run_mapM_list (fun f => do pure (f.offset, ← sizeOf f.type)) (fun f => (f.offset, (sizeT P f.type).getD 0)) fs (fun f hf => by
      have : (sizeT P f.type).isNone = false := by
        exact Bool.eq_false_iff.2 (List.any_eq_false.1 hs f hf)
      cases hq : sizeT P f.type with
      | none => rw [hq] at this; simp at this
      | some n => simp [run_sizeT hq])]
    simp
  have hpl : structPlaces P fs = ((fs.map fun f => (f.offset, (sizeT P f.type).getD 0)).toArray[·]?) := by
    funext i
    simp only [structPlaces, List.getElem?_toArray, List.getElem?_map]
    cases hi : fs[i]? with
    | none => rfl
    | some f =>
      have : (sizeT P f.type).isNone = false := by
        exact Bool.eq_false_iff.2 (List.any_eq_false.1 hs f (List.mem_of_getElem? hi))
      cases hq : sizeT P f.type with
      | none => rw [hq] at this; simp at this
      | some n => simp [hq]
  refine ⟨.agg res, ?_, ⟨res.toList, by simp, h2⟩, belowPV_agg h3⟩
  rw [hpl] at h1
  unfold Instr.build
  simp only [Sem.run_bind, hzv, Result.andThen_ok, run_underlying (fieldsOf_eq hf), hm]
  rw [h1]
  rfl

theorem caps_rel : ∀ {l : List PV} {vs : List Value} {caps : List (Nat × Nat)}, capsOf l = some caps → All2 (RelPV g w) l vs → (∀ x ∈ l, belowPV b m x = true) →
    vs = caps.map (ptrV g) ∧ ∀ p ∈ caps, p.1 < m
  | [], [], caps, h, _, _ => by simp [capsOf] at h; subst h; simp
  | x :: l, v :: vs, caps, h, hr, hb => by
    simp only [capsOf] at h
    split at h
    · rename_i p r hp hl
      cases h
      obtain ⟨e, hm⟩ := caps_rel hl hr.2 (fun y hy => hb y (by simp [hy]))
      unfold capOf at hp
      split at hp
      · rename_i o off
        cases hp
        have hx := hb _ (List.mem_cons_self ..)
        simp only [belowPV, belowC, decide_eq_true_eq] at hx
        refine ⟨by rw [e]; simp only [List.map_cons, ptrV]; rw [show v = _ from hr.1], fun q hq => ?_⟩
        rcases List.mem_cons.1 hq with rfl | hq
        · exact hx
        · exact hm q hq
      · cases hp
    · cases h
  | [], _ :: _, _, _, h, _ => h.elim
  | _ :: _, [], _, _, h, _ => h.elim

theorem relO_map {tmps : List PV} {a : Act} (h : RelSlots g w b m tmps a.tmps) (x : Option Operand) : RelO g w (x.map (evalO tmps)) (x.map a.eval) := by
  cases x with
  | none => trivial
  | some x => exact (evalO_rel h x).1

theorem rel_map {tmps : List PV} {a : Act} (h : RelSlots g w b m tmps a.tmps) : ∀ (l : List Operand), All2 (RelPV g w) (l.map (evalO tmps)) (l.map a.eval) ∧ ∀ x ∈ l.map (evalO tmps), belowPV b m x = true
  | [] => ⟨trivial, by simp⟩
  | x :: l => by
    have r := rel_map h l
    have e := evalO_rel h x
    exact ⟨⟨e.1, r.1⟩, by
      intro y hy
      rcases List.mem_cons.1 hy with rfl | hy
      · exact e.2
      · exact r.2 y hy⟩

theorem rel_parts {tmps : List PV} {a : Act} (h : RelSlots g w b m tmps a.tmps) : ∀ (l : List (Nat × Operand)),
    All2 (fun p u => p.1 = u.1 ∧ RelPV g w p.2 u.2 ∧ belowPV b m p.2 = true) (l.map fun (i, x) => (i, evalO tmps x)) (l.map fun (i, x) => (i, a.eval x))
  | [] => trivial
  | (i, x) :: l => ⟨⟨rfl, (evalO_rel h x).1, (evalO_rel h x).2⟩, rel_parts h l⟩


/-- A value that an operation makes. -/
def OpOk (P : Program) (g : Gh) (b : Nat → Bool) (m : Nat) (w : World) (s : Sem Next) (pv : PV) : Prop :=
  ∃ v, s.run P w = .ok (.value v) w ∧ RelPV g w pv v ∧ belowPV b m pv = true

theorem OpOk.of {s : Sem Value} {pv : PV} (h : ValOk P g b m w s pv) : OpOk P g b m w (do pure (.value (← s))) pv := by
  obtain ⟨v, h1, h2, h3⟩ := h
  exact ⟨v, by simp [h1], h2, h3⟩

theorem fieldAddr_below {cs : List C} {n : Nat} (h : belowPV b m (.rptr cs) = true) : belowPV b m (.rptr (cs.drop n)) = true := by
  simp only [belowPV, List.all_eq_true] at h ⊢
  exact fun x hx => h x (List.mem_of_mem_drop hx)

/-- One element of a row is read. -/
theorem eload_ok {t : TypeId} {k i : Nat} {τ : Ty} {l : List τ.den} {vs : List Value} {ty : TypeId} {fr : Nat × Nat} {v : PV} (hh : w.heap[k]? = some (.cells vs.toArray ty fr)) (hrow : RowR (RelD w g.prot τ) τ.size l vs) (hz : sizeT P t = some τ.size)
    (hv : cellsPV (aggT P t) (toCells τ (l.getD i τ.dflt)) = some v) (hlt : i < l.length) : ValOk P g b m w (Instr.loadAt t (.pointer (some ⟨k, i * τ.size, none⟩))) v := by
  have hxd := hrow.2 i _ (getD_get (d := τ.dflt) hlt)
  have hlen := RelD.length τ _ _ hxd
  cases hag : aggT P t with
  | none => rw [hag] at hv; simp [cellsPV] at hv
  | some ag =>
    rw [hag] at hv
    obtain ⟨u, hu, r, hb, h1'⟩ := cellsPV_rel (b := b) (m := m) hv (toCells_rel (g := g) τ _ _ hxd) (fun y hy => toCells_below τ _ y hy)
    have hat : At w k (i * τ.size) ((vs.drop (i * τ.size)).take τ.size) := fun j u hj => by
      rw [List.getElem?_take, List.getElem?_drop] at hj
      split at hj
      · simp [World.cell?, hh, hj]
      · cases hj
    refine ⟨u, ?_, r, hb⟩
    simp only [Instr.loadAt, Instr.sureAddr, Sem.run_bind, Sem.run_pure, Result.andThen_ok]
    unfold loadVar
    simp only [Sem.run_bind, run_aggT hag, Result.andThen_ok]
    cases ag with
    | true =>
      have hc := run_loadCells_list (P := P) w ⟨k, i * τ.size, none⟩ _ (fun j v hj => by rw [add_none]; exact hat j v hj)
      rw [hlen] at hc
      simp [run_sizeT hz, hc, hu]
    | false =>
      have hl1 := h1' rfl
      obtain ⟨y, hy⟩ : ∃ y, (vs.drop (i * τ.size)).take τ.size = [y] := by
        match hq : (vs.drop (i * τ.size)).take τ.size, hl1 with
        | [y], _ => exact ⟨y, rfl⟩
      have hc := hat 0 y (by rw [hy]; rfl)
      simp only [Nat.add_zero] at hc
      simp [hc, hu, hy]

/-- A part of an element is read. -/
theorem fload_ok {t : TypeId} {k i f : Nat} {τ : Ty} {l : List τ.den} {vs : List Value} {ty : TypeId} {fr : Nat × Nat} {v : PV} (hh : w.heap[k]? = some (.cells vs.toArray ty fr)) (hrow : RowR (RelD w g.prot τ) τ.size l vs)
    (hv : getPart P t (toCells τ (l.getD i τ.dflt)) f = some v) (hlt : i < l.length) : ValOk P g b m w (Instr.loadAt t (.pointer (some ⟨k, i * τ.size + f, none⟩))) v := by
  have hxd := hrow.2 i _ (getD_get (d := τ.dflt) hlt)
  have hat : At w k (i * τ.size) ((vs.drop (i * τ.size)).take τ.size) := fun j u hj => by
    rw [List.getElem?_take, List.getElem?_drop] at hj
    split at hj
    · simp [World.cell?, hh, hj]
    · cases hj
  obtain ⟨u, h1, h2, h3⟩ := loadVar_ok (P := P) (b := b) (m := m) (o := i * τ.size) hv (toCells_rel (g := g) τ _ _ hxd) (fun y hy => toCells_below τ _ y hy) (k := k) hat
  exact ⟨u, by simpa [Instr.loadAt, Instr.sureAddr] using h1, h2, h3⟩

theorem valA_sound {tmps : List PV} {o : Oper} {a : Act} {pv : PV} (h : valA P (evalO tmps) st o.op = some (true, pv)) (hs : RelSlots g w b st.objs.length tmps a.tmps) (hi : Inv g b st w) :
    OpOk P g b st.objs.length w (execOp a.eval o) pv := by
  have E := fun x => evalO_rel hs x
  unfold valA at h
  unfold execOp
  split at h
  · rename_i x hop; rw [hop]; cases h; exact ⟨_, rfl, (E x).1, (E x).2⟩
  · rename_i x hop; rw [hop]; cases h; exact ⟨_, rfl, (E x).1, (E x).2⟩
  · rename_i x hop
    rw [hop]
    obtain ⟨hr, hb⟩ := E x
    simp only
    split at h
    · rename_i o' off hx; rw [hx] at hr hb; cases h
      rw [show a.eval x = _ from hr]; exact ⟨_, rfl, rfl, hb⟩
    · rename_i o' i z hx; rw [hx] at hr hb; cases h
      rw [show a.eval x = _ from hr]; exact ⟨_, rfl, rfl, hb⟩
    · rename_i o' i z f hx; rw [hx] at hr hb; cases h
      rw [show a.eval x = _ from hr]; exact ⟨_, rfl, rfl, hb⟩
    · rename_i n off hx; rw [hx] at hr hb; cases h
      rw [show a.eval x = _ from hr]; exact ⟨_, rfl, rfl, hb⟩
    · rename_i cs hx; rw [hx] at hr hb; cases h
      obtain ⟨bk, off, vs, e, h1, h2⟩ := hr
      rw [e]; exact ⟨_, rfl, ⟨bk, off, vs, rfl, h1, h2⟩, hb⟩
    · rename_i f caps hx; rw [hx] at hr hb; cases h
      rw [show a.eval x = _ from hr]; exact ⟨_, rfl, rfl, hb⟩
    · cases h
  · rename_i op t x y yt hop; rw [hop]
    exact OpOk.of (binOpC_ok h (E x).1 (E y).1)
  · rename_i op t x hop; rw [hop]
    exact OpOk.of (unOpC_ok h (E x).1)
  · rename_i s d x hop; rw [hop]
    exact OpOk.of (convC_ok h (E x).1)
  · rename_i f first caps hop; rw [hop]
    split at h
    · rename_i hfi
      simp only [Option.map_eq_some_iff, Prod.mk.injEq, true_and] at h
      obtain ⟨l, hl, rfl⟩ := h
      have r := rel_map hs caps.toList
      obtain ⟨e, hm⟩ := caps_rel hl r.1 r.2
      have hf : first = #[] := by simpa using hfi
      subst hf
      refine ⟨.func (.func f) #[] (l.map (ptrV g)).toArray, ?_, rfl, by simpa [belowPV, belowC] using hm⟩
      simp only [Instr.makeFunc, Sem.run_bind, Sem.run_pure, Result.andThen_ok, List.map_toArray, List.map_nil]
      congr 3
      apply Array.toList_inj.1
      simp [← e]
    · cases h
  · rename_i t parts hop; rw [hop]
    split at h
    · rename_i fs z hf hz
      split at h
      · cases h
      · rename_i hsz
        simp only [Option.map_eq_some_iff, Prod.mk.injEq, true_and] at h
        obtain ⟨cs, hc, rfl⟩ := h
        have := build_ok (b := b) (m := st.objs.length) hf hz (by simpa using hsz) hc (rel_parts hs parts.toList)
        have e : (parts.toList.map fun (i, x) => (i, a.eval x)).toArray = parts.map fun (i, x) => (i, a.eval x) := by
          apply Array.toList_inj.1; simp
        rw [e] at this
        exact OpOk.of this
    · cases h
  · rename_i t x lo hi' hop; rw [hop]
    exact OpOk.of (sliceC_ok h (E x).1 (relO_map hs lo) (relO_map hs hi'))
  · rename_i t x lo hi' mx hop; rw [hop]
    exact OpOk.of (slice3C_ok h (E x).1 (relO_map hs lo) (E hi').1 (E mx).1)
  · rename_i t x f hop; rw [hop]
    split at h
    · rename_i cs fs hx hf
      split at h
      · rename_i fd hd
        simp only [Option.map_eq_some_iff, Prod.mk.injEq, true_and] at h
        obtain ⟨v, hv, rfl⟩ := h
        have e := E x
        rw [hx] at e
        exact OpOk.of (field_ok hf hd hv e.1 e.2)
      · cases h
    · cases h
  · rename_i t x f hop; rw [hop]
    split at h
    · rename_i fs hf
      split at h
      · rename_i fd hd
        split at h
        · rename_i n hn
          split at h
          · cases h
          · rename_i h0
            obtain ⟨hr, hb⟩ := E x
            split at h
            · rename_i o' off hx; rw [hx] at hr hb; cases h
              exact OpOk.of ⟨_, fieldAddr_ok hf hd hn h0 hr, rfl, hb⟩
            · rename_i n' off hx; rw [hx] at hr hb; cases h
              exact OpOk.of ⟨_, fieldAddr_ok hf hd hn h0 hr, rfl, hb⟩
            · rename_i o' j z hx; rw [hx] at hr hb; cases h
              exact OpOk.of ⟨_, fieldAddr_ok hf hd hn h0 hr, rfl, hb⟩
            · rename_i o' j z q hx; rw [hx] at hr hb; cases h
              refine OpOk.of ⟨_, fieldAddr_ok hf hd hn h0 hr, ?_, hb⟩
              simp only [RelPV, RelC]
              rw [Nat.add_assoc]
            · rename_i cs hx; rw [hx] at hr hb; cases h
              obtain ⟨bk, off, vs, e, h1, h2⟩ := hr
              refine OpOk.of ⟨_, fieldAddr_ok hf hd hn h0 e, ⟨bk, off + fd.offset, vs.drop fd.offset, rfl, h1.drop _, fun j u hu => ?_⟩, fieldAddr_below hb⟩
              rw [List.getElem?_drop] at hu
              have := h2 _ _ hu
              rw [Nat.add_assoc]; exact this
            · cases h
        · cases h
      · cases h
    · cases h
  · rename_i t x i hop; rw [hop]
    split at h
    · rename_i e tk τ l k n hu hx hix
      split at h
      · rename_i hz
        have ex := E x
        have ei := E i
        rw [hx] at ex
        rw [hix] at ei
        simp only [Option.some.injEq, Prod.mk.injEq] at h
        obtain ⟨h1, rfl⟩ := h
        exact OpOk.of (indexSlice_ok hu hz.1 ei.1.1 ex.1.1 h1)
      · cases h
    · rename_i e o' k n hu hx hix
      split at h
      · rename_i τ l fz ho
        split at h
        · rename_i hz
          have ex := E x
          have ei := E i
          rw [hx] at ex
          rw [hix] at ei
          simp only [Option.some.injEq, Prod.mk.injEq] at h
          obtain ⟨h1, rfl⟩ := h
          obtain ⟨g0, g1⟩ := idx_iff h1
          have hob := hi.objs o' _ ho
          obtain ⟨_, _, vs, ty, fr, cap, _, _, hm, _⟩ := hob
          have hxr : a.eval x = .slice (some ⟨g.phi o', 0, none⟩) l.length cap := by
            have := ex.1
            simp only [RelPV, RelC] at this
            rw [this, hm]
          refine OpOk.of ⟨.pointer (some ⟨g.phi o', n.toNat * τ.size, none⟩), ?_, rfl, ?_⟩
          · rw [hxr, ei.1.1]
            simp [Instr.indexAt, asIntOf, run_underlying hu, g0, g1, run_sizeT hz.1, add_none]
          · exact ex.2
        · cases h
      · cases h
    · rename_i e o' k n hu hx hix
      split at h
      · rename_i τ l fz ho
        split at h
        · rename_i hz
          have ex := E x
          have ei := E i
          rw [hx] at ex
          rw [hix] at ei
          simp only [Option.some.injEq, Prod.mk.injEq] at h
          obtain ⟨h1, rfl⟩ := h
          obtain ⟨g0, g1⟩ := idx_iff h1
          have hob := hi.objs o' _ ho
          obtain ⟨cap, hm, _⟩ := hob
          have hne : l.length ≠ 0 := by omega
          have hxr : a.eval x = .slice (some ⟨g.phi o', 0, none⟩) l.length cap := by
            have := ex.1
            simp only [RelPV, RelC] at this
            rw [this, hm, vecV, if_neg hne]
          refine OpOk.of ⟨.pointer (some ⟨g.phi o', n.toNat * τ.size, none⟩), ?_, rfl, ?_⟩
          · rw [hxr, ei.1.1]
            simp [Instr.indexAt, asIntOf, run_underlying hu, g0, g1, run_sizeT hz.1, add_none]
          · exact ex.2
        · cases h
      · cases h
    · rename_i len e v off k n hu hx hix
      split at h
      · rename_i cs τ hcs hτ
        split at h
        · rename_i l hl
          split at h
          · rename_i hz
            have ex := E x
            have ei := E i
            rw [hx] at ex
            rw [hix] at ei
            simp only [Option.some.injEq, Prod.mk.injEq] at h
            obtain ⟨h1, rfl⟩ := h
            obtain ⟨g0, g1⟩ := idx_iff h1
            obtain ⟨hgb, vs, hvs, hat⟩ := hi.glob v cs hcs
            obtain ⟨e1, e2, e3⟩ := arrElems_rel len _ l _ hl ((hvs.drop off).take (len * τ.size))
            have hlt : n.toNat < l.length := by omega
            have hxd := e3 n.toNat _ (getD_get (d := τ.dflt) hlt)
            refine OpOk.of ⟨.pointer (some ⟨v, off + n.toNat * τ.size, none⟩), ?_, ⟨v, off + n.toNat * τ.size, _, rfl, toCells_rel τ _ _ hxd, fun j u hj => ?_⟩, ?_⟩
            · rw [show a.eval x = _ from ex.1, ei.1.1]
              simp [Instr.indexAt, Instr.sureAddr, asIntOf, run_underlying hu, g0, g1, run_sizeT hz, add_none]
            · rw [List.getElem?_take, List.getElem?_drop] at hj
              split at hj
              · rw [List.getElem?_take] at hj
                split at hj
                · rw [List.getElem?_drop] at hj
                  have := hat _ u hj
                  rw [show off + n.toNat * τ.size + j = off + (n.toNat * τ.size + j) by omega]
                  exact this
                · cases hj
              · cases hj
            · simp only [belowPV, List.all_eq_true]
              exact fun y hy => toCells_below τ _ y hy
          · cases h
        · cases h
      · cases h
    · rename_i len e o' off k n hu hx hix
      split at h
      · rename_i q τ l fz ho
        split at h
        · rename_i hz
          obtain ⟨rfl, hz, h0⟩ := hz
          have ex := E x
          have ei := E i
          rw [hx] at ex
          rw [hix] at ei
          simp only [Option.some.injEq, Prod.mk.injEq, Bool.and_eq_true, decide_eq_true_eq] at h
          obtain ⟨⟨h1, hll⟩, rfl⟩ := h
          obtain ⟨g0, g1⟩ := idx_iff h1
          refine OpOk.of ⟨.pointer (some ⟨g.phi o', n.toNat * τ.size, none⟩), ?_, rfl, ex.2⟩
          rw [show a.eval x = _ from ex.1, ei.1.1]
          simp [Instr.indexAt, Instr.sureAddr, asIntOf, run_underlying hu, g0, g1, run_sizeT hz, add_none]
        · cases h
      · rename_i cs k' ho he
        split at h
        · rename_i hz
          have ex := E x
          have ei := E i
          rw [hx] at ex
          rw [hix] at ei
          simp only [Option.some.injEq, Prod.mk.injEq] at h
          obtain ⟨h1, rfl⟩ := h
          obtain ⟨g0, g1⟩ := idx_iff h1
          refine OpOk.of ⟨.pointer (some ⟨g.phi o', off + n.toNat, none⟩), ?_, rfl, ex.2⟩
          rw [show a.eval x = _ from ex.1, ei.1.1]
          simp [Instr.indexAt, Instr.sureAddr, asIntOf, run_underlying hu, g0, g1, run_sizeT hz.2.2, add_none]
        · cases h
      · cases h
    · cases h
  · rename_i t x i hop; rw [hop]
    split at h
    · rename_i l k n hu hx hix
      have ex := E x
      have ei := E i
      rw [hx] at ex
      rw [hix] at ei
      simp only [Option.some.injEq, Prod.mk.injEq] at h
      obtain ⟨h1, rfl⟩ := h
      exact OpOk.of (indexString_ok hu ei.1.1 ex.1 h1)
    · rename_i len e cs k n hu hx hix
      split at h
      · rename_i τ hτ
        split at h
        · rename_i l hl
          simp only [Option.map_eq_some_iff, Prod.mk.injEq] at h
          obtain ⟨v, hv, h1, rfl⟩ := h
          have ex := E x
          have ei := E i
          rw [hx] at ex
          rw [hix] at ei
          exact OpOk.of (indexArr_ok hu hτ hl hv ei.1.1 ex.1 h1)
        · cases h
      · cases h
    · cases h
  · rename_i t i hop; rw [hop]
    split at h
    · rename_i vs hx
      split at h
      · rename_i p hp
        cases h
        have ex := E t
        rw [hx] at ex
        obtain ⟨⟨us, e, hr⟩, hb⟩ := ex
        obtain ⟨u, hu, hru⟩ := hr.get i p hp
        refine OpOk.of ⟨u, by rw [e]; simp [Instr.extract, hu], ?_, ?_⟩
        · cases p with
          | inl c => exact hru
          | inr cs => exact hru
        · simp only [belowPV, List.all_eq_true] at hb
          have := hb p (List.mem_of_getElem? hp)
          cases p with
          | inl c => exact this c (by simp [partCells])
          | inr cs => exact belowPV_agg this
      · cases h
    · cases h
  · rename_i t x hop; rw [hop]
    split at h
    · rename_i o' off hx
      split at h
      · rename_i cs ho
        simp only [Option.map_eq_some_iff, Prod.mk.injEq, true_and] at h
        obtain ⟨v, hv, rfl⟩ := h
        have ex := E x
        rw [hx] at ex
        obtain ⟨_, vs, ty, hh, hr⟩ := hi.objs o' _ ho
        have hbl := hi.below o' _ ho
        obtain ⟨u, h1, h2, h3⟩ := loadVar_ok (P := P) (o := 0) hv hr hbl (k := g.phi o') (fun j u hj => by
          simp only [Nat.zero_add]
          simp [World.cell?, hh, hj])
        simp only [Nat.zero_add] at h1
        refine OpOk.of ⟨u, ?_, h2, h3⟩
        rw [show a.eval x = _ from ex.1]
        simpa [Instr.loadAt, Instr.sureAddr] using h1
      · rename_i τ l fz ho
        split at h
        · rename_i hoff
          subst hoff
          simp only [Option.map_eq_some_iff, Prod.mk.injEq, decide_eq_true_eq] at h
          obtain ⟨⟨n, v⟩, hv, hn, rfl⟩ := h
          have ex := E x
          rw [hx] at ex
          obtain ⟨_, _, vs, ty, fr, cap, hh, _, _, _, _, hrow⟩ := hi.objs o' _ ho
          obtain ⟨u, h1, h2, h3⟩ := wholeRow_ok (P := P) (b := b) (m := st.objs.length) (k := g.phi o') hv hn hrow (fun j u hj => by simp [World.cell?, hh, hj])
          refine OpOk.of ⟨u, ?_, h2, h3⟩
          rw [show a.eval x = _ from ex.1]
          simpa [Instr.loadAt, Instr.sureAddr] using h1
        · cases h
      · cases h
    · rename_i o' i z hx
      split at h
      · rename_i τ l fz ho
        split at h
        · rename_i hz
          obtain ⟨hz, rfl, h0⟩ := hz
          simp only [Option.map_eq_some_iff, Prod.mk.injEq, decide_eq_true_eq] at h
          obtain ⟨v, hv, hlt, rfl⟩ := h
          have ex := E x
          rw [hx] at ex
          obtain ⟨_, _, vs, ty, fr, cap, hh, _, _, _, _, hrow⟩ := hi.objs o' _ ho
          refine OpOk.of ?_
          rw [show a.eval x = _ from ex.1]
          exact eload_ok hh hrow hz hv hlt
        · cases h
      · rename_i τ l fz ho
        split at h
        · rename_i hz
          obtain ⟨hz, rfl, h0⟩ := hz
          simp only [Option.map_eq_some_iff, Prod.mk.injEq, decide_eq_true_eq] at h
          obtain ⟨v, hv, hlt, rfl⟩ := h
          have ex := E x
          rw [hx] at ex
          obtain ⟨cap, _, hob⟩ := hi.objs o' _ ho
          obtain ⟨_, _, _, vs, ty, hh, _, _, _, hrow⟩ := hob (fun e => by rw [e] at hlt; simp at hlt)
          refine OpOk.of ?_
          rw [show a.eval x = _ from ex.1]
          exact eload_ok hh hrow hz hv hlt
        · cases h
      · cases h
    · rename_i o' i z f hx
      split at h
      · rename_i τ l fz ho
        split at h
        · rename_i hz
          subst hz
          simp only [Option.map_eq_some_iff, Prod.mk.injEq, decide_eq_true_eq] at h
          obtain ⟨v, hv, hlt, rfl⟩ := h
          have ex := E x
          rw [hx] at ex
          obtain ⟨_, _, vs, ty, fr, cap, hh, _, _, _, _, hrow⟩ := hi.objs o' _ ho
          refine OpOk.of ?_
          rw [show a.eval x = _ from ex.1]
          exact fload_ok hh hrow hv hlt
        · cases h
      · rename_i τ l fz ho
        split at h
        · rename_i hz
          subst hz
          simp only [Option.map_eq_some_iff, Prod.mk.injEq, decide_eq_true_eq] at h
          obtain ⟨v, hv, hlt, rfl⟩ := h
          have ex := E x
          rw [hx] at ex
          obtain ⟨cap, _, hob⟩ := hi.objs o' _ ho
          obtain ⟨_, _, _, vs, ty, hh, _, _, _, hrow⟩ := hob (fun e => by rw [e] at hlt; simp at hlt)
          refine OpOk.of ?_
          rw [show a.eval x = _ from ex.1]
          exact fload_ok hh hrow hv hlt
        · cases h
      · cases h
    · rename_i cs hx
      simp only [Option.map_eq_some_iff, Prod.mk.injEq, true_and] at h
      obtain ⟨v, hv, rfl⟩ := h
      have ex := E x
      rw [hx] at ex
      obtain ⟨⟨bk, off, vs, e, hr, hall⟩, hb⟩ := ex
      obtain ⟨u, h1, h2, h3⟩ := loadVar_ok (P := P) (b := b) (m := st.objs.length) hv hr (by simpa [belowPV] using hb) (k := bk) (o := off) (fun j u hj => (hall j u hj).2)
      refine OpOk.of ⟨u, ?_, h2, h3⟩
      rw [e]
      simpa [Instr.loadAt, Instr.sureAddr] using h1
    · rename_i n off hx
      split at h
      · rename_i cs hcs
        simp only [Option.map_eq_some_iff, Prod.mk.injEq, true_and] at h
        obtain ⟨v, hv, rfl⟩ := h
        have ex := E x
        rw [hx] at ex
        obtain ⟨hgb, vs, hvs, hat⟩ := hi.glob n cs hcs
        obtain ⟨u, h1, h2, h3⟩ := loadVar_ok (P := P) (b := b) (m := st.objs.length) (o := 0) hv hvs (fun y hy => belowC.mono (fun t ht => by simp at ht) (Nat.zero_le _) (hgb y hy)) (k := n) (fun j u hj => by
          rw [Nat.zero_add]; exact (hat j u hj).2)
        simp only [Nat.zero_add] at h1
        refine OpOk.of ⟨u, ?_, h2, h3⟩
        rw [show a.eval x = _ from ex.1]
        simpa [Instr.loadAt, Instr.sureAddr] using h1
      · cases h
    · rename_i o' off n i k hx
      split at h
      · rename_i cs k' ho hu
        split at h
        · rename_i hk
          split at h
          · rename_i l hl
            simp only [Option.some.injEq, Prod.mk.injEq, decide_eq_true_eq] at h
            obtain ⟨hlt, rfl⟩ := h
            have ex := E x
            rw [hx] at ex
            obtain ⟨_, vs, ty, hh, hr⟩ := hi.objs o' _ ho
            obtain ⟨e1, e2⟩ := arrInts_rel hl ((hr.drop off).take n)
            have hn : l.length = n := by have := hr.length; rw [e1]; simp; omega
            obtain ⟨hv, hw⟩ := e2 i _ (getD_get (d := 0) (show i < l.length by omega))
            have hcell : w.cell? ⟨g.phi o', off + i, none⟩ = some (.int k (l.getD i 0)) := by
              rw [List.getElem?_take, if_pos (by omega), List.getElem?_drop] at hv
              simp [World.cell?, hh, hv]
            refine OpOk.of ⟨.int k (l.getD i 0), ?_, ⟨rfl, hw⟩, rfl⟩
            rw [show a.eval x = _ from ex.1]
            simp only [Instr.loadAt, Instr.sureAddr, Sem.run_bind, Sem.run_pure, Result.andThen_ok]
            unfold loadVar
            have hag : aggT P t = some false := by simp [aggT, hu]
            simp [run_aggT hag, hcell]
          · cases h
        · cases h
      · cases h
    · cases h
  · cases h

end Go.Proofs.YthhllkiefncbnaaDoorSim
