/- New rows; append. -/
import Derived.Test.YthhllkiefncbnaaDoorSimG
namespace Go.Proofs.YthhllkiefncbnaaDoorSim
open Go
set_option linter.unusedVariables false
set_option linter.unusedSimpArgs false

variable {P : Program} {g g' : Gh} {w w' : World} {st : St} {b : Nat → Bool} {m : Nat}

theorem RowR.slice {α : Type} {R : α → List Value → Prop} {sz : Nat} {l : List α} {vs : List Value} {cap k : Nat} {prot : Nat → Nat → Prop} (h : RowR R sz l vs) (hl : ∀ x cs, R x cs → cs.length = sz)
    (hc : l.length ≤ cap) (hm : cap ≤ maxL) (hp : ∀ off, off < l.length * sz → prot k off) (hw : ∀ j, j < l.length * sz → w.cell? ⟨k, j, none⟩ = vs[j]?) :
    SliceR w prot R sz l (.slice (some ⟨k, 0, none⟩) l.length cap) := by
  refine ⟨_, cap, rfl, hc, hm, fun i x hx => ⟨k, 0, _, rfl, h.2 i x hx, hl _ _ (h.2 i x hx), fun j u hu => ?_⟩⟩
  have hlt := (List.getElem?_eq_some_iff.1 hx).1
  rw [List.getElem?_take] at hu
  split at hu
  · rename_i hj
    rw [List.getElem?_drop] at hu
    have : (i + 1) * sz ≤ l.length * sz := Nat.mul_le_mul_right _ hlt
    rw [Nat.add_mul] at this
    simp only [Nat.zero_add]
    exact ⟨hp _ (by omega), by rw [hw _ (by omega)]; exact hu⟩
  · cases hu

/-- A new row that is the call's own. -/
theorem newOwn_ok (hi : Inv g b st w) {c : Nat} (old : Option Nat) (hc : b c = false) {τ : Ty} {l : List τ.den} {vs : List Value} {e : TypeId} {cap : Nat} {W : World}
    (hos : W.os = w.os) (htp : W.tape = w.tape) (hou : W.output = w.output) (hsz : W.heap.size = w.heap.size + 1) (hold : ∀ k, k < w.heap.size → W.heap[k]? = w.heap[k]?)
    (hnew : W.heap[w.heap.size]? = some (.cells vs.toArray e (0, 0))) (hl : vs.length = cap * τ.size) (hle : l.length ≤ cap) (hcap : cap ≤ maxL) (hrow : RowR (RelD w g.prot τ) τ.size l vs) :
    ∃ g', RelPV g' W (.c (.slice (.own c) τ l)) (.slice (some ⟨w.heap.size, 0, none⟩) l.length cap) ∧ Inv g' (fun t => b t || t == c) { st with live := c :: kill st.live old } W ∧ Ext b st.objs.length g w g' W := by
  have hcl : c ∉ st.live := fun h => by rw [hi.lt c h] at hc; cases hc
  have hcell : ∀ k off, g.prot k off → W.cell? ⟨k, off, none⟩ = w.cell? ⟨k, off, none⟩ := fun k off hk => World.cell?_of_block (hold k (hi.protEx k off hk))
  have hpe : ∀ k off, (g.prot k off ∨ (k = w.heap.size ∧ off < l.length * τ.size)) → k < W.heap.size := fun k off h => by
    rcases h with h | ⟨h, _⟩
    · have := hi.protEx k off h; omega
    · omega
  have hpo : ∀ k off, k < w.heap.size → (g.prot k off ∨ (k = w.heap.size ∧ off < l.length * τ.size)) → g.prot k off := fun k off hk h => by
    rcases h with h | ⟨h, _⟩
    · exact h
    · omega
  obtain ⟨h1, h2⟩ := hi.token (c := c) (old := old) (w' := W) (r := ⟨.slice (some ⟨w.heap.size, 0, none⟩) l.length cap, τ.size, e⟩) hc hcl
    (pr := fun k off => g.prot k off ∨ (k = w.heap.size ∧ off < l.length * τ.size)) (fun _ _ h => .inl h)
    hpe hos htp hou (by omega) (fun k hk _ => ⟨hold k hk, fun off h => hpo k off hk h⟩) hcell
    (.inr ⟨w.heap.size, l.length, cap, vs.toArray, rfl, hnew, by simpa using hl, hle, hcap, fun h => by have := hi.hidLt _ h; omega, fun off ho h => by
      rcases h with h | ⟨_, h⟩
      · exact unprot_new hi off h
      · exact absurd ho (Nat.not_le.2 h)⟩)
    (fun k hk => by simp [Row.block] at hk; omega)
  refine ⟨_, ⟨?_, fun k r hk hr => ?_⟩, h1, h2⟩
  · exact RowR.slice (vs := vs) (hrow.mono fun x cs => RelD.mono (fun k off h => .inl h) hcell τ x cs) (fun x cs h => RelD.length τ x cs h) hle hcap (fun off ho => .inr ⟨rfl, ho⟩)
      (fun j _ => by rw [cell_of_block hnew]; simp)
  · cases hk
    simp only [if_true, Option.some.injEq] at hr
    subst hr
    exact ⟨rfl, rfl⟩

/-- A new row that is never written again. -/
theorem newRo_ok (hi : Inv g b st w) {τ : Ty} {l : List τ.den} {vs : List Value} {e : TypeId} {cap : Nat} {fr : Nat × Nat} {W : World}
    (hos : W.os = w.os) (htp : W.tape = w.tape) (hou : W.output = w.output) (hsz : W.heap.size = w.heap.size + 1) (hold : ∀ k, k < w.heap.size → W.heap[k]? = w.heap[k]?)
    (hnew : W.heap[w.heap.size]? = some (.cells vs.toArray e fr)) (hle : l.length ≤ cap) (hcap : cap ≤ maxL) (hrow : RowR (RelD w g.prot τ) τ.size l vs) :
    ∃ g', RelPV g' W (.c (.slice .ro τ l)) (.slice (some ⟨w.heap.size, 0, none⟩) l.length cap) ∧ Inv g' b st W ∧ Ext b st.objs.length g w g' W := by
  have hcell : ∀ k off, g.prot k off → W.cell? ⟨k, off, none⟩ = w.cell? ⟨k, off, none⟩ := fun k off hk => World.cell?_of_block (hold k (hi.protEx k off hk))
  have hpe : ∀ k off, (g.prot k off ∨ k = w.heap.size) → k < W.heap.size := fun k off h => by
    rcases h with h | h
    · have := hi.protEx k off h; omega
    · omega
  have hpo : ∀ k off, k < w.heap.size → (g.prot k off ∨ k = w.heap.size) → g.prot k off := fun k off hk h => by
    rcases h with h | h
    · exact h
    · omega
  have he : Ext b st.objs.length g w { g with prot := fun k off => g.prot k off ∨ k = w.heap.size } W :=
    { os := hos, tape := htp, output := hou, size := by omega, hid := fun _ h => h, hidden := fun k hk => hold k (hi.hidLt k hk), cells := hcell, prot := fun _ _ h => .inl h,
      newp := fun k off hk h => hpo k off (hi.hidLt k hk) h,
      phi := fun _ _ => rfl, mrow := fun _ _ => rfl, tok := fun _ _ => .inl rfl }
  refine ⟨_, ⟨?_, fun k r hk hr => by cases hk⟩, ?_, he⟩
  · exact RowR.slice (vs := vs) (hrow.mono fun x cs => RelD.mono (fun k off h => .inl h) hcell τ x cs) (fun x cs h => RelD.length τ x cs h) hle hcap (fun off ho => .inr rfl)
      (fun j _ => by rw [cell_of_block hnew]; simp)
  · refine Inv.step (ch := fun _ => False) (st' := st) hi he (fun _ h => h) (fun k hk _ => ⟨hold k hk, fun off h => hpo k off hk h⟩) rfl hpe rfl (fun o x h => .inl ⟨h, fun _ q => q⟩) (fun t ht => ?_) hi.dead hi.lt (fun t r h => .inl h)
    obtain ⟨r, hr, ok⟩ := hi.toks t ht
    exact ⟨r, hr, .inl ⟨hr, ht, fun _ _ q => q⟩⟩

/-- A new row that is appended to and stored into. -/
theorem newVec_ok (hi : Inv g b st w) {τ : Ty} {l : List τ.den} {vs : List Value} {e : TypeId} {cap : Nat} (h0 : τ.size ≠ 0) (hl : vs.length = cap * τ.size)
    (hle : l.length ≤ cap) (hcap : cap ≤ maxL) (hrow : RowR (RelD w g.prot τ) τ.size l vs) :
    RelPV (g.more st.objs.length w.heap.size (l.length, cap)) (w.alloc (.cells vs.toArray e (0, 0))) (.c (.vslice st.objs.length)) (vecV w.heap.size (l.length, cap)) ∧
    Inv (g.more st.objs.length w.heap.size (l.length, cap)) b (addObj st (.vec τ l false)) (w.alloc (.cells vs.toArray e (0, 0))) := by
  have he := ext_more hi (.cells vs.toArray e (0, 0)) (l.length, cap)
  refine ⟨by simp [RelPV, RelC, more_phi, more_mrow], hi.newObj _ _ _ ⟨cap, more_mrow _ _ _, fun _ => ⟨h0, fun _ off h => unprot_new hi off (by simpa [more_phi, Gh.more] using h), (fun h => by cases h), vs, e, ?_, hl, hle, hcap,
    hrow.mono fun x cs => RelD.mono he.prot he.cells τ x cs⟩⟩ trivial⟩
  rw [more_phi]; exact heap_alloc_new w _

/-- A new row that is an abstract object. -/
theorem newRow_ok (hi : Inv g b st w) {τ : Ty} {l : List τ.den} {vs : List Value} {e : TypeId} {cap : Nat} {fr : Nat × Nat} (hfr : fr.1 < fr.2 → vs.length ≤ fr.1)
    (hle : l.length ≤ cap) (hcap : cap ≤ maxL) (hrow : RowR (RelD w g.prot τ) τ.size l vs) :
    RelPV (g.more st.objs.length w.heap.size (l.length, cap)) (w.alloc (.cells vs.toArray e fr)) (.c (.mslice st.objs.length)) (.slice (some ⟨w.heap.size, 0, none⟩) l.length cap) ∧
    Inv (g.more st.objs.length w.heap.size (l.length, cap)) b (addObj st (.row τ l false)) (w.alloc (.cells vs.toArray e fr)) := by
  have he := ext_more hi (.cells vs.toArray e fr) (l.length, cap)
  refine ⟨by simp [RelPV, RelC, more_phi, more_mrow], hi.newObj _ _ _ ⟨fun _ off h => unprot_new hi off (by simpa [more_phi, Gh.more] using h), (fun h => by cases h), vs, e, fr, cap, ?_, hfr, more_mrow _ _ _, hle, hcap,
    hrow.mono fun x cs => RelD.mono he.prot he.cells τ x cs⟩ trivial⟩
  rw [more_phi]; exact heap_alloc_new w _

/-! ### A slice's literal -/
theorem foldl_placeV : ∀ (us : List Value) (k off : Nat) (arr : Array Value),
    ((us.zipIdx k).foldl (fun a (c, j) => a.setIfInBounds (off + j) c) arr).toList = placeAt arr.toList (off + k) us
  | [], k, off, arr => rfl
  | u :: us, k, off, arr => by
    simp only [placeAt, List.zipIdx_cons, List.foldl_cons]
    rw [foldl_placeV us (k + 1) off _, Array.toList_setIfInBounds, show off + (k + 1) = off + k + 1 by omega]

theorem fill_seq {τ : Ty} : ∀ (parts : List (Nat × PV)) (us : List (Nat × Value)) (i : Nat) (l : List τ.den) (arr : Array Value), litElems τ i parts = some l →
    All2 (fun p u => p.1 = u.1 ∧ RelPV g w p.2 u.2 ∧ belowPV b m p.2 = true) parts us → (i + l.length) * τ.size ≤ arr.size →
    ∃ res cells, Instr.fill (fun i => some (i * τ.size, τ.size)) arr us = some res ∧ res.toList = arr.toList.take (i * τ.size) ++ cells ++ arr.toList.drop ((i + l.length) * τ.size) ∧ cells.length = l.length * τ.size ∧
      RowR (RelD w g.prot τ) τ.size l cells
  | [], [], i, l, arr, h, _, hsz => by
    simp [litElems] at h; subst h
    exact ⟨arr, [], rfl, by simp, by simp, by simp [RowR]⟩
  | (j, v) :: parts, (j', u) :: us, i, l, arr, h, hp, hsz => by
    obtain ⟨⟨e, hv, hvb⟩, hp⟩ := hp
    simp only at e hv hvb
    subst e
    simp only [litElems] at h
    split at h
    · rename_i hji
      subst hji
      split at h
      · rename_i cs hcs
        split at h
        · rename_i x l' hx hl'
          cases h
          obtain ⟨hr, hb⟩ := cells_rel hcs hv hvb
          obtain ⟨v1, v2, e, hxr, hnil⟩ := ofCells_rel τ cs x [] u.cells.toList hx hr
          have hv2 : v2 = [] := by cases v2 with
            | nil => rfl
            | cons => exact hnil.elim
          subst hv2
          simp only [List.append_nil] at e
          have hz := RelD.length τ x v1 hxr
          have hus : u.cells.size = τ.size := by rw [← hz, ← e]; simp
          simp only [List.length_cons] at hsz
          have hsz2 : (j + 1) * τ.size ≤ arr.size := Nat.le_trans (Nat.mul_le_mul_right _ (by omega)) hsz
          obtain ⟨arr2, harr2⟩ : ∃ a2, a2 = u.cells.zipIdx.foldl (fun a (c, k) => a.setIfInBounds (j * τ.size + k) c) arr := ⟨_, rfl⟩
          have hal : arr2.toList = arr.toList.take (j * τ.size) ++ v1 ++ arr.toList.drop ((j + 1) * τ.size) := by
            rw [harr2, ← Array.foldl_toList, Array.toList_zipIdx, foldl_placeV, Nat.add_zero, e, placeAt_eq _ _ _ (by rw [Nat.add_mul] at hsz2; simp; omega), hz, Nat.add_mul, Nat.one_mul]
          have hsize2 : arr2.size = arr.size := by
            rw [← Array.length_toList, hal]
            rw [Nat.add_mul] at hsz2
            simp [hz]; rw [Nat.add_mul]; omega
          obtain ⟨res, cells, h1, h2, h3, h4⟩ := fill_seq parts us (j + 1) l' arr2 hl' hp (by rw [hsize2]; exact Nat.le_trans (Nat.mul_le_mul_right _ (by omega)) hsz)
          refine ⟨res, v1 ++ cells, ?_, ?_, by simp [h3, hz, Nat.add_mul]; omega, ?_⟩
          · simp only [Instr.fill]
            rw [if_neg (by rw [Nat.add_mul] at hsz2; simp [hus]; omega), ← harr2]
            exact h1
          · rw [h2, hal]
            have e1 : (arr.toList.take (j * τ.size) ++ v1 ++ arr.toList.drop ((j + 1) * τ.size)).take ((j + 1) * τ.size) = arr.toList.take (j * τ.size) ++ v1 := by
              rw [List.take_append_of_le_length (by rw [Nat.add_mul] at hsz2 ⊢; simp [hz]; omega)]
              rw [List.take_of_length_le (by rw [Nat.add_mul] at hsz2 ⊢; simp [hz]; omega)]
            have e2 : (arr.toList.take (j * τ.size) ++ v1 ++ arr.toList.drop ((j + 1) * τ.size)).drop ((j + 1 + l'.length) * τ.size) = arr.toList.drop ((j + (l'.length + 1)) * τ.size) := by
              have e3 : (arr.toList.take (j * τ.size) ++ v1).length = (j + 1) * τ.size := by rw [Nat.add_mul] at hsz2 ⊢; simp [hz]; omega
              rw [show (j + 1 + l'.length) * τ.size = (arr.toList.take (j * τ.size) ++ v1).length + l'.length * τ.size by rw [e3, ← Nat.add_mul], ← List.drop_drop, List.drop_left, List.drop_drop, ← Nat.add_mul]
              congr 2; omega
            rw [e1, e2]
            simp
          · refine ⟨by simp [h3, hz, Nat.add_mul]; omega, fun i y hy => ?_⟩
            cases i with
            | zero =>
              simp only [List.getElem?_cons_zero, Option.some.injEq] at hy
              subst hy
              rw [Nat.zero_mul, List.drop_zero, ← hz, List.take_left]; exact hxr
            | succ i =>
              have := h4.2 i y (by simpa using hy)
              rw [show (i + 1) * τ.size = v1.length + i * τ.size by rw [hz, Nat.add_mul]; omega, ← List.drop_drop, List.drop_left]
              exact this
        · cases h
      · cases h
    · cases h
  | [], _ :: _, _, _, _, _, h, _ => h.elim
  | _ :: _, [], _, _, _, _, h, _ => h.elim

theorem buildSlice_run {t e : TypeId} {τ : Ty} {z : List C} {l : List τ.den} {n : Nat} {parts : List (Nat × PV)} {us : List (Nat × Value)} (hu : P.underlying t = some (.slice e)) (hτ : elemTy P e = some τ) (hz : zeroCells P e = some z)
    (hn : n * τ.size ≤ 2 ^ 24) (hl : litElems τ 0 parts = some l) (hln : l.length = n)
    (hp : All2 (fun p u => p.1 = u.1 ∧ RelPV g w p.2 u.2 ∧ belowPV b m p.2 = true) parts us) :
    ∃ cells, (Instr.buildSlice t n us.toArray).run P w = .ok (.slice (some ⟨w.heap.size, 0, none⟩) l.length l.length) (w.alloc (.cells cells.toArray e)) ∧ cells.length = l.length * τ.size ∧ RowR (RelD w g.prot τ) τ.size l cells := by
  subst hln
  obtain ⟨zv, hzv, _, _⟩ := zeroCells_run (g := g) (w := w) (b := b) (m := m) hz
  have hsz := elemTy_size hτ
  have key : ∀ zero : Array Value, ∃ cells, Instr.fill (fun i => some (i * τ.size, τ.size)) ((Array.range (l.length * τ.size)).map (zero[· % zero.size]!)) us = some cells.toArray ∧ cells.length = l.length * τ.size ∧ RowR (RelD w g.prot τ) τ.size l cells := fun zero => by
    obtain ⟨res, cells, h1, h2, h3, h4⟩ := fill_seq (τ := τ) parts us 0 l ((Array.range (l.length * τ.size)).map (zero[· % zero.size]!)) hl hp (by simp)
    have hres : res = cells.toArray := by
      apply Array.toList_inj.1
      rw [h2]
      simp
    exact ⟨cells, by rw [h1, hres], h3, h4⟩
  have h24 : ¬ (l.length * τ.size > 2 ^ 24) := by omega
  by_cases h0 : l.length * τ.size = 0
  · obtain ⟨cells, h1, h3, h4⟩ := key #[]
    refine ⟨cells, ?_, h3, h4⟩
    unfold Instr.buildSlice
    simp only [Sem.run_bind, run_underlying hu, Result.andThen_ok, run_sizeT hsz, h24, if_false, Sem.run_pure]
    rw [if_pos h0]
    simp only [Sem.run_bind, Sem.run_pure, Result.andThen_ok]
    rw [h1]
    simp [newRow]
  · obtain ⟨cells, h1, h3, h4⟩ := key zv.cells
    refine ⟨cells, ?_, h3, h4⟩
    unfold Instr.buildSlice
    simp only [Sem.run_bind, run_underlying hu, Result.andThen_ok, run_sizeT hsz, h24, if_false, Sem.run_pure]
    rw [if_neg h0]
    simp only [Sem.run_bind, hzv, Sem.run_pure, Result.andThen_ok]
    rw [h1]
    simp [newRow]

end Go.Proofs.YthhllkiefncbnaaDoorSim
