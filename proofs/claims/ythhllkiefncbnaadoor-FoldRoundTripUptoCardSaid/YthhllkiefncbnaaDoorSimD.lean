/- Slicing, parts, addresses, loads: what the machine does is what the interpreter says. -/
import Derived.Test.YthhllkiefncbnaaDoorSimC
namespace Go.Proofs.YthhllkiefncbnaaDoorSim
open Go
set_option linter.unusedVariables false
set_option linter.unusedSimpArgs false

variable {P : Program} {g : Gh} {w : World} {st : St} {b : Nat → Bool} {m : Nat}

def RelO (g : Gh) (w : World) : Option PV → Option Value → Prop
  | none, none => True
  | some x, some v => RelPV g w x v
  | _, _ => False

theorem sliceBound_ok {k : IntKind} {n : Int} {y : Nat} {code : BoundsCode} (h0 : 0 ≤ n) (h1 : n ≤ y) : (Instr.sliceBound (.int k n) y code).run P w = .ok n.toNat w := by
  simp [Instr.sliceBound, asIntOf, h0, h1]

theorem boundHi_form {hi : Option PV} {uh : Option Value} {len : Nat} {c : Int} (hh : RelO g w hi uh) (hc : boundHi hi len = some c) : (uh = none ∧ c = len) ∨ ∃ k, uh = some (.int k c) := by
  unfold boundHi at hc
  split at hc
  · cases uh with
    | none => cases hc; exact .inl ⟨rfl, rfl⟩
    | some v => exact hh.elim
  · cases hc
    cases uh with
    | none => exact hh.elim
    | some v => exact .inr ⟨_, by rw [hh.1]⟩
  · cases hc

theorem boundLo_form {lo : Option PV} {ul : Option Value} {a : Int} (hl : RelO g w lo ul) (ha : boundLo lo = some a) : (ul = none ∧ a = 0) ∨ ∃ k, ul = some (.int k a) := by
  unfold boundLo at ha
  split at ha
  · cases ul with
    | none => cases ha; exact .inl ⟨rfl, rfl⟩
    | some v => exact hl.elim
  · cases ha
    cases ul with
    | none => exact hl.elim
    | some v => exact .inr ⟨_, by rw [hl.1]⟩
  · cases ha

theorem sliceBounds_ok {isS : Bool} {len cap : Nat} {lo hi : Option PV} {ul uh : Option Value} {a c : Int} (hl : RelO g w lo ul) (hh : RelO g w hi uh)
    (ha : boundLo lo = some a) (hc : boundHi hi len = some c) (h : 0 ≤ a ∧ a ≤ c ∧ c ≤ len) (hcap : len ≤ cap) :
    (Instr.sliceBounds isS len cap ul uh none).run P w = .ok (a.toNat, c.toNat, cap) w := by
  unfold Instr.sliceBounds
  rcases boundLo_form hl ha with ⟨rfl, rfl⟩ | ⟨k, rfl⟩ <;> rcases boundHi_form hh hc with ⟨rfl, rfl⟩ | ⟨k', rfl⟩
  · simp
  · simp [sliceBound_ok (show 0 ≤ c by omega) (show c ≤ (cap : Int) by omega)]
  · simp [sliceBound_ok (show 0 ≤ a by omega) (show a ≤ (len : Int) by omega)]
  · simp [sliceBound_ok (show 0 ≤ c by omega) (show c ≤ (cap : Int) by omega), sliceBound_ok (show 0 ≤ a by omega) (show a ≤ (c.toNat : Int) by omega)]

theorem bl_extract (s : ByteArray) (a c : Nat) : bl (s.extract a c) = ((bl s).take c).drop a := by
  unfold bl
  simp [ByteArray.data_extract, List.extract_eq_take_drop, List.drop_take, List.map_take, List.map_drop]

theorem SliceR.sub {α : Type} {prot : Nat → Nat → Prop} {R : α → List Value → Prop} {sz : Nat} {l : List α} {a0 : Option Addr} {cap a c : Nat}
    (h : SliceR w prot R sz l (.slice a0 l.length cap)) (h1 : a ≤ c) (h2 : c ≤ l.length) :
    SliceR w prot R sz ((l.take c).drop a) (.slice (if cap = a then a0 else a0.map (·.add (a * sz))) (c - a) (cap - a)) := by
  obtain ⟨a1, cap1, e, hle, hcap, hall⟩ := h
  simp only [Value.slice.injEq, true_and] at e
  obtain ⟨rfl, rfl⟩ := e
  have hlen : ((l.take c).drop a).length = c - a := by simp; omega
  refine ⟨_, cap - a, by rw [hlen], by rw [hlen]; omega, by omega, fun i x hx => ?_⟩
  rw [List.getElem?_drop, List.getElem?_take] at hx
  split at hx
  · rename_i hlt
    obtain ⟨bk, off, cs, rfl, hr, hl, hc⟩ := hall (a + i) x hx
    refine ⟨bk, off + a * sz, cs, ?_, hr, hl, fun j u hu => ?_⟩
    · rw [if_neg (by omega)]
      simp only [Option.map_some, Option.some.injEq]
      unfold Addr.add; split <;> simp_all
    · have := hc j u hu
      rw [show off + (a + i) * sz + j = off + a * sz + i * sz + j by rw [Nat.add_mul]; omega] at this
      exact this
  · cases hx

theorem underlying_notArr {t : TypeId} {d : TypeDesc} (hu : P.underlying t = some d) (h : ∀ n e, d ≠ .array n e) (x : Value) (lo hi mx : Option Value) :
    (Instr.sliceAt t x lo hi mx).run P w = (Instr.slice t x lo hi mx).run P w := by
  unfold Instr.sliceAt
  simp only [Sem.run_bind, run_underlying hu, Result.andThen_ok]

theorem sliceC_ok {t : TypeId} {x : PV} {u : Value} {lo hi : Option PV} {ul uh : Option Value} {c : PV} (h : sliceC P t x lo hi = some (true, c)) (hx : RelPV g w x u)
    (hl : RelO g w lo ul) (hh : RelO g w hi uh) : ValOk P g b m w (Instr.sliceAt t u ul uh none) c := by
  unfold ValOk
  unfold sliceC at h
  split at h
  · rename_i l hu
    split at h
    · rename_i a c' ha hc
      simp only [Option.some.injEq, Prod.mk.injEq, decide_eq_true_eq] at h
      obtain ⟨hb, rfl⟩ := h
      obtain ⟨s, rfl, rfl, hs⟩ := hx
      rw [bl_length] at hb hc
      rw [underlying_notArr hu (by simp)]
      refine ⟨.string (s.extract a.toNat c'.toNat), ?_, ⟨_, rfl, bl_extract _ _ _, by simp; omega⟩, rfl⟩
      unfold Instr.slice
      simp [run_underlying hu, sliceBounds_ok (P := P) hl hh ha hc hb (Nat.le_refl _)]
    · cases h
  · rename_i e t' τ l hu
    split at h
    · rename_i a c' ha hc
      split at h
      · rename_i hsz
        simp only [Option.some.injEq, Prod.mk.injEq, decide_eq_true_eq] at h
        obtain ⟨hb, rfl⟩ := h
        obtain ⟨hx, _⟩ := hx
        obtain ⟨a0, cap, rfl, hle, hcap, hall⟩ := id hx
        rw [underlying_notArr hu (by simp)]
        refine ⟨_, ?_, ⟨SliceR.sub hx (a := a.toNat) (c := c'.toNat) (by omega) (by omega), fun k r hk _ => by cases hk⟩, rfl⟩
        unfold Instr.slice
        simp [run_underlying hu, sliceBounds_ok (P := P) hl hh ha hc hb hle, run_sizeT hsz]
      · cases h
    · cases h
  · rename_i e hu
    split at h
    · rename_i a c' n ha hc hsz
      simp only [Option.some.injEq, Prod.mk.injEq, decide_eq_true_eq] at h
      obtain ⟨hb, rfl⟩ := h
      rw [show u = _ from hx]
      rw [underlying_notArr hu (by simp)]
      have ea : a.toNat = 0 := by omega
      have ec : c'.toNat = 0 := by omega
      refine ⟨.slice none 0 0, ?_, rfl, rfl⟩
      unfold Instr.slice
      simp [run_underlying hu, sliceBounds_ok (P := P) hl hh ha hc hb (Nat.le_refl _), run_sizeT hsz, ea, ec]
    · cases h
  · cases h


theorem SliceR.sub3 {α : Type} {prot : Nat → Nat → Prop} {R : α → List Value → Prop} {sz : Nat} {l : List α} {a0 : Option Addr} {cap a c d : Nat}
    (h : SliceR w prot R sz l (.slice a0 l.length cap)) (h1 : a ≤ c) (h2 : c ≤ d) (h3 : d ≤ l.length) :
    SliceR w prot R sz ((l.take c).drop a) (.slice (if d = a then a0 else a0.map (·.add (a * sz))) (c - a) (d - a)) := by
  obtain ⟨a1, cap1, e, hle, hcap, hall⟩ := h
  simp only [Value.slice.injEq, true_and] at e
  obtain ⟨rfl, rfl⟩ := e
  have hlen : ((l.take c).drop a).length = c - a := by simp; omega
  refine ⟨_, d - a, by rw [hlen], by rw [hlen]; omega, by omega, fun i x hx => ?_⟩
  rw [List.getElem?_drop, List.getElem?_take] at hx
  split at hx
  · rename_i hlt
    obtain ⟨bk, off, cs, rfl, hr, hl, hc⟩ := hall (a + i) x hx
    refine ⟨bk, off + a * sz, cs, ?_, hr, hl, fun j u hu => ?_⟩
    · rw [if_neg (by omega)]
      simp only [Option.map_some, Option.some.injEq]
      unfold Addr.add; split <;> simp_all
    · have := hc j u hu
      rw [show off + (a + i) * sz + j = off + a * sz + i * sz + j by rw [Nat.add_mul]; omega] at this
      exact this
  · cases hx

theorem sliceBounds3_ok {k k' : IntKind} {len cap : Nat} {lo : Option PV} {ul : Option Value} {a c d : Int} (hl : RelO g w lo ul)
    (ha : boundLo lo = some a) (h : 0 ≤ a ∧ a ≤ c ∧ c ≤ d ∧ d ≤ len) (hcap : len ≤ cap) :
    (Instr.sliceBounds true len cap ul (some (.int k c)) (some (.int k' d))).run P w = .ok (a.toNat, c.toNat, d.toNat) w := by
  unfold Instr.sliceBounds
  rcases boundLo_form hl ha with ⟨rfl, rfl⟩ | ⟨k, rfl⟩
  · simp [sliceBound_ok (show 0 ≤ c by omega) (show c ≤ (d.toNat : Int) by omega), sliceBound_ok (show 0 ≤ d by omega) (show d ≤ (cap : Int) by omega)]
  · simp [sliceBound_ok (show 0 ≤ c by omega) (show c ≤ (d.toNat : Int) by omega), sliceBound_ok (show 0 ≤ d by omega) (show d ≤ (cap : Int) by omega), sliceBound_ok (show 0 ≤ a by omega) (show a ≤ (c.toNat : Int) by omega)]

theorem slice3C_ok {t : TypeId} {x hi mx : PV} {u uh um : Value} {lo : Option PV} {ul : Option Value} {c : PV} (h : slice3C P t x lo hi mx = some (true, c)) (hx : RelPV g w x u)
    (hl : RelO g w lo ul) (hh : RelPV g w hi uh) (hm : RelPV g w mx um) : ValOk P g b m w (Instr.sliceAt t u ul (some uh) (some um)) c := by
  unfold ValOk
  unfold slice3C at h
  split at h
  · rename_i e t' τ l k c' k' d hu
    split at h
    · rename_i a ha
      split at h
      · rename_i hsz
        simp only [Option.some.injEq, Prod.mk.injEq, decide_eq_true_eq] at h
        obtain ⟨hb, rfl⟩ := h
        obtain ⟨hx, _⟩ := hx
        obtain ⟨rfl, _⟩ := hh
        obtain ⟨rfl, _⟩ := hm
        obtain ⟨a0, cap, rfl, hle, hcap, hall⟩ := id hx
        rw [underlying_notArr hu (by simp)]
        refine ⟨_, ?_, ⟨SliceR.sub3 hx (a := a.toNat) (c := c'.toNat) (d := d.toNat) (by omega) (by omega) (by omega), fun k r hk _ => by cases hk⟩, rfl⟩
        unfold Instr.slice
        simp [run_underlying hu, sliceBounds3_ok (P := P) hl ha hb hle, run_sizeT hsz]
      · cases h
    · cases h
  · rename_i e k c' k' d hu
    split at h
    · rename_i a n ha hsz
      simp only [Option.some.injEq, Prod.mk.injEq, decide_eq_true_eq] at h
      obtain ⟨hb, rfl⟩ := h
      obtain ⟨rfl, _⟩ := hh
      obtain ⟨rfl, _⟩ := hm
      rw [show u = _ from hx]
      rw [underlying_notArr hu (by simp)]
      have ea : a.toNat = 0 := by omega
      have ec : c'.toNat = 0 := by omega
      have ed : d.toNat = 0 := by omega
      refine ⟨.slice none 0 0, ?_, rfl, rfl⟩
      unfold Instr.slice
      simp [run_underlying hu, sliceBounds3_ok (P := P) hl ha hb (Nat.le_refl _), run_sizeT hsz, ea, ec, ed]
    · cases h
  · cases h

theorem add_none (b off n : Nat) : (⟨b, off, none⟩ : Addr).add n = ⟨b, off + n, none⟩ := by
  unfold Addr.add; split <;> simp_all

theorem belowPV_agg {cs : List C} (h : ∀ x ∈ cs, belowC b m x = true) : belowPV b m (.agg cs) = true := by simpa [belowPV] using h

theorem part_ok {t : TypeId} {cs : List C} {vs : List Value} {off : Nat} {c : PV} (h : getPart P t cs off = some c) (hr : All2 (RelC g w) cs vs) (hb : ∀ x ∈ cs, belowC b m x = true) :
    ValOk P g b m w (part t vs.toArray off) c := by
  unfold getPart at h
  split at h
  · rename_i n hn ha
    split at h
    · rename_i hle
      cases h
      refine ⟨.agg ((vs.drop off).take n).toArray, ?_, ⟨_, rfl, (hr.drop off).take n⟩, belowPV_agg fun x hx => hb x (List.mem_of_mem_drop (List.mem_of_mem_take hx))⟩
      simp only [part, Sem.run_bind, run_aggT ha, Result.andThen_ok, if_true, run_sizeT hn, Sem.run_pure]
      congr 2
      apply Array.toList_inj.1
      simp [List.extract_eq_take_drop]
    · cases h
  · rename_i n hn ha
    split at h
    · rename_i c' hc
      cases h
      obtain ⟨v, hv, r⟩ := hr.get off c' hc
      refine ⟨v, ?_, r, hb c' (List.mem_of_getElem? hc)⟩
      simp [part, run_aggT ha, hv]
    · cases h
  · cases h

/-- Cells that lie in a row of the memory. -/
def At (w : World) (k off : Nat) (vs : List Value) : Prop := ∀ (j : Nat) (u : Value), vs[j]? = some u → w.cell? ⟨k, off + j, none⟩ = some u

theorem loadVar_ok {t : TypeId} {cs : List C} {vs : List Value} {k o off : Nat} {c : PV} (h : getPart P t cs off = some c) (hr : All2 (RelC g w) cs vs) (hb : ∀ x ∈ cs, belowC b m x = true)
    (ha : At w k o vs) : ValOk P g b m w (loadVar t ⟨k, o + off, none⟩) c := by
  unfold getPart at h
  split at h
  · rename_i n hn hag
    split at h
    · rename_i hle
      cases h
      have hlen : ((vs.drop off).take n).length = n := by have := hr.length; simp; omega
      have hc := run_loadCells_list (P := P) w ⟨k, o + off, none⟩ ((vs.drop off).take n) (fun j v hj => by
        rw [List.getElem?_take, List.getElem?_drop] at hj
        split at hj
        · rw [add_none, Nat.add_assoc]; exact ha _ _ hj
        · cases hj)
      rw [hlen] at hc
      refine ⟨.agg ((vs.drop off).take n).toArray, ?_, ⟨_, rfl, (hr.drop off).take n⟩, belowPV_agg fun x hx => hb x (List.mem_of_mem_drop (List.mem_of_mem_take hx))⟩
      simp [loadVar, run_aggT hag, run_sizeT hn, hc]
    · cases h
  · rename_i n hn hag
    split at h
    · rename_i c' hc
      cases h
      obtain ⟨v, hv, r⟩ := hr.get off c' hc
      refine ⟨v, ?_, r, hb c' (List.mem_of_getElem? hc)⟩
      simp [loadVar, run_aggT hag, ha off v hv]
    · cases h
  · cases h

theorem fieldsOf_eq {t : TypeId} {fs : List Field} (h : fieldsOf P t = some fs) : P.underlying t = some (.struct fs.toArray) := by
  unfold fieldsOf at h
  split at h
  · rename_i f hu; cases h; simpa using hu
  · cases h

theorem field_ok {t : TypeId} {cs : List C} {u : Value} {f : Nat} {fs : List Field} {fd : Field} {c : PV} (hf : fieldsOf P t = some fs) (hd : fs[f]? = some fd) (h : getPart P fd.type cs fd.offset = some c)
    (hr : RelPV g w (.agg cs) u) (hb : belowPV b m (.agg cs) = true) : ValOk P g b m w (Instr.field t u f) c := by
  obtain ⟨vs, rfl, hr⟩ := hr
  obtain ⟨v, hv, r, hv'⟩ := part_ok (P := P) (b := b) (m := m) h hr (by simpa [belowPV] using hb)
  refine ⟨v, ?_, r, hv'⟩
  simp [Instr.field, run_underlying (fieldsOf_eq hf), hd, asAgg, hv]

theorem fieldAddr_ok {t : TypeId} {u : Value} {f : Nat} {fs : List Field} {fd : Field} {n : Nat} (hf : fieldsOf P t = some fs) (hd : fs[f]? = some fd) (hn : sizeT P fd.type = some n) (h0 : n ≠ 0)
    {k off : Nat} (hu : u = .pointer (some ⟨k, off, none⟩)) : (Instr.fieldAt t u f).run P w = .ok (.pointer (some ⟨k, off + fd.offset, none⟩)) w := by
  subst hu
  simp [Instr.fieldAt, run_underlying (fieldsOf_eq hf), hd, Instr.sureAddr, fieldPlace, run_sizeT hn, h0, add_none]

theorem idx_iff {n : Int} {len : Nat} (h : idx n len = true) : 0 ≤ n ∧ n < (len : Int) := by simpa [idx] using h

theorem getD_get {α : Type} {l : List α} {i : Nat} {d : α} (h : i < l.length) : l[i]? = some (l.getD i d) := by
  simp [List.getD, h]

theorem indexSlice_ok {t e : TypeId} {τ : Ty} {l : List τ.den} {u i : Value} {n : Int} {k : IntKind} (hu : P.underlying t = some (.slice e)) (hsz : sizeT P e = some τ.size) (hi : i = .int k n)
    (hr : SliceR w g.prot (RelD w g.prot τ) τ.size l u) (hidx : idx n l.length = true) :
    ValOk P g b m w (Instr.indexAt t u i) (.rptr (toCells τ (l.getD n.toNat τ.dflt))) := by
  obtain ⟨h0, h1⟩ := idx_iff hidx
  obtain ⟨a, cap, rfl, hle, hcap, hall⟩ := hr
  have hlt : n.toNat < l.length := by omega
  obtain ⟨bk, off, cs, rfl, hx, hl, hc⟩ := hall n.toNat _ (getD_get (d := τ.dflt) hlt)
  subst hi
  refine ⟨.pointer (some ⟨bk, off + n.toNat * τ.size, none⟩), ?_, ⟨bk, off + n.toNat * τ.size, cs, rfl, toCells_rel τ _ _ hx, hc⟩, ?_⟩
  · simp [Instr.indexAt, asIntOf, run_underlying hu, h0, h1, run_sizeT hsz, add_none]
  · simp only [belowPV, List.all_eq_true]
    intro x hx
    exact toCells_below τ _ x hx
where
  toCells_below : ∀ (τ : Ty) (y : τ.den) (x : C), x ∈ toCells τ y → belowC b m x = true
    | .int _, _, x, h => by simp [toCells] at h; subst h; rfl
    | .bool, _, x, h => by simp [toCells] at h; subst h; rfl
    | .str, _, x, h => by simp [toCells] at h; subst h; rfl
    | .unit, _, x, h => by simp [toCells] at h
    | .slice _, _, x, h => by simp [toCells] at h; subst h; rfl
    | .pair a c, y, x, h => by
      simp only [toCells, List.mem_append] at h
      rcases h with h | h
      · exact toCells_below a _ x h
      · exact toCells_below c _ x h

theorem toCells_below {b : Nat → Bool} {m : Nat} (τ : Ty) (y : τ.den) (x : C) (h : x ∈ toCells τ y) : belowC b m x = true := indexSlice_ok.toCells_below τ y x h

theorem indexString_ok {t : TypeId} {l : List Int} {u i : Value} {n : Int} {k : IntKind} (hu : P.underlying t = some .string) (hi : i = .int k n) (hr : StrR l u) (hidx : idx n l.length = true) :
    ValOk P g b m w (Instr.index t u i) (.c (.int .u8 (l.getD n.toNat 0))) := by
  obtain ⟨h0, h1⟩ := idx_iff hidx
  obtain ⟨s, rfl, rfl, hs⟩ := hr
  rw [bl_length] at h1
  have hlt : n.toNat < s.size := by omega
  subst hi
  have e : (bl s).getD n.toNat 0 = ((s[n.toNat]'hlt).toNat : Int) := by
    have hl : n.toNat < s.data.toList.length := by simpa using hlt
    simp only [List.getD, bl, List.getElem?_map, List.getElem?_eq_getElem hl, Option.map_some, Option.getD_some]
    rfl
  refine ⟨.int .u8 ((s[n.toNat]'hlt).toNat : Int), ?_, ⟨by rw [e], ?_⟩, rfl⟩
  · simp [Instr.index, asIntOf, run_underlying hu, h0, hlt]
  · rw [e]
    have := (s[n.toNat]'hlt).toNat_lt
    have e1 : IntKind.u8.min = 0 := by decide
    have e2 : IntKind.u8.max = 255 := by decide
    exact ⟨by rw [e1]; omega, by rw [e2]; omega⟩

theorem arrElems_rel {τ : Ty} : ∀ (n : Nat) (cs : List C) (l : List τ.den) (vs : List Value), arrElems τ n cs = some l → All2 (RelC g w) cs vs →
    l.length = n ∧ vs.length = n * τ.size ∧ ∀ (i : Nat) (x : τ.den), l[i]? = some x → RelD w g.prot τ x ((vs.drop (i * τ.size)).take τ.size)
  | 0, [], l, vs, h, hr => by
    cases vs with
    | nil => simp [arrElems] at h; subst h; simp
    | cons => exact hr.elim
  | 0, _ :: _, l, vs, h, hr => by simp [arrElems] at h
  | n + 1, cs, l, vs, h, hr => by
    simp only [arrElems] at h
    split at h
    · rename_i x r hx
      split at h
      · rename_i l' hl
        cases h
        obtain ⟨v1, v2, rfl, h1, h2⟩ := ofCells_rel τ cs x r vs hx hr
        obtain ⟨e1, e2, e3⟩ := arrElems_rel n r l' v2 hl h2
        have hz := RelD.length τ x v1 h1
        refine ⟨by simp [e1], by simp [hz, e2, Nat.add_mul]; omega, fun i y hy => ?_⟩
        cases i with
        | zero =>
          simp only [List.getElem?_cons_zero, Option.some.injEq] at hy
          subst hy
          simp only [Nat.zero_mul, List.drop_zero]
          rw [← hz, List.take_left]; exact h1
        | succ i =>
          have := e3 i y (by simpa using hy)
          rw [show (i + 1) * τ.size = v1.length + i * τ.size by rw [hz, Nat.add_mul]; omega, ← List.drop_drop, List.drop_left]
          exact this
      · cases h
    · cases h

theorem cellsPV_rel {ag : Bool} {cs : List C} {vs : List Value} {c : PV} (h : cellsPV (some ag) cs = some c) (hr : All2 (RelC g w) cs vs) (hb : ∀ x ∈ cs, belowC b m x = true) :
    ∃ v, v = (if ag then .agg vs.toArray else vs.headD undef) ∧ RelPV g w c v ∧ belowPV b m c = true ∧ (ag = false → vs.length = 1) := by
  unfold cellsPV at h
  split at h
  · rename_i cs' e
    cases e; cases h
    exact ⟨_, rfl, ⟨vs, rfl, hr⟩, belowPV_agg hb, by simp⟩
  · rename_i c' e
    cases e; cases h
    match vs, hr with
    | [v], hr => exact ⟨v, rfl, hr.1, hb c' (by simp), by simp⟩
  · cases h

theorem elemTy_size {e : TypeId} {τ : Ty} (h : elemTy P e = some τ) : sizeT P e = some τ.size := by
  unfold elemTy at h
  split at h
  · split at h
    · rename_i hs; cases h; exact hs
    · cases h
  · cases h

theorem flatN_rel {τ : Ty} {l : List τ.den} {vs : List Value} (h : RowR (RelD w g.prot τ) τ.size l vs) : ∀ n, n ≤ l.length → All2 (RelC g w) (flatN τ l n) (vs.take (n * τ.size))
  | 0, _ => by simp [flatN]; trivial
  | n + 1, hn => by
    simp only [flatN]
    have h1 := flatN_rel h n (by omega)
    have h2 := h.2 n _ (getD_get (d := τ.dflt) (show n < l.length by omega))
    rw [show (n + 1) * τ.size = n * τ.size + τ.size by rw [Nat.add_mul]; omega, List.take_add]
    exact h1.append (toCells_rel τ _ _ h2)

theorem flatN_below {τ : Ty} {l : List τ.den} : ∀ n, ∀ x ∈ flatN τ l n, belowC b m x = true
  | 0, x, h => by simp [flatN] at h
  | n + 1, x, h => by
    simp only [flatN, List.mem_append] at h
    rcases h with h | h
    · exact flatN_below n x h
    · exact toCells_below τ _ x h

theorem wholeRow_ok {t : TypeId} {τ : Ty} {l : List τ.den} {vs : List Value} {n k : Nat} {v : PV} (h : wholeRow P t τ l = some (n, v)) (hn : l.length = n) (hr : RowR (RelD w g.prot τ) τ.size l vs)
    (hc : ∀ j u, vs[j]? = some u → w.cell? ⟨k, j, none⟩ = some u) : ValOk P g b m w (loadVar t ⟨k, 0, none⟩) v := by
  unfold wholeRow at h
  split at h
  · rename_i n' e hu
    simp only [Option.map_eq_some_iff, Prod.mk.injEq] at h
    obtain ⟨v', hv, rfl, rfl⟩ := h
    exact loadVar_ok (o := 0) (off := 0) hv (flatN_rel hr n' (by omega)) (flatN_below n') (fun j u hj => by
      rw [List.getElem?_take] at hj
      split at hj
      · rw [Nat.zero_add]; exact hc j u hj
      · cases hj)
  · cases h

theorem arrInts_rel {k : IntKind} : ∀ {cs : List C} {l : List Int} {vs : List Value}, arrInts k cs = some l → All2 (RelC g w) cs vs →
    l.length = vs.length ∧ ∀ (i : Nat) (n : Int), l[i]? = some n → vs[i]? = some (.int k n) ∧ wf k n
  | [], l, [], h, _ => by
    simp only [arrInts, Option.some.injEq] at h
    subst h
    exact ⟨rfl, fun i n hn => by simp at hn⟩
  | [], _, _ :: _, _, hr => hr.elim
  | x :: cs, l, [], h, hr => hr.elim
  | x :: cs, l, v :: vs, h, hr => by
    cases x with
    | int k' n =>
      simp only [arrInts] at h
      split at h
      · rename_i e
        subst e
        rw [Option.map_eq_some_iff] at h
        obtain ⟨l', hl, rfl⟩ := h
        obtain ⟨e1, e2⟩ := arrInts_rel hl hr.2
        refine ⟨by simp [e1], fun i m hm => ?_⟩
        cases i with
        | zero =>
          simp only [List.getElem?_cons_zero, Option.some.injEq] at hm ⊢
          subst hm
          exact ⟨hr.1.1, hr.1.2⟩
        | succ i =>
          simp only [List.getElem?_cons_succ] at hm ⊢
          exact e2 i m hm
      · cases h
    | _ => simp [arrInts] at h

theorem setInts_rel {k : IntKind} {l : List Int} {i : Nat} {v : Int} {vs : List Value} (hi : i < l.length) (hv : wf k v) (he : ∀ (i : Nat) (n : Int), l[i]? = some n → vs[i]? = some (.int k n) ∧ wf k n) : ∀ (n j : Nat), j + n = l.length → l.length = vs.length →
    All2 (RelC g w) (setInts k l i v j n) ((vs.set i (.int k v)).drop j)
  | 0, j, h1, h2 => by
    rw [List.drop_of_length_le (by simp; omega)]
    trivial
  | n + 1, j, h1, h2 => by
    have hj : j < (vs.set i (.int k v)).length := by simp; omega
    rw [List.drop_eq_getElem_cons hj]
    refine ⟨?_, setInts_rel hi hv he n (j + 1) (by omega) h2⟩
    by_cases e : i = j
    · subst e
      simp only [List.getElem_set_self]
      rw [show (l.set i v).getD i 0 = v by simp [List.getD, hi]]
      exact ⟨rfl, hv⟩
    · have hlj : j < l.length := by omega
      obtain ⟨q1, q2⟩ := he j _ (List.getElem?_eq_getElem hlj)
      rw [show (l.set i v).getD j 0 = l[j] by simp [List.getD, e, hlj]]
      rw [List.getElem_set_ne e]
      rw [List.getElem?_eq_getElem (by omega), Option.some.injEq] at q1
      rw [q1]
      exact ⟨rfl, q2⟩

theorem setInts_length {k : IntKind} {l : List Int} {i : Nat} {v : Int} : ∀ (n j : Nat), (setInts k l i v j n).length = n
  | 0, j => rfl
  | n + 1, j => by simp [setInts, setInts_length n (j + 1)]

theorem indexArr_ok {t e : TypeId} {len : Nat} {τ : Ty} {cs : List C} {l : List τ.den} {u i : Value} {n : Int} {k : IntKind} {c : PV} (hu : P.underlying t = some (.array len e)) (he : elemTy P e = some τ)
    (ha : arrElems τ len cs = some l) (hc : cellsPV (aggT P e) (toCells τ (l.getD n.toNat τ.dflt)) = some c) (hi : i = .int k n) (hr : RelPV g w (.agg cs) u) (hidx : idx n len = true) :
    ValOk P g b m w (Instr.index t u i) c := by
  obtain ⟨h0, h1⟩ := idx_iff hidx
  obtain ⟨vs, rfl, hr⟩ := hr
  obtain ⟨e1, e2, e3⟩ := arrElems_rel len cs l vs ha hr
  have hlt : n.toNat < l.length := by omega
  have hx := e3 n.toNat _ (getD_get (d := τ.dflt) hlt)
  have hz := elemTy_size he
  subst hi
  cases hag : aggT P e with
  | none => rw [hag] at hc; simp [cellsPV] at hc
  | some ag =>
    rw [hag] at hc
    obtain ⟨v, hv, r, hb, h1'⟩ := cellsPV_rel (b := b) (m := m) hc (toCells_rel τ _ _ hx) (fun x hx => toCells_below τ _ x hx)
    refine ⟨v, ?_, r, hb⟩
    simp only [Instr.index, Sem.run_bind, asIntOf, Sem.run_pure, Result.andThen_ok, run_underlying hu, h0, h1, and_self, if_true, run_sizeT hz]
    unfold part
    simp only [Sem.run_bind, run_aggT hag, Result.andThen_ok]
    cases ag with
    | true =>
      simp only [if_true, Sem.run_bind, run_sizeT hz, Result.andThen_ok, Sem.run_pure]
      rw [hv]
      simp only [if_true]
      congr 2
      apply Array.toList_inj.1
      simp [List.extract_eq_take_drop]
    | false =>
      have hl1 := h1' rfl
      simp only [if_false, Bool.false_eq_true]
      obtain ⟨y, hy⟩ : ∃ y, (vs.drop (n.toNat * τ.size)).take τ.size = [y] := by
        match hq : (vs.drop (n.toNat * τ.size)).take τ.size, hl1 with
        | [y], _ => exact ⟨y, rfl⟩
      have : vs[n.toNat * τ.size]? = some y := by
        have := congrArg (·[0]?) hy
        rw [List.getElem?_take, List.getElem?_drop] at this
        split at this
        · simpa using this
        · simp at this
      simp [this, hv, hy]

end Go.Proofs.YthhllkiefncbnaaDoorSim
