/- Calls. -/
import Derived.Test.YthhllkiefncbnaaDoorSimK
import Derived.Test.YthhllkiefncbnaaDoorSimN
import Derived.RangeFuncIn
import Derived.Below
namespace Go.Proofs.YthhllkiefncbnaaDoorSim
open Go
set_option linter.unusedVariables false
set_option linter.unusedSimpArgs false

variable {P : Program} {cfg : Cfg} {rn : Run} {g g' : Gh} {w w' : World} {st st' : St} {b : Nat → Bool} {m : Nat}

/-- The fence that lets everything in. -/
def FW (ro : Option Nat) : Fence := { Fence.wide with round := ro }
theorem FW_fn (ro : Option Nat) (f : FuncId) : (FW ro).fn f := trivial
theorem FW_room (ro : Option Nat) (n : Nat) : (FW ro).room n := fun _ h => by cases h
theorem FW_depth (ro : Option Nat) : (FW ro).depth = none := rfl

/-- Tokens of the callers, and those from lo up to hi. -/
def tk (b : Nat → Bool) (lo hi : Nat) : Nat → Bool := fun t => b t || (decide (lo ≤ t) && decide (t < hi))

theorem tk_of {b : Nat → Bool} {lo hi t : Nat} (h : b t = true) : tk b lo hi t = true := by simp [tk, h]
theorem tk_iff {b : Nat → Bool} {lo hi t : Nat} : tk b lo hi t = true ↔ b t = true ∨ (lo ≤ t ∧ t < hi) := by simp [tk]

theorem RelSlots.step {tmps : List PV} {vs : Array Value} {b' : Nat → Bool} {m' : Nat} (h : RelSlots g w b m tmps vs) (he : Ext b m g w g' w') (hb : ∀ t, b t = true → b' t = true) (hm : m ≤ m') : RelSlots g' w' b' m' tmps vs :=
  ⟨All2.mono_mem (fun x hx v hr => RelPV.mono he (h.2 x hx) hr) h.1, fun x hx => belowPV.mono hb hm (h.2 x hx)⟩

theorem RelSlots.put {fr : Fr} {a : Act} {pv : PV} {v : Value} (h : RelSlots g w b m fr.tmps a.tmps) (hr : RelPV g w pv v) (hb : belowPV b m pv = true) (d : Option Nat) : RelSlots g w b m (fr.put d pv).tmps (a.put d v).tmps := by
  cases d with
  | none => exact h
  | some d =>
    refine ⟨?_, fun x hx => ?_⟩
    · show All2 _ (fr.tmps.set d pv) (a.tmps.setIfInBounds d v).toList
      rw [Array.toList_setIfInBounds]
      exact h.1.set d hr
    · rcases List.mem_or_eq_of_mem_set hx with hx | rfl
      · exact h.2 x hx
      · exact hb

/-- How a call ends. -/
def CallPost {R : Type} (K : PV → St → Option R) (r : R) (b b' : Nat → Bool) (st : St) (g : Gh) (w : World) : Ending → World → Prop := fun e w' =>
  ∃ v pv st' g', e = .returned v ∧ K pv st' = some r ∧ RelPV g' w' pv v ∧ belowPV (fun t => b' t || (decide (st.next ≤ t) && decide (t < st'.next))) st'.objs.length pv = true ∧
    Inv g' (fun t => b' t || (decide (st.next ≤ t) && decide (t < st'.next))) st' w' ∧ Ext b st.objs.length g w g' w' ∧ st.next ≤ st'.next ∧ st.objs.length ≤ st'.objs.length

/-- Whenever the interpreter's run answers, the machine's does. -/
def RunOk (P : Program) (rn : Run) : Prop := ∀ (R : Type) (tgt : Tgt) (args : List PV) (st : St) (K : PV → St → Option R) (r : R), rn R tgt args st K = some r →
  ∀ (g : Gh) (b : Nat → Bool) (w : World) (vals : List Value), All2 (RelPV g w) args vals → (∀ x ∈ args, belowPV b st.objs.length x = true) → Inv g b st w → (∀ t, b t = true → t < st.next) →
  match tgt with
  | .fn f => (P.funcs[f]?.bind (·.body)).isSome = true ∧ ∀ n, CallsIn (FW none) n P f vals.toArray w (CallPost K r b b st g w)
  | .round o => ∃ fn tmps assign body, (Instr.yield (g.phi o) vals.toArray).run P w = .ok (.round (g.phi o) fn tmps assign body) w ∧ ∀ n, RoundIn (FW none) n P (g.phi o) fn tmps assign body w (CallPost K r b b st g w)

/-- The library's functions that are taken by what is known of them answer so. -/
def ShOk (P : Program) : Prop := ∀ (f k : Nat) (args : List PV) (v : PV), shNum f = some k → shC k args = some (true, v) → (∀ (b : Nat → Bool) (m : Nat), belowPV b m v = true) ∧ (P.funcs[f]?.bind (·.body)).isSome = true ∧
    ∀ (g : Gh) (w : World) (vals : List Value), All2 (RelPV g w) args vals → Calls P f vals.toArray w fun e w' => ∃ (u : Value) (pr : Nat → Nat → Prop), e = .returned u ∧ RowKit.Below w.heap.size w w' ∧
      (∀ k off, pr k off → w.heap.size ≤ k ∧ k < w'.heap.size) ∧ ∀ g' : Gh, (∀ k off, pr k off → g'.prot k off) → RelPV g' w' v u

/-- What is asked of the functions without a Go body, and of the functions' names. -/
structure ProgOk (P : Program) : Prop where
  names : ∀ (f : Nat) (fn : Func), P.funcs[f]? = some fn → (fn.name == "runtime.NumGoroutine") = false
  mixed : P.follows .mixedOrders = true
  ext : ∀ (f : Nat) (name : String) (args : List PV) (v : PV), extName P f = some name → extC name args = some v → ∀ (g : Gh) (w : World) (vals : List Value), All2 (RelPV g w) args vals →
    ∃ u, (callFunc f vals.toArray).run P w = .ok (.value u) w ∧ (∀ (g : Gh) (w : World), RelPV g w v u) ∧ ∀ (b : Nat → Bool) (m : Nat), belowPV b m v = true
  shelf : ShOk P

theorem CallPost.mono_b {R : Type} {K : PV → St → Option R} {r : R} {b1 b2 b2' : Nat → Bool} {e : Ending} (h : CallPost K r b1 b2 st g w e w') (hb : ∀ t, b2 t = true → b2' t = true) : CallPost K r b1 b2' st g w e w' := by
  obtain ⟨v, pv, st', g', h1, h2, h3, h4, h5, h6⟩ := h
  have hm : ∀ t, (b2 t || (decide (st.next ≤ t) && decide (t < st'.next))) = true → (b2' t || (decide (st.next ≤ t) && decide (t < st'.next))) = true := fun t ht => by
    simp only [Bool.or_eq_true] at ht ⊢
    exact ht.imp (hb t) id
  exact ⟨v, pv, st', g', h1, h2, h3, belowPV.mono hm (Nat.le_refl _) h4, h5.mono_b hm, h6⟩

/-! ### What is handed over settles -/
theorem ro_rel {t : Tok} {τ : Ty} {l : List τ.den} {v : Value} (h : RelC g w (.slice t τ l) v) : RelC g w (.slice .ro τ l) v := ⟨h.1, fun k r hk _ => by cases hk⟩

/-- A row that is never written again. -/
theorem freeze_ok (hi : Inv g b st w) {o : Nat} {τ : Ty} {l : List τ.den} {fz : Bool} (ho : st.objs[o]? = some (.row τ l fz)) {v : Value} (hv : RelC g w (.mslice o) v) :
    ∃ g', RelC g' w (.slice .ro τ l) v ∧ Inv g' b (setObj st o (.row τ l true)) w ∧ Ext b st.objs.length g w g' w := by
  have holt := (List.getElem?_eq_some_iff.1 ho).1
  have hob := hi.objs o _ ho
  obtain ⟨hf, ht, vs, ty, fr, cap, hh, hfr, hm, hc1, hc2, hrow⟩ := hob
  have hpe : ∀ k off, (g.prot k off ∨ k = g.phi o) → k < w.heap.size := fun k off h => by
    rcases h with h | h
    · exact hi.protEx k off h
    · rw [h]; exact block_lt hh
  have hpo : ∀ k off, k ≠ g.phi o → (g.prot k off ∨ k = g.phi o) → g.prot k off := fun k off hk h => h.elim id (fun q => absurd q hk)
  have he : Ext b st.objs.length g w { g with prot := fun k off => g.prot k off ∨ k = g.phi o } w :=
    { os := rfl, tape := rfl, output := rfl, size := Nat.le_refl _, hid := fun _ h => h, hidden := fun _ _ => rfl, cells := fun _ _ _ => rfl, prot := fun _ _ h => .inl h,
      newp := fun k off hk h => hpo k off (fun e => hi.ohid o ⟨_, ho, trivial⟩ (e ▸ hk)) h, phi := fun _ _ => rfl, mrow := fun _ _ => rfl, tok := fun _ _ => .inl rfl }
  have hrow' : RowR (RelD w (fun k off => g.prot k off ∨ k = g.phi o) τ) τ.size l vs := hrow.mono fun x cs => RelD.mono (fun k off h => .inl h) (fun _ _ _ => rfl) τ x cs
  refine ⟨_, ⟨?_, fun k r hk _ => by cases hk⟩, ?_, he⟩
  · have hv' : v = .slice (some ⟨g.phi o, 0, none⟩) l.length cap := by
      have : v = .slice (some ⟨g.phi o, 0, none⟩) (g.mrow o).1 (g.mrow o).2 := hv
      rw [this, hm]
    rw [hv']
    exact RowR.slice (vs := vs) hrow' (fun x cs h => RelD.length τ x cs h) hc1 hc2 (fun off _ => .inr rfl) (fun j _ => by rw [cell_of_block hh]; simp)
  · refine Inv.step (ch := fun k => k = g.phi o) (st' := setObj st o (.row τ l true)) hi he (fun _ h => h) (fun k _ hk => ⟨rfl, fun off h => hpo k off hk h⟩) rfl hpe (by simp [setObj]) ?_ (fun t ht => ?_) hi.dead hi.lt (fun t r h => .inl h)
    · intro i y hy
      simp only [setObj, List.getElem?_set] at hy
      by_cases e : o = i
      · subst e
        rw [if_pos rfl, if_pos holt] at hy
        cases hy
        exact .inr ⟨⟨(fun h => by cases h), fun _ off => .inr rfl, vs, ty, fr, cap, hh, hfr, hm, hc1, hc2, hrow'⟩, trivial, fun _ => ⟨_, ho, trivial⟩⟩
      · rw [if_neg e] at hy
        exact .inl ⟨hy, fun hs q => e (hi.inj o i ⟨_, ho, trivial⟩ ⟨_, hy, hs⟩ q.symm)⟩
    · obtain ⟨r, hr, ok⟩ := hi.toks t ht
      exact ⟨r, hr, .inl ⟨hr, ht, fun k hk e => hi.sep t r k o hr hk ⟨_, ho, trivial⟩ e.symm⟩⟩

theorem freezeV_ok (hi : Inv g b st w) {o : Nat} {τ : Ty} {l : List τ.den} {fz : Bool} (ho : st.objs[o]? = some (.vec τ l fz)) {v : Value} (hv : RelC g w (.vslice o) v) :
    ∃ g', RelC g' w (.slice .ro τ l) v ∧ Inv g' b (setObj st o (.vec τ l true)) w ∧ Ext b st.objs.length g w g' w := by
  have holt := (List.getElem?_eq_some_iff.1 ho).1
  obtain ⟨cap, hm, hob⟩ := hi.objs o _ ho
  have hv' : v = vecV (g.phi o) (l.length, cap) := by
    have : v = vecV (g.phi o) (g.mrow o) := hv
    rw [this, hm]
  by_cases hne : l = []
  · subst hne
    refine ⟨g, ⟨⟨none, 0, hv', Nat.le_refl _, by simp [maxL], fun i x hx => by simp at hx⟩, fun k r hk _ => by cases hk⟩, ?_, Ext.refl _ _ _ _⟩
    refine Inv.step (ch := fun _ => False) (st' := setObj st o (.vec τ [] true)) hi (Ext.refl _ _ _ _) (fun _ h => h) (fun k _ _ => ⟨rfl, fun off h => h⟩) rfl hi.protEx (by simp [setObj]) ?_ (fun t ht => ?_) hi.dead hi.lt (fun t r h => .inl h)
    · intro i y hy
      simp only [setObj, List.getElem?_set] at hy
      by_cases e : o = i
      · subst e
        rw [if_pos rfl, if_pos holt] at hy
        cases hy
        exact .inr ⟨⟨cap, hm, fun h => absurd rfl h⟩, trivial, fun h => absurd rfl h⟩
      · rw [if_neg e] at hy
        exact .inl ⟨hy, fun _ q => q⟩
    · obtain ⟨r, hr, ok⟩ := hi.toks t ht
      exact ⟨r, hr, .inl ⟨hr, ht, fun _ _ q => q⟩⟩
  have hs : Sol st.objs o := ⟨_, ho, hne⟩
  have hln : l.length ≠ 0 := fun e => hne (List.eq_nil_of_length_eq_zero e)
  obtain ⟨h0, hf, ht, vs, ty, hh, hvl, hc1, hc2, hrow⟩ := hob hne
  have hpe : ∀ k off, (g.prot k off ∨ k = g.phi o) → k < w.heap.size := fun k off h => by
    rcases h with h | h
    · exact hi.protEx k off h
    · rw [h]; exact block_lt hh
  have hpo : ∀ k off, k ≠ g.phi o → (g.prot k off ∨ k = g.phi o) → g.prot k off := fun k off hk h => h.elim id (fun q => absurd q hk)
  have he : Ext b st.objs.length g w { g with prot := fun k off => g.prot k off ∨ k = g.phi o } w :=
    { os := rfl, tape := rfl, output := rfl, size := Nat.le_refl _, hid := fun _ h => h, hidden := fun _ _ => rfl, cells := fun _ _ _ => rfl, prot := fun _ _ h => .inl h,
      newp := fun k off hk h => hpo k off (fun e => hi.ohid o hs (e ▸ hk)) h, phi := fun _ _ => rfl, mrow := fun _ _ => rfl, tok := fun _ _ => .inl rfl }
  have hrow' : RowR (RelD w (fun k off => g.prot k off ∨ k = g.phi o) τ) τ.size l vs := hrow.mono fun x cs => RelD.mono (fun k off h => .inl h) (fun _ _ _ => rfl) τ x cs
  refine ⟨_, ⟨?_, fun k r hk _ => by cases hk⟩, ?_, he⟩
  · rw [hv', vecV, if_neg hln]
    exact RowR.slice (vs := vs) hrow' (fun x cs h => RelD.length τ x cs h) hc1 hc2 (fun off _ => .inr rfl) (fun j _ => by rw [cell_of_block hh]; simp)
  · refine Inv.step (ch := fun k => k = g.phi o) (st' := setObj st o (.vec τ l true)) hi he (fun _ h => h) (fun k _ hk => ⟨rfl, fun off h => hpo k off hk h⟩) rfl hpe (by simp [setObj]) ?_ (fun t ht => ?_) hi.dead hi.lt (fun t r h => .inl h)
    · intro i y hy
      simp only [setObj, List.getElem?_set] at hy
      by_cases e : o = i
      · subst e
        rw [if_pos rfl, if_pos holt] at hy
        cases hy
        exact .inr ⟨⟨cap, hm, fun _ => ⟨h0, (fun h => by cases h), fun _ off => .inr rfl, vs, ty, hh, hvl, hc1, hc2, hrow'⟩⟩, trivial, fun _ => hs⟩
      · rw [if_neg e] at hy
        exact .inl ⟨hy, fun hs' q => e (hi.inj o i hs ⟨_, hy, hs'⟩ q.symm)⟩
    · obtain ⟨r, hr, ok⟩ := hi.toks t ht
      exact ⟨r, hr, .inl ⟨hr, ht, fun k hk e => hi.sep t r k o hr hk hs e.symm⟩⟩

theorem settleC_ok (hi : Inv g b st w) {x y : C} {st' : St} {v : Value} (h : settleC st x = some (y, st')) (hx : RelC g w x v) (hb : belowC b st.objs.length x = true) :
    ∃ g', RelC g' w y v ∧ belowC b st'.objs.length y = true ∧ Inv g' b st' w ∧ Ext b st.objs.length g w g' w ∧ st'.objs.length = st.objs.length ∧ st'.next = st.next := by
  cases x with
  | mslice o =>
    simp only [settleC] at h
    split at h
    · rename_i τ l fz ho
      cases h
      obtain ⟨g', h1, h2, h3⟩ := freeze_ok hi ho hx
      exact ⟨g', h1, rfl, h2, h3, by simp [setObj], rfl⟩
    · cases h
  | vslice o =>
    simp only [settleC] at h
    split at h
    · rename_i τ l fz ho
      cases h
      obtain ⟨g', h1, h2, h3⟩ := freezeV_ok hi ho hx
      exact ⟨g', h1, rfl, h2, h3, by simp [setObj], rfl⟩
    · cases h
  | slice t τ l =>
    simp only [settleC, Option.some.injEq, Prod.mk.injEq] at h
    obtain ⟨rfl, rfl⟩ := h
    exact ⟨g, ro_rel hx, rfl, hi, Ext.refl _ _ _ _, rfl, rfl⟩
  | _ =>
    simp only [settleC, Option.some.injEq, Prod.mk.injEq] at h
    obtain ⟨rfl, rfl⟩ := h
    exact ⟨g, hx, hb, hi, Ext.refl _ _ _ _, rfl, rfl⟩

theorem settleCs_ok : ∀ {xs ys : List C} {st st' : St} {g : Gh} {vs : List Value}, Inv g b st w → settleCs st xs = some (ys, st') → All2 (RelC g w) xs vs → (∀ x ∈ xs, belowC b st.objs.length x = true) →
    ∃ g', All2 (RelC g' w) ys vs ∧ (∀ y ∈ ys, belowC b st'.objs.length y = true) ∧ Inv g' b st' w ∧ Ext b st.objs.length g w g' w ∧ st'.objs.length = st.objs.length ∧ st'.next = st.next
  | [], ys, st, st', g, [], hi, h, _, _ => by
    simp only [settleCs, Option.some.injEq, Prod.mk.injEq] at h
    obtain ⟨rfl, rfl⟩ := h
    exact ⟨g, trivial, by simp, hi, Ext.refl _ _ _ _, rfl, rfl⟩
  | x :: xs, ys, st, st', g, v :: vs, hi, h, hr, hb => by
    simp only [settleCs] at h
    split at h
    · rename_i y st1 h1
      split at h
      · rename_i ys' st2 h2
        cases h
        obtain ⟨g1, r1, b1, i1, e1, l1, n1⟩ := settleC_ok hi h1 hr.1 (hb x (by simp))
        obtain ⟨g2, r2, b2, i2, e2, l2, n2⟩ := settleCs_ok i1 h2 (RelCs.mono e1 (fun z hz => hb z (by simp [hz])) hr.2) (fun z hz => by rw [l1]; exact hb z (by simp [hz]))
        rw [l1] at e2
        refine ⟨g2, ⟨RelC.mono e2 (by rw [← l1]; exact b1) r1, r2⟩, fun z hz => ?_, i2, e1.trans e2, by omega, by omega⟩
        rcases List.mem_cons.1 hz with rfl | hz
        · rw [l2]; exact b1
        · exact b2 z hz
      · cases h
    · cases h
  | [], _, _, _, _, _ :: _, _, _, h, _ => h.elim
  | _ :: _, _, _, _, _, [], _, _, h, _ => h.elim

theorem settlePV_ok (hi : Inv g b st w) {x y : PV} {st' : St} {v : Value} (h : settlePV st x = some (y, st')) (hx : RelPV g w x v) (hb : belowPV b st.objs.length x = true) :
    ∃ g', RelPV g' w y v ∧ belowPV b st'.objs.length y = true ∧ Inv g' b st' w ∧ Ext b st.objs.length g w g' w ∧ st'.objs.length = st.objs.length ∧ st'.next = st.next := by
  cases x with
  | c x =>
    simp only [settlePV, Option.map_eq_some_iff, Prod.mk.injEq] at h
    obtain ⟨⟨y', s⟩, h1, rfl, rfl⟩ := h
    exact settleC_ok hi h1 hx hb
  | agg cs =>
    simp only [settlePV, Option.map_eq_some_iff, Prod.mk.injEq] at h
    obtain ⟨⟨y', s⟩, h1, rfl, rfl⟩ := h
    obtain ⟨vs, rfl, hr⟩ := hx
    obtain ⟨g', r1, b1, i1, e1, l1, n1⟩ := settleCs_ok hi h1 hr (by simpa [belowPV] using hb)
    exact ⟨g', ⟨vs, rfl, r1⟩, belowPV_agg b1, i1, e1, l1, n1⟩
  | _ => simp [settlePV] at h

theorem settlePVs_ok : ∀ {xs ys : List PV} {st st' : St} {g : Gh} {vs : List Value}, Inv g b st w → settlePVs st xs = some (ys, st') → All2 (RelPV g w) xs vs → (∀ x ∈ xs, belowPV b st.objs.length x = true) →
    ∃ g', All2 (RelPV g' w) ys vs ∧ (∀ y ∈ ys, belowPV b st'.objs.length y = true) ∧ Inv g' b st' w ∧ Ext b st.objs.length g w g' w ∧ st'.objs.length = st.objs.length ∧ st'.next = st.next
  | [], ys, st, st', g, [], hi, h, _, _ => by
    simp only [settlePVs, Option.some.injEq, Prod.mk.injEq] at h
    obtain ⟨rfl, rfl⟩ := h
    exact ⟨g, trivial, by simp, hi, Ext.refl _ _ _ _, rfl, rfl⟩
  | x :: xs, ys, st, st', g, v :: vs, hi, h, hr, hb => by
    simp only [settlePVs] at h
    split at h
    · rename_i y st1 h1
      split at h
      · rename_i ys' st2 h2
        cases h
        obtain ⟨g1, r1, b1, i1, e1, l1, n1⟩ := settlePV_ok hi h1 hr.1 (hb x (by simp))
        obtain ⟨g2, r2, b2, i2, e2, l2, n2⟩ := settlePVs_ok i1 h2 (All2.mono_mem (fun z hz _ h => RelPV.mono e1 (hb z (by simp [hz])) h) hr.2) (fun z hz => by rw [l1]; exact hb z (by simp [hz]))
        rw [l1] at e2
        refine ⟨g2, ⟨RelPV.mono e2 (by rw [← l1]; exact b1) r1, r2⟩, fun z hz => ?_, i2, e1.trans e2, by omega, by omega⟩
        rcases List.mem_cons.1 hz with rfl | hz
        · rw [l2]; exact b1
        · exact b2 z hz
      · cases h
    · cases h
  | [], _, _, _, _, _ :: _, _, _, h, _ => h.elim
  | _ :: _, _, _, _, _, [], _, _, h, _ => h.elim

end Go.Proofs.YthhllkiefncbnaaDoorSim
