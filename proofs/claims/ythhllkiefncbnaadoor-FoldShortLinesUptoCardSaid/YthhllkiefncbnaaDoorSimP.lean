/- A call in a world of its own; any call. -/
import Derived.Test.YthhllkiefncbnaaDoorSimO
namespace Go.Proofs.YthhllkiefncbnaaDoorSim
open Go
set_option linter.unusedVariables false
set_option linter.unusedSimpArgs false

variable {P : Program} {cfg : Cfg} {rn : Run} {g g' : Gh} {w w' : World} {st st' : St} {b : Nat → Bool} {m : Nat}

theorem RelC.plain {x : C} {v : Value} (hb : belowC (fun _ => false) 0 x = true) (hp : g'.prot = g.prot) (h : RelC g w x v) : RelC g' w x v := by
  cases x <;> simp only [belowC, List.all_eq_true, decide_eq_true_eq] at hb
  case slice t τ l =>
    cases t with
    | ro => exact ⟨by rw [hp]; exact h.1, fun k r hk _ => by cases hk⟩
    | own t => cases hb
  case func f caps =>
    have : caps = [] := by
      cases caps with
      | nil => rfl
      | cons p r => have := hb p (by simp); omega
    subst this
    exact h
  all_goals first | exact h | omega

theorem RelPV.plain {x : PV} {v : Value} (hb : belowPV (fun _ => false) 0 x = true) (hp : g'.prot = g.prot) (h : RelPV g w x v) : RelPV g' w x v := by
  cases x with
  | any => trivial
  | c x => exact RelC.plain hb hp h
  | agg cs =>
    obtain ⟨vs, e, hr⟩ := h
    simp only [belowPV, List.all_eq_true] at hb
    exact ⟨vs, e, All2.mono_mem (fun x hx _ h => RelC.plain (hb x hx) hp h) hr⟩
  | tup ps =>
    obtain ⟨vs, e, hr⟩ := h
    simp only [belowPV, List.all_eq_true] at hb
    refine ⟨vs, e, All2.mono_mem (fun p hpm v h => ?_) hr⟩
    cases p with
    | inl x => exact RelC.plain (hb _ hpm x (by simp [partCells])) hp h
    | inr cs => obtain ⟨us, e, hr⟩ := h; exact ⟨us, e, All2.mono_mem (fun x hx _ h => RelC.plain (hb _ hpm x hx) hp h) hr⟩
  | rptr cs =>
    obtain ⟨bk, off, vs, e, hr, hall⟩ := h
    simp only [belowPV, List.all_eq_true] at hb
    exact ⟨bk, off, vs, e, All2.mono_mem (fun x hx _ h => RelC.plain (hb x hx) hp h) hr, fun j u hu => by rw [hp]; exact hall j u hu⟩

/-- The ghost of a callee that sees nothing of its caller's. -/
def Gh.inner (g : Gh) (l : List AObj) : Gh :=
  { hid := fun k => g.hid k ∨ (∃ o, Sol l o ∧ g.phi o = k) ∨ (∃ t r, g.tok t = some r ∧ r.block = some k), prot := g.prot, phi := g.phi, mrow := g.mrow, tok := fun _ => none }

theorem live_of_tok (hi : Inv g b st w) {t : Nat} {r : Row} (h : g.tok t = some r) : t ∈ st.live ∧ RowOk g w r := by
  have hl : t ∈ st.live := Classical.byContradiction fun q => by rw [hi.dead t q] at h; cases h
  obtain ⟨r2, h2, ok⟩ := hi.toks t hl
  rw [h] at h2; cases h2; exact ⟨hl, ok⟩

theorem inner_inv (hi : Inv g b st w) : Inv (g.inner st.objs) (fun _ => false) .empty w where
  objs := fun o x h => by simp [St.empty] at h
  ohid := fun o h => by have := h.lt; simp [St.empty] at this
  inj := fun o o' h => by have := h.lt; simp [St.empty] at this
  below := fun o x h => by simp [St.empty] at h
  toks := fun t h => by simp [St.empty] at h
  dead := fun _ _ => rfl
  lt := fun t h => by simp [St.empty] at h
  dist := fun t t' r r' k h => by cases h
  sep := fun t r k o h => by cases h
  hidLt := fun k hk => by
    rcases hk with h | ⟨o, ho, rfl⟩ | ⟨t, r, ht, hr⟩
    · exact hi.hidLt k h
    · obtain ⟨x, h1, h2⟩ := ho
      exact (hi.objs o x h1).lt h2
    · exact ((live_of_tok hi ht).2.block_lt hr).1
  protEx := hi.protEx
  glob := fun n cs h => GlobAt.mono (g := g) (g' := g.inner st.objs) (fun _ _ h => h) (fun _ _ _ => rfl) (hi.glob n cs h)

/-- Back in the caller's world. -/
theorem inner_back {g2 : Gh} (hi : Inv g b st w) (he : Ext (fun _ => false) 0 (g.inner st.objs) w g2 w') (hpe : ∀ k off, g2.prot k off → k < w'.heap.size) :
    Inv { g with prot := g2.prot } b st w' ∧ Ext b st.objs.length g w { g with prot := g2.prot } w' := by
  have hb : Ext b st.objs.length g w { g with prot := g2.prot } w' :=
    { os := he.os, tape := he.tape, output := he.output, size := he.size, hid := fun _ h => h, hidden := fun k hk => he.hidden k (.inl hk), cells := he.cells, prot := he.prot,
      newp := fun k off hk h => he.newp k off (.inl hk) h, phi := fun _ _ => rfl, mrow := fun _ _ => rfl, tok := fun _ _ => .inl rfl }
  refine ⟨?_, hb⟩
  refine Inv.step (ch := fun k => ¬ (g.inner st.objs).hid k) (st' := st) hi hb (fun _ h => h) (fun k hk hn => ?_) rfl hpe rfl (fun o x h => .inl ⟨h, fun hs q => q (.inr (.inl ⟨o, ⟨x, h, hs⟩, rfl⟩))⟩) (fun t ht => ?_) hi.dead hi.lt (fun t r h => .inl h)
  · have hh : (g.inner st.objs).hid k := Classical.byContradiction hn
    exact ⟨he.hidden k hh, fun off h => he.newp k off hh h⟩
  · obtain ⟨r, hr, ok⟩ := hi.toks t ht
    exact ⟨r, hr, .inl ⟨hr, ht, fun k hk q => q (.inr (.inr ⟨t, r, hr, hk⟩))⟩⟩

/-- A row of the callee's own comes to the caller. -/
theorem Inv.addTok (hi : Inv g b st w) {c : Nat} {r : Row} (hc : b c = false) (hr : RowOk g w r) (hd : ∀ t r' k, g.tok t = some r' → r'.block = some k → r.block = some k → False) (hs : ∀ o k, Sol st.objs o → r.block = some k → g.phi o ≠ k) :
    Inv { g with tok := fun t => if t = c then some r else g.tok t } (fun t => b t || t == c) { st with live := c :: st.live } w ∧ Ext b st.objs.length g w { g with tok := fun t => if t = c then some r else g.tok t } w := by
  have hcl : c ∉ st.live := fun h => by have := hi.lt c h; rw [hc] at this; cases this
  have hct : g.tok c = none := hi.dead c hcl
  have he : Ext b st.objs.length g w { g with tok := fun t => if t = c then some r else g.tok t } w :=
    { Ext.refl b st.objs.length g w with
      tok := fun t ht => by
        have : t ≠ c := fun e => by rw [e, hc] at ht; cases ht
        simp only [this, if_false]
        exact .inl trivial }
  have hbb : ∀ t, b t = true → (b t || t == c) = true := fun t h => by simp [h]
  refine ⟨?_, he⟩
  refine Inv.step (ch := fun _ => False) (st' := { st with live := c :: st.live }) hi he hbb (fun k _ _ => ⟨rfl, fun _ h => h⟩) rfl hi.protEx rfl (fun o x hx => .inl ⟨hx, fun _ => id⟩) (fun t ht => ?_) (fun t ht => ?_) (fun t ht => ?_) (fun t r' h => ?_)
  · rcases List.mem_cons.1 ht with rfl | ht
    · refine ⟨r, by simp, .inr ⟨?_, fun k hk o ho => hs o k ho hk, fun k hk t' r' h1 h2 => ?_⟩⟩
      · rcases hr with q | ⟨bk, n, cap, cur, q⟩
        · exact .inl q
        · exact .inr ⟨bk, n, cap, cur, q⟩
      · dsimp only at h1
        split at h1
        · rename_i e; exact e.symm
        · exact (hd t' r' k h1 h2 hk).elim
    · obtain ⟨r', hr', _⟩ := hi.toks t ht
      have hne : t ≠ c := fun e => hcl (e ▸ ht)
      exact ⟨r', by simp [hne, hr'], .inl ⟨hr', ht, fun _ _ => id⟩⟩
  · simp only [List.mem_cons, not_or] at ht
    simp only [ht.1, if_false]
    exact hi.dead t ht.2
  · rcases List.mem_cons.1 ht with rfl | ht
    · simp
    · simp [hi.lt t ht]
  · dsimp only at h
    split at h
    · rename_i e
      cases h
      refine .inr fun k hk t' r' h1 h2 => ?_
      dsimp only at h1
      split at h1
      · rename_i e2; rw [e, e2]
      · exact (hd t' r' k h1 h2 hk).elim
    · exact .inl h

theorem retOwn_ok {τ : Ty} {x : τ.den} {d : PV} {v : Value} {c : Nat} (hc : b c = false) (hi : Inv g b st w) (hd : RelPV g w d v) (hx : ∀ (τ1 : Ty) (x' : List τ1.den), τ = .slice τ1 → HEq x x' → RelC g w (.slice .ro τ1 x') v)
    (hrow : ∀ τ1, τ = .slice τ1 → ∃ r : Row, v = r.v ∧ r.sz = τ1.size ∧ RowOk g w r ∧ (∀ t r' k, g.tok t = some r' → r'.block = some k → r.block = some k → False) ∧ ∀ o k, Sol st.objs o → r.block = some k → g.phi o ≠ k) :
    ∃ g', RelPV g' w (retOwn c st d τ x).1 v ∧ Inv g' (fun t => b t || t == c) (retOwn c st d τ x).2 w ∧ Ext b st.objs.length g w g' w := by
  have hm : ∀ t, b t = true → (b t || t == c) = true := fun t h => by simp [h]
  cases τ with
  | slice τ1 =>
    obtain ⟨r, h1, h2, h3, h4, h5⟩ := hrow τ1 rfl
    obtain ⟨i1, e1⟩ := hi.addTok hc h3 h4 h5
    refine ⟨_, ⟨(RelC.mono e1 rfl (hx τ1 x rfl HEq.rfl)).1, fun k r' hk ht => ?_⟩, i1, e1⟩
    cases hk
    simp only [if_true, Option.some.injEq] at ht
    subst ht
    exact ⟨h1, h2⟩
  | _ => exact ⟨g, hd, hi.mono_b hm, Ext.refl _ _ _ _⟩

theorem flat_rel : ∀ (ps : List (C ⊕ List C)) (us : List Value), All2 (RelPart g w) ps us → All2 (RelC g w) (ps.flatMap partCells) (us.map fun u => u.cells.toList).flatten
  | [], [], _ => trivial
  | p :: ps, u :: us, hr => by
    simp only [List.flatMap_cons, List.map_cons, List.flatten_cons]
    refine All2.append ?_ (flat_rel ps us hr.2)
    cases p with
    | inl x =>
      have h1 := RelC.one hr.1
      have e : u.cells = #[u] := by cases u <;> first | rfl | (simp [Value.oneCell'] at h1)
      rw [e]; exact ⟨hr.1, trivial⟩
    | inr cs => obtain ⟨ws, rfl, hq⟩ := hr.1; exact hq
  | [], _ :: _, h => h.elim
  | _ :: _, [], h => h.elim

theorem resCells_rel {pv : PV} {cs : List C} {v : Value} (h : resCells pv = some cs) (hr : RelPV g w pv v) (hb : belowPV b m pv = true) :
    ∃ vs, All2 (RelC g w) cs vs ∧ (∀ x ∈ cs, belowC b m x = true) ∧ (match pv with
      | .c _ => vs = [v]
      | .agg _ => v = .agg vs.toArray
      | .tup ps => ∃ us, v = .tuple us.toArray ∧ All2 (RelPart g w) ps us ∧ vs = (us.map fun u => u.cells.toList).flatten
      | _ => False) := by
  cases pv with
  | any => cases h
  | c x => cases h; exact ⟨[v], ⟨hr, trivial⟩, by intro y hy; simp at hy; subst hy; exact hb, rfl⟩
  | agg cs' =>
    cases h
    obtain ⟨vs, e, hr⟩ := hr
    exact ⟨vs, hr, by simpa [belowPV] using hb, e⟩
  | tup ps =>
    cases h
    obtain ⟨us, e, hr⟩ := hr
    simp only [belowPV, List.all_eq_true] at hb
    refine ⟨(us.map fun u => u.cells.toList).flatten, ?_, fun x hx => ?_, us, e, hr, rfl⟩
    · exact flat_rel ps us hr
    · rw [List.mem_flatMap] at hx
      obtain ⟨p, hp, hx⟩ := hx
      exact hb p hp x hx
  | rptr cs => cases h

/-- The parts of a told result: each a cell or a struct. -/
theorem splitParts_rel : ∀ (l : List (Ty × Bool)) (ps : List (C ⊕ List C)) (us : List Value) (cs : List C), partsShape l ps = true → All2 (RelPart g w) ps us →
    All2 (RelC g' w') cs (us.map fun u => u.cells.toList).flatten → All2 (RelPart g' w') (splitParts l cs) us
  | [], [], [], cs, _, _, _ => trivial
  | (τ, ag) :: l, p :: ps, u :: us, cs, hsh, hp, hr => by
    simp only [partsShape, Bool.and_eq_true] at hsh
    have hlen : u.cells.toList.length = τ.size ∧ (ag = true → ∃ ws, u = .agg ws) ∧ (ag = false → τ.size = 1 ∧ u.oneCell' = true) := by
      cases ag with
      | true =>
        cases p with
        | inl x => simp [partShape] at hsh
        | inr zs =>
          obtain ⟨ws, rfl, hq⟩ := hp.1
          have := hsh.1
          simp [partShape] at this
          exact ⟨by rw [← this, hq.length]; rfl, fun _ => ⟨_, rfl⟩, fun h => by cases h⟩
      | false =>
        cases p with
        | inl x =>
          have h1 := RelC.one hp.1
          have e : u.cells = #[u] := by cases u <;> first | rfl | (simp [Value.oneCell'] at h1)
          have := hsh.1
          simp [partShape] at this
          exact ⟨by rw [e, this]; rfl, (fun h => by cases h), fun _ => ⟨this, h1⟩⟩
        | inr zs => simp [partShape] at hsh
    obtain ⟨hlen, hag, hone⟩ := hlen
    simp only [List.map_cons, List.flatten_cons] at hr
    simp only [splitParts]
    have htk := hr.take τ.size
    have hdr := hr.drop τ.size
    rw [List.take_left' hlen] at htk
    rw [List.drop_left' hlen] at hdr
    refine ⟨?_, splitParts_rel l ps us _ hsh.2 hp.2 hdr⟩
    cases ag with
    | true =>
      obtain ⟨ws, rfl⟩ := hag rfl
      exact ⟨ws.toList, by simp, htk⟩
    | false =>
      obtain ⟨hs, ho⟩ := hone rfl
      have e : u.cells = #[u] := by cases u <;> first | rfl | (simp [Value.oneCell'] at ho)
      rw [e, hs] at htk
      cases cs with
      | nil => exact htk.elim
      | cons c cs => exact htk.1
  | [], _ :: _, _, _, h, _, _ => by simp [partsShape] at h
  | _ :: _, [], _, _, h, _, _ => by simp [partsShape] at h
  | [], [], _ :: _, _, _, h, _ => h.elim
  | _ :: _, _ :: _, [], _, _, h, _ => h.elim

theorem encRes_rel {f : Nat} {pv : PV} {cs : List C} {vs : List Value} {v : Value} (hs : resShape P f pv = true) (hv : RelPV g w pv v)
    (hshape : match pv with
      | .c _ => vs = [v]
      | .agg _ => v = .agg vs.toArray
      | .tup ps => ∃ us, v = .tuple us.toArray ∧ All2 (RelPart g w) ps us ∧ vs = (us.map fun u => u.cells.toList).flatten
      | _ => False) (hr : All2 (RelC g' w') cs vs) : RelPV g' w' (encRes P f cs) v := by
  unfold resShape at hs
  unfold encRes
  cases ht : resTysF P f with
  | none => rw [ht] at hs; cases pv <;> simp at hs
  | some tys =>
    rw [ht] at hs
    match tys with
    | [] =>
      cases pv with
      | tup ps =>
        obtain ⟨us, rfl, hp, rfl⟩ := hshape
        exact ⟨us, rfl, splitParts_rel _ ps us cs hs hp hr⟩
      | _ => simp at hs
    | [(τ, ag)] =>
      cases ag with
      | false =>
        cases pv with
        | c x =>
          simp only at hshape
          subst hshape
          match cs, hr with
          | [c], hr => exact hr.1
        | _ => simp at hs
      | true =>
        cases pv with
        | agg x => exact ⟨vs, hshape, hr⟩
        | _ => simp at hs
    | (τ1, a1) :: q' :: r =>
      cases pv with
      | tup ps =>
        obtain ⟨us, rfl, hp, rfl⟩ := hshape
        cases a1 <;> exact ⟨us, rfl, splitParts_rel _ ps us cs hs hp hr⟩
      | _ => cases a1 <;> simp at hs

end Go.Proofs.YthhllkiefncbnaaDoorSim
