/- What a step keeps: the invariant over new blocks, stores and appends. -/
import Derived.Test.YthhllkiefncbnaaDoorSimE
import Derived.Laws.CopyRow
namespace Go.Proofs.YthhllkiefncbnaaDoorSim
open Go
set_option linter.unusedVariables false
set_option linter.unusedSimpArgs false

variable {P : Program} {g g' : Gh} {w w' : World} {st : St} {b : Nat → Bool} {m : Nat}

theorem block_lt {k : Nat} {o : Obj} (h : w.heap[k]? = some o) : k < w.heap.size := (Array.getElem?_eq_some_iff.1 h).1

theorem ObjOk.lt {o : Nat} {x : AObj} (h : ObjOk g w o x) (hs : solid x) : g.phi o < w.heap.size := by
  cases x with
  | cells cs => obtain ⟨_, vs, ty, hh, _⟩ := h; exact block_lt hh
  | row τ l fz => obtain ⟨_, _, vs, ty, fr, cap, hh, _⟩ := h; exact block_lt hh
  | vec τ l fz => obtain ⟨cap, _, h⟩ := h; obtain ⟨_, _, _, vs, ty, hh, _⟩ := h hs; exact block_lt hh
  | dead => exact hs.elim
  | loop r => obtain ⟨_, fid, tmps, D, hh, _⟩ := h; exact block_lt hh
  | siter l pos => obtain ⟨_, s, hh, _⟩ := h; exact block_lt hh

theorem RowR.mono {α : Type} {R R' : α → List Value → Prop} {sz : Nat} {l : List α} {vs : List Value} (hR : ∀ x cs, R x cs → R' x cs) (h : RowR R sz l vs) : RowR R' sz l vs :=
  ⟨h.1, fun i x hx => hR _ _ (h.2 i x hx)⟩

/-- An object whose block lies as it lay. -/
theorem ObjOk.kept {o : Nat} {x : AObj} (h : ObjOk g w o x) (he : Ext b m g w g' w') (ho : o < m) (hb : belowObj b m x)
    (hw : solid x → w'.heap[g.phi o]? = w.heap[g.phi o]?) (hp : solid x → ∀ off, g'.prot (g.phi o) off → g.prot (g.phi o) off) : ObjOk g' w' o x := by
  have hphi := he.phi o ho
  cases x with
  | vec τ l fz =>
    obtain ⟨cap, hm, h⟩ := h
    refine ⟨cap, by rw [he.mrow o ho]; exact hm, fun hne => ?_⟩
    have hw := hw hne
    have hp := hp hne
    obtain ⟨h0, h1, h2, vs, ty, hh, hl, h3, h4, hr⟩ := h hne
    exact ⟨h0, fun hz off hp' => h1 hz off (hp off (hphi ▸ hp')), fun hz off => he.prot _ _ (hphi ▸ h2 hz off), vs, ty, by rw [hphi, hw]; exact hh, hl, h3, h4, hr.mono fun x cs => RelD.mono he.prot he.cells τ x cs⟩
  | dead => trivial
  | cells cs =>
    have hw := hw trivial
    have hp := hp trivial
    obtain ⟨h1, vs, ty, hh, hr⟩ := h
    exact ⟨fun off hp' => h1 off (hp off (hphi ▸ hp')), vs, ty, by rw [hphi, hw]; exact hh, RelCs.mono he hb hr⟩
  | row τ l fz =>
    have hw := hw trivial
    have hp := hp trivial
    obtain ⟨h1, h2, vs, ty, fr, cap, hh, hf, hm, h3, h4, hr⟩ := h
    refine ⟨fun hz off hp' => h1 hz off (hp off (hphi ▸ hp')), fun hz off => he.prot _ _ (hphi ▸ h2 hz off), vs, ty, fr, cap, by rw [hphi, hw]; exact hh, hf, by rw [he.mrow o ho]; exact hm, h3, h4, hr.mono fun x cs => RelD.mono he.prot he.cells τ x cs⟩
  | loop r =>
    have hw := hw trivial
    have hp := hp trivial
    obtain ⟨h1, fid, tmps, D, hh, hr⟩ := h
    exact ⟨fun off hp' => h1 off (hp off (hphi ▸ hp')), fid, tmps, D, by rw [hphi, hw]; exact hh, All2.mono_mem (fun a ha _ hr => RelPV.mono he (hb a ha) hr) hr⟩
  | siter l pos =>
    have hw := hw trivial
    have hp := hp trivial
    obtain ⟨h1, s, hh, hr⟩ := h
    exact ⟨fun off hp' => h1 off (hp off (hphi ▸ hp')), s, by rw [hphi, hw]; exact hh, hr⟩

theorem RowOk.block_lt {r : Row} {k : Nat} (h : RowOk g w r) (hk : r.block = some k) : k < w.heap.size ∧ ¬ g.hid k := by
  rcases h with h | ⟨bk, n, cap, cur, hv, hh, _, _, _, hid, _⟩
  · simp [Row.block, h] at hk
  · simp [Row.block, hv] at hk; subst hk; exact ⟨(Array.getElem?_eq_some_iff.1 hh).1, hid⟩

theorem RowOk.kept {r : Row} (h : RowOk g w r) (hh : ∀ k, r.block = some k → w'.heap[k]? = w.heap[k]? ∧ (g'.hid k → g.hid k) ∧ ∀ off, g'.prot k off → g.prot k off) : RowOk g' w' r := by
  rcases h with h | ⟨bk, n, cap, cur, hv, h1, h2, h3, h4, h5, h6⟩
  · exact .inl h
  · obtain ⟨e1, e2, e3⟩ := hh bk (by simp [Row.block, hv])
    exact .inr ⟨bk, n, cap, cur, hv, by rw [e1]; exact h1, h2, h3, h4, fun q => h5 (e2 q), fun off ho q => h6 off ho (e3 off q)⟩

/-- The state after a step in which the objects o with 'ch (phi o)', and the rows in blocks of 'ch', are told anew. -/
theorem Inv.step {ch : Nat → Prop} {st' : St} {b' : Nat → Bool} (hi : Inv g b st w) (he : Ext b st.objs.length g w g' w') (hbb : ∀ t, b t = true → b' t = true)
    (hun : ∀ k, k < w.heap.size → ¬ ch k → w'.heap[k]? = w.heap[k]? ∧ ∀ off, g'.prot k off → g.prot k off)
    (hhid : g'.hid = g.hid) (hpe : ∀ k off, g'.prot k off → k < w'.heap.size)
    (hol : st'.objs.length = st.objs.length)
    (hobj : ∀ (o : Nat) (x : AObj), st'.objs[o]? = some x → (st.objs[o]? = some x ∧ (solid x → ¬ ch (g.phi o))) ∨ (ObjOk g' w' o x ∧ belowObj b' st.objs.length x ∧ (solid x → Sol st.objs o)))
    (htok : ∀ t, t ∈ st'.live → ∃ r, g'.tok t = some r ∧ ((g.tok t = some r ∧ t ∈ st.live ∧ ∀ k, r.block = some k → ¬ ch k) ∨
      (RowOk g' w' r ∧ (∀ k, r.block = some k → (∀ o, Sol st.objs o → g.phi o ≠ k)) ∧ ∀ k, r.block = some k → ∀ t' r', g'.tok t' = some r' → r'.block = some k → t = t')))
    (hdead : ∀ t, t ∉ st'.live → g'.tok t = none) (hlt : ∀ t, t ∈ st'.live → b' t = true)
    (hold : ∀ t r, g'.tok t = some r → g.tok t = some r ∨ (∀ k, r.block = some k → ∀ t' r', g'.tok t' = some r' → r'.block = some k → t = t')) : Inv g' b' st' w' :=
  have hsol : ∀ o, Sol st'.objs o → Sol st.objs o := fun o ho => by
    obtain ⟨x, h1, h2⟩ := ho
    rcases hobj o x h1 with h | h
    · exact ⟨x, h.1, h2⟩
    · exact h.2.2 h2
  { 
  objs := fun o x ho => by
    rcases hobj o x ho with ⟨h1, h2⟩ | h
    · have hlt := (List.getElem?_eq_some_iff.1 h1).1
      have ok := hi.objs o x h1
      exact ok.kept he hlt (hi.below o x h1) (fun hs => (hun _ (ok.lt hs) (h2 hs)).1) (fun hs => (hun _ (ok.lt hs) (h2 hs)).2)
    · exact h.1
  ohid := fun o ho => by
    have := (hsol o ho).lt
    rw [hhid, he.phi o (by omega)]; exact hi.ohid o (hsol o ho)
  inj := fun o o' h1 h2 e => by
    have := (hsol o h1).lt
    have := (hsol o' h2).lt
    rw [he.phi o (by omega), he.phi o' (by omega)] at e
    exact hi.inj o o' (hsol o h1) (hsol o' h2) e
  below := fun o x ho => by
    rcases hobj o x ho with ⟨h1, h2⟩ | h
    · rw [hol]; exact belowObj.mono hbb (Nat.le_refl _) (hi.below o x h1)
    · rw [hol]; exact h.2.1
  toks := fun t ht => by
    obtain ⟨r, hr, h⟩ := htok t ht
    refine ⟨r, hr, ?_⟩
    rcases h with ⟨h1, h2, h3⟩ | h
    · obtain ⟨r', hr', ok⟩ := hi.toks t h2
      rw [h1] at hr'; cases hr'
      refine ok.kept fun k hk => ?_
      obtain ⟨hlt, _⟩ := ok.block_lt hk
      obtain ⟨e1, e2⟩ := hun k hlt (h3 k hk)
      exact ⟨e1, fun q => hhid ▸ q, e2⟩
    · exact h.1
  dead := hdead
  lt := hlt
  dist := fun t t' r r' k h1 h2 h3 h4 => by
    rcases hold t r h1 with e | e
    · rcases hold t' r' h2 with e' | e'
      · exact hi.dist t t' r r' k e e' h3 h4
      · exact (e' k h4 t r h1 h3).symm
    · exact e k h3 t' r' h2 h4
  sep := fun t r k o h1 h2 ho => by
    have := (hsol o ho).lt
    rw [he.phi o (by omega)]
    have hl : t ∈ st'.live := Classical.byContradiction fun q => by rw [hdead t q] at h1; cases h1
    obtain ⟨r', hr', h⟩ := htok t hl
    rw [h1] at hr'; cases hr'
    rcases h with ⟨e, _, _⟩ | ⟨_, e, _⟩
    · exact hi.sep t r k o e h2 (hsol o ho)
    · exact e k h2 o (hsol o ho)
  hidLt := fun k hk => by rw [hhid] at hk; exact Nat.lt_of_lt_of_le (hi.hidLt k hk) he.size
  protEx := hpe
  glob := fun n cs h => (hi.glob n cs h).mono he.prot he.cells }

theorem cell_alloc {k off : Nat} (h : k < w.heap.size) (o : Obj) : (w.alloc o).cell? ⟨k, off, none⟩ = w.cell? ⟨k, off, none⟩ := by simp [World.cell?, heap_alloc_old w o k h]

/-- The ghost after a new abstract object. -/
def Gh.more (g : Gh) (n blk : Nat) (mr : Nat × Nat) : Gh :=
  { g with phi := fun i => if i = n then blk else g.phi i, mrow := fun i => if i = n then mr else g.mrow i }

theorem ext_more (hi : Inv g b st w) (o : Obj) (mr : Nat × Nat) : Ext b st.objs.length g w (g.more st.objs.length w.heap.size mr) (w.alloc o) :=
  { os := rfl, tape := rfl, output := rfl, size := by simp, hid := fun _ h => h, hidden := fun k hk => heap_alloc_old w o k (hi.hidLt k hk),
    cells := fun k off hk => cell_alloc (hi.protEx k off hk) o, prot := fun _ _ h => h, newp := fun _ _ _ h => h,
    phi := fun i hl => by simp [Gh.more]; omega, mrow := fun i hl => by simp [Gh.more]; omega, tok := fun _ _ => .inl rfl }

/-- A new block that is an abstract object. -/
theorem Inv.newObj (hi : Inv g b st w) (x : AObj) (o : Obj) (mr : Nat × Nat)
    (hx : ObjOk (g.more st.objs.length w.heap.size mr) (w.alloc o) st.objs.length x)
    (hb : belowObj b (st.objs.length + 1) x) :
    Inv (g.more st.objs.length w.heap.size mr) b (addObj st x) (w.alloc o) := by
  have he := ext_more hi o mr
  have hplt : ∀ i, Sol st.objs i → g.phi i < w.heap.size := fun i hl => by
    obtain ⟨x, h1, h2⟩ := hl
    exact (hi.objs i x h1).lt h2
  have hget : ∀ (i : Nat) (y : AObj), (st.objs ++ [x])[i]? = some y → (i < st.objs.length ∧ st.objs[i]? = some y) ∨ (i = st.objs.length ∧ y = x) := fun i y hy => by
    rcases Nat.lt_trichotomy i st.objs.length with h | h | h
    · rw [List.getElem?_append_left h] at hy; exact .inl ⟨h, hy⟩
    · subst h; simp at hy; exact .inr ⟨rfl, hy.symm⟩
    · rw [List.getElem?_eq_none (by simp; omega)] at hy; cases hy
  have hlen : (st.objs ++ [x]).length = st.objs.length + 1 := by simp
  have hsol : ∀ i, Sol (addObj st x).objs i → i = st.objs.length ∨ (i ≠ st.objs.length ∧ Sol st.objs i) := fun i hs => by
    obtain ⟨y, h1, h2⟩ := hs
    rcases hget i y h1 with ⟨q1, q2⟩ | ⟨q1, q2⟩
    · exact .inr ⟨by omega, y, q2, h2⟩
    · exact .inl q1
  exact
    { objs := fun i y hy => by
        rcases hget i y hy with ⟨h1, h2⟩ | ⟨rfl, rfl⟩
        · have ok := hi.objs i y h2
          exact ok.kept he h1 (hi.below i y h2) (fun hs => heap_alloc_old w o _ (ok.lt hs)) (fun _ _ h => h)
        · exact hx
      ohid := fun i hl hh => by
        rcases hsol i hl with e | ⟨e, hs⟩
        · simp only [Gh.more, e, if_true] at hh; have := hi.hidLt _ hh; omega
        · simp only [Gh.more, e, if_false] at hh; exact hi.ohid i hs hh
      inj := fun i i' h1 h2 e => by
        simp only [Gh.more] at e
        rcases hsol i h1 with e1 | ⟨e1, s1⟩ <;> rcases hsol i' h2 with e2 | ⟨e2, s2⟩
        · omega
        · rw [if_pos e1, if_neg e2] at e; have := hplt i' s2; omega
        · rw [if_neg e1, if_pos e2] at e; have := hplt i s1; omega
        · rw [if_neg e1, if_neg e2] at e; exact hi.inj i i' s1 s2 e
      below := fun i y hy => by
        simp only [addObj, hlen]
        rcases hget i y hy with ⟨h1, h2⟩ | ⟨rfl, rfl⟩
        · exact belowObj.mono (fun _ h => h) (by omega) (hi.below i y h2)
        · exact hb
      toks := fun t ht => by
        obtain ⟨r, hr, ok⟩ := hi.toks t ht
        exact ⟨r, hr, ok.kept fun k hk => ⟨heap_alloc_old w o k (ok.block_lt hk).1, fun h => h, fun _ h => h⟩⟩
      dead := hi.dead
      lt := hi.lt
      dist := hi.dist
      sep := fun t r k i h1 h2 hl => by
        have hl' : t ∈ st.live := Classical.byContradiction fun q => by have := hi.dead t q; simp only [Gh.more] at h1; rw [this] at h1; cases h1
        obtain ⟨r', hr', ok⟩ := hi.toks t hl'
        simp only [Gh.more] at h1
        rw [h1] at hr'; cases hr'
        have := ok.block_lt h2
        rcases hsol i hl with e | ⟨e, hs⟩
        · simp only [Gh.more, e, if_true]; omega
        · simp only [Gh.more, e, if_false]; exact hi.sep t r k i h1 h2 hs
      hidLt := fun k hk => by have := hi.hidLt k hk; simp; omega
      protEx := fun k off hk => by have := hi.protEx k off hk; simp; omega
      glob := fun n cs h => (hi.glob n cs h).mono he.prot he.cells }


theorem cell_of_block {k : Nat} {cs : Array Value} {t : TypeId} {fr : Nat × Nat} (h : w.heap[k]? = some (.cells cs t fr)) (off : Nat) : w.cell? ⟨k, off, none⟩ = cs[off]? := by
  simp [World.cell?, h]

/-- A step that turns the block of one abstract object alone. -/
theorem Inv.putObj (hi : Inv g b st w) {o : Nat} {x : AObj} (hs : Sol st.objs o) (hos : w'.os = w.os) (htp : w'.tape = w.tape) (hou : w'.output = w.output) (hsz : w'.heap.size = w.heap.size)
    (hun : ∀ k, k ≠ g.phi o → w'.heap[k]? = w.heap[k]?) (hx : ObjOk g w' o x) (hb : belowObj b st.objs.length x) (hnp : ∀ off, ¬ g.prot (g.phi o) off) :
    Inv g b (setObj st o x) w' ∧ Ext b st.objs.length g w g w' := by
  have ho := hs.lt
  have hphid := hi.ohid o hs
  have he : Ext b st.objs.length g w g w' :=
    { os := hos, tape := htp, output := hou, size := by omega, hid := fun _ h => h, hidden := fun k hk => hun k (fun e => hphid (e ▸ hk)),
      cells := fun k off hk => by
        have : k ≠ g.phi o := fun e => hnp off (e ▸ hk)
        simp [World.cell?, hun k this],
      prot := fun _ _ h => h, newp := fun _ _ _ h => h, phi := fun _ _ => rfl, mrow := fun _ _ => rfl, tok := fun _ _ => .inl rfl }
  refine ⟨?_, he⟩
  refine Inv.step (ch := fun k => k = g.phi o) (st' := setObj st o x) hi he (fun _ h => h) (fun k _ hk => ⟨hun k hk, fun _ h => h⟩) rfl (fun k off hk => by rw [hsz]; exact hi.protEx k off hk) (by simp [setObj]) ?_ ?_ hi.dead hi.lt (fun t r h => .inl h)
  · intro i y hy
    simp only [setObj, List.getElem?_set] at hy
    by_cases e : o = i
    · subst e
      rw [if_pos rfl, if_pos ho] at hy
      cases hy; exact .inr ⟨hx, hb, fun _ => hs⟩
    · rw [if_neg e] at hy
      refine .inl ⟨hy, fun hs' q => e ?_⟩
      exact (hi.inj o i hs ⟨y, hy, hs'⟩ q.symm)
  · intro t ht
    obtain ⟨r, hr, ok⟩ := hi.toks t ht
    exact ⟨r, hr, .inl ⟨hr, ht, fun k hk e => hi.sep t r k o hr hk hs e.symm⟩⟩

/-- A new token, in the place of an old one or of none. -/
theorem Inv.token (hi : Inv g b st w) {c : Nat} {old : Option Nat} {r : Row} (hc : b c = false) (hcl : c ∉ st.live)
    {pr : Nat → Nat → Prop} (hpr : ∀ k off, g.prot k off → pr k off) (hpe : ∀ k off, pr k off → k < w'.heap.size)
    (hos : w'.os = w.os) (htp : w'.tape = w.tape) (hou : w'.output = w.output) (hsz : w.heap.size ≤ w'.heap.size)
    (hun : ∀ k, k < w.heap.size → (∀ t ro, old = some t → g.tok t = some ro → ro.block ≠ some k) → w'.heap[k]? = w.heap[k]? ∧ ∀ off, pr k off → g.prot k off)
    (hcell : ∀ k off, g.prot k off → w'.cell? ⟨k, off, none⟩ = w.cell? ⟨k, off, none⟩)
    (hr : RowOk { g with prot := pr, tok := fun t => if t = c then some r else if some t = old then none else g.tok t } w' r)
    (hblk : ∀ k, r.block = some k → w.heap.size ≤ k ∨ ∃ t ro, old = some t ∧ g.tok t = some ro ∧ ro.block = some k) :
    Inv { g with prot := pr, tok := fun t => if t = c then some r else if some t = old then none else g.tok t } (fun t => b t || t == c) { st with live := c :: kill st.live old } w' ∧
    Ext b st.objs.length g w { g with prot := pr, tok := fun t => if t = c then some r else if some t = old then none else g.tok t } w' := by
  have hlive : ∀ t r', g.tok t = some r' → t ∈ st.live ∧ RowOk g w r' := fun t r' h => by
    have hl : t ∈ st.live := Classical.byContradiction fun q => by rw [hi.dead t q] at h; cases h
    obtain ⟨r2, h2, ok⟩ := hi.toks t hl
    rw [h] at h2; cases h2; exact ⟨hl, ok⟩
  have hold : ∀ t ro k, old = some t → g.tok t = some ro → ro.block = some k → ¬ g.hid k ∧ ∀ o, Sol st.objs o → g.phi o ≠ k := fun t ro k h1 h2 h3 =>
    ⟨((hlive t ro h2).2.block_lt h3).2, fun o ho => hi.sep t ro k o h2 h3 ho⟩
  have he : Ext b st.objs.length g w { g with prot := pr, tok := fun t => if t = c then some r else if some t = old then none else g.tok t } w' :=
    { os := hos, tape := htp, output := hou, size := hsz, hid := fun _ h => h,
      hidden := fun k hk => (hun k (hi.hidLt k hk) (fun t ro h1 h2 h3 => (hold t ro k h1 h2 h3).1 hk)).1,
      cells := hcell, prot := hpr,
      newp := fun k off hk hp => (hun k (hi.hidLt k hk) (fun t ro h1 h2 h3 => (hold t ro k h1 h2 h3).1 hk)).2 off hp,
      phi := fun _ _ => rfl, mrow := fun _ _ => rfl,
      tok := fun t ht => by
        have : t ≠ c := fun e => by rw [e, hc] at ht; cases ht
        simp only [this, if_false]
        split
        · exact .inr rfl
        · exact .inl rfl }
  refine ⟨?_, he⟩
  have hkill : ∀ t, t ∈ kill st.live old ↔ t ∈ st.live ∧ some t ≠ old := fun t => by
    cases old with
    | none => simp [kill]
    | some q => simp [kill]
  have htk : ∀ t r', (if t = c then some r else if some t = old then none else g.tok t) = some r' → (t = c ∧ r' = r) ∨ (t ≠ c ∧ some t ≠ old ∧ g.tok t = some r') := fun t r' h => by
    by_cases e : t = c
    · rw [if_pos e] at h; cases h; exact .inl ⟨e, rfl⟩
    · rw [if_neg e] at h
      by_cases e2 : some t = old
      · rw [if_pos e2] at h; cases h
      · rw [if_neg e2] at h; exact .inr ⟨e, e2, h⟩
  have huniq : ∀ k, r.block = some k → ∀ t' r', (if t' = c then some r else if some t' = old then none else g.tok t') = some r' → r'.block = some k → c = t' := fun k hk t' r' h hk' => by
    rcases htk t' r' h with ⟨e, _⟩ | ⟨e1, e2, e3⟩
    · exact e.symm
    · exfalso
      have hlt := ((hlive t' r' e3).2.block_lt hk').1
      rcases hblk k hk with q | ⟨t, ro, q1, q2, q3⟩
      · omega
      · have := hi.dist t t' ro r' k q2 e3 q3 hk'
        exact e2 (by rw [q1, this])
  refine Inv.step (ch := fun k => ∃ t ro, old = some t ∧ g.tok t = some ro ∧ ro.block = some k) (st' := { st with live := c :: kill st.live old }) hi he (fun t h => by simp [h])
    (fun k hk hn => hun k hk (fun t ro h1 h2 h3 => hn ⟨t, ro, h1, h2, h3⟩)) rfl hpe rfl ?_ ?_ ?_ ?_ ?_
  · intro o x ho
    refine .inl ⟨ho, fun hs => ?_⟩
    rintro ⟨t, ro, h1, h2, h3⟩
    exact (hold t ro _ h1 h2 h3).2 o ⟨x, ho, hs⟩ rfl
  · intro t ht
    rcases List.mem_cons.1 ht with rfl | ht
    · refine ⟨r, by simp, .inr ⟨hr, fun k hk o ho => ?_, fun k hk t' r' h hk' => huniq k hk t' r' h hk'⟩⟩
      rcases hblk k hk with q | ⟨t', ro, q1, q2, q3⟩
      · obtain ⟨x, hx, hs⟩ := ho
        have := (hi.objs o x hx).lt hs; omega
      · exact (hold t' ro k q1 q2 q3).2 o ho
    · obtain ⟨hl, hne⟩ := (hkill t).1 ht
      obtain ⟨r', hr', ok⟩ := hi.toks t hl
      have e : t ≠ c := fun e => hcl (e ▸ hl)
      refine ⟨r', by simp [e, hne, hr'], .inl ⟨hr', hl, fun k hk => ?_⟩⟩
      rintro ⟨t2, ro, q1, q2, q3⟩
      have := hi.dist t t2 r' ro k hr' q2 hk q3
      exact hne (by rw [q1, this])
  · intro t ht
    simp only [List.mem_cons, not_or, hkill, not_and] at ht
    obtain ⟨h1, h2⟩ := ht
    simp only [h1, if_false]
    split
    · rfl
    · rename_i hq
      exact hi.dead t (fun hl => h2 hl hq)
  · intro t ht
    rcases List.mem_cons.1 ht with rfl | ht
    · simp
    · simp [hi.lt t ((hkill t).1 ht).1]
  · intro t r' h
    rcases htk t r' h with ⟨e, e2⟩ | ⟨_, _, e⟩
    · right
      intro k hk t' r2 h' hk'
      rw [e2] at hk
      rw [e]; exact huniq k hk t' r2 h' hk'
    · exact .inl e

/-! ### Slices that are appended to and stored into -/
theorem dieO_length (l : List AObj) (o : Option Nat) : (dieO l o).length = l.length := by cases o <;> simp [dieO]

theorem dieO_get {l : List AObj} {o : Option Nat} {i : Nat} {x : AObj} (h : (dieO l o)[i]? = some x) : l[i]? = some x ∧ o ≠ some i ∨ x = .dead := by
  cases o with
  | none => exact .inl ⟨h, by simp⟩
  | some o =>
    simp only [dieO, List.getElem?_set] at h
    split at h
    · split at h
      · cases h; exact .inr rfl
      · cases h
    · rename_i e; exact .inl ⟨h, fun q => e (by simpa using q)⟩

/-- An object of which nothing is told any more. -/
theorem Inv.die (hi : Inv g b st w) (o : Option Nat) : Inv g b { st with objs := dieO st.objs o } w := by
  refine Inv.step (ch := fun _ => False) (st' := { st with objs := dieO st.objs o }) hi (Ext.refl _ _ _ _) (fun _ h => h) (fun k _ _ => ⟨rfl, fun _ h => h⟩) rfl hi.protEx (dieO_length _ _) (fun i x (hx : (dieO st.objs o)[i]? = some x) => ?_) (fun t ht => ?_) hi.dead hi.lt (fun t r h => .inl h)
  · rcases dieO_get hx with h | rfl
    · exact .inl ⟨h.1, fun _ q => q⟩
    · exact .inr ⟨trivial, trivial, fun q => q.elim⟩
  · obtain ⟨r, hr, ok⟩ := hi.toks t ht
    exact ⟨r, hr, .inl ⟨hr, ht, fun _ _ q => q⟩⟩

/-- A block that belongs to nobody. -/
structure Free (g : Gh) (st : St) (k : Nat) : Prop where
  hid : ¬ g.hid k
  objs : ∀ o, Sol st.objs o → g.phi o ≠ k
  toks : ∀ t r, g.tok t = some r → r.block ≠ some k

theorem Inv.free (hi : Inv g b st w) {o : Nat} (h : Sol st.objs o) : Free g { st with objs := dieO st.objs (some o) } (g.phi o) where
  hid := hi.ohid o h
  objs := fun i hs e => by
    obtain ⟨x, hx, hsx⟩ := hs
    rcases dieO_get (show (dieO st.objs (some o))[i]? = some x from hx) with q | rfl
    · exact q.2 (by rw [hi.inj i o ⟨x, q.1, hsx⟩ h e])
    · exact hsx
  toks := fun t r ht hb => hi.sep t r _ o ht hb h rfl

theorem Inv.turn (hi : Inv g b st w) {k : Nat} (hf : Free g st k) (hnp : ∀ off, ¬ g.prot k off) (hos : w'.os = w.os) (htp : w'.tape = w.tape) (hou : w'.output = w.output) (hsz : w'.heap.size = w.heap.size)
    (hun : ∀ q, q ≠ k → w'.heap[q]? = w.heap[q]?) : Inv g b st w' ∧ Ext b m g w g w' := by
  have he : ∀ m, Ext b m g w g w' := fun m =>
    { os := hos, tape := htp, output := hou, size := by omega, hid := fun _ h => h, hidden := fun q hq => hun q (fun e => hf.hid (e ▸ hq)),
      cells := fun q off hq => by
        have : q ≠ k := fun e => hnp off (e ▸ hq)
        simp [World.cell?, hun q this],
      prot := fun _ _ h => h, newp := fun _ _ _ h => h, phi := fun _ _ => rfl, mrow := fun _ _ => rfl, tok := fun _ _ => .inl rfl }
  refine ⟨Inv.step (ch := fun q => q = k) (st' := st) hi (he _) (fun _ h => h) (fun q _ hq => ⟨hun q hq, fun _ h => h⟩) rfl (fun q off hq => by rw [hsz]; exact hi.protEx q off hq) rfl (fun o x hx => .inl ⟨hx, fun hs q => hf.objs o ⟨x, hx, hs⟩ q⟩) (fun t ht => ?_) hi.dead hi.lt (fun t r h => .inl h), he m⟩
  obtain ⟨r, hr, ok⟩ := hi.toks t ht
  exact ⟨r, hr, .inl ⟨hr, ht, fun q hq e => hf.toks t r hr (by rw [hq, e])⟩⟩

theorem ext_again (k : Nat) (mr : Nat × Nat) : Ext b st.objs.length g w (g.more st.objs.length k mr) w :=
  { Ext.refl b st.objs.length g w with phi := fun i hl => by simp [Gh.more]; omega, mrow := fun i hl => by simp [Gh.more]; omega }

/-- A slice that is told again, at another place. -/
theorem Inv.again (hi : Inv g b st w) {τ : Ty} {l : List τ.den} {fz : Bool} {k : Nat} {mr : Nat × Nat} (hx : ObjOk (g.more st.objs.length k mr) w st.objs.length (.vec τ l fz)) (hk : l ≠ [] → Free g st k) :
    Inv (g.more st.objs.length k mr) b (addObj st (.vec τ l fz)) w := by
  have he := ext_again (b := b) (g := g) (w := w) (st := st) k mr
  have hget : ∀ (i : Nat) (y : AObj), (st.objs ++ [AObj.vec τ l fz])[i]? = some y → (i < st.objs.length ∧ st.objs[i]? = some y) ∨ (i = st.objs.length ∧ y = .vec τ l fz) := fun i y hy => by
    rcases Nat.lt_trichotomy i st.objs.length with h | h | h
    · rw [List.getElem?_append_left h] at hy; exact .inl ⟨h, hy⟩
    · subst h; simp at hy; exact .inr ⟨rfl, hy.symm⟩
    · rw [List.getElem?_eq_none (by simp; omega)] at hy; cases hy
  have hlen : (st.objs ++ [AObj.vec τ l fz]).length = st.objs.length + 1 := by simp
  have hsol : ∀ i, Sol (addObj st (.vec τ l fz)).objs i → (i = st.objs.length ∧ l ≠ []) ∨ (i ≠ st.objs.length ∧ Sol st.objs i) := fun i hs => by
    obtain ⟨y, h1, h2⟩ := hs
    rcases hget i y h1 with ⟨q1, q2⟩ | ⟨q1, rfl⟩
    · exact .inr ⟨by omega, y, q2, h2⟩
    · exact .inl ⟨q1, h2⟩
  exact
    { objs := fun i y hy => by
        rcases hget i y hy with ⟨h1, h2⟩ | ⟨rfl, rfl⟩
        · exact (hi.objs i y h2).kept he h1 (hi.below i y h2) (fun _ => rfl) (fun _ _ h => h)
        · exact hx
      ohid := fun i hl hh => by
        rcases hsol i hl with ⟨e, hne⟩ | ⟨e, hs⟩
        · simp only [Gh.more, e, if_true] at hh; exact (hk hne).hid hh
        · simp only [Gh.more, e, if_false] at hh; exact hi.ohid i hs hh
      inj := fun i i' h1 h2 e => by
        simp only [Gh.more] at e
        rcases hsol i h1 with ⟨e1, n1⟩ | ⟨e1, s1⟩ <;> rcases hsol i' h2 with ⟨e2, n2⟩ | ⟨e2, s2⟩
        · omega
        · rw [if_pos e1, if_neg e2] at e; exact absurd e.symm ((hk n1).objs i' s2)
        · rw [if_neg e1, if_pos e2] at e; exact absurd e ((hk n2).objs i s1)
        · rw [if_neg e1, if_neg e2] at e; exact hi.inj i i' s1 s2 e
      below := fun i y hy => by
        simp only [addObj, hlen]
        rcases hget i y hy with ⟨h1, h2⟩ | ⟨rfl, rfl⟩
        · exact belowObj.mono (fun _ h => h) (by omega) (hi.below i y h2)
        · trivial
      toks := fun t ht => by
        obtain ⟨r, hr, ok⟩ := hi.toks t ht
        exact ⟨r, hr, ok.kept fun k hk => ⟨rfl, fun h => h, fun _ h => h⟩⟩
      dead := hi.dead
      lt := hi.lt
      dist := hi.dist
      sep := fun t r q i h1 h2 hl => by
        simp only [Gh.more] at h1
        rcases hsol i hl with ⟨e, hne⟩ | ⟨e, hs⟩
        · simp only [Gh.more, e, if_true]; exact fun e' => (hk hne).toks t r h1 (by rw [h2, e'])
        · simp only [Gh.more, e, if_false]; exact hi.sep t r q i h1 h2 hs
      hidLt := hi.hidLt
      protEx := hi.protEx
      glob := fun n cs h => (hi.glob n cs h).mono he.prot he.cells }

end Go.Proofs.YthhllkiefncbnaaDoorSim
