/- The head of a loop: the same state under other names. -/
import Derived.Test.YthhllkiefncbnaaDoorSimS
namespace Go.Proofs.YthhllkiefncbnaaDoorSim
open Go
set_option linter.unusedVariables false
set_option linter.unusedSimpArgs false

variable {P : Program} {cfg : Cfg} {rn : Run} {g g' : Gh} {w w' : World} {st st' : St} {b : Nat → Bool} {m base : Nat}

/-- The ghost in which the new tokens alone have rows. -/
def gN (g : Gh) (base : Nat) (rows : List Row) : Gh := { g with tok := fun t => if t < base then none else rows[t - base]? }

def canon (base : Nat) (rows : List Row) : Nat → Bool := fun t => decide (base ≤ t) && decide (t < base + rows.length)

def NRow (g : Gh) (live : List Nat) : Option Nat → Row → Prop
  | none, r => r.v = .slice none 0 0
  | some t, r => g.tok t = some r ∧ t ∈ live

structure NOk (g : Gh) (live : List Nat) (news : List (Option Nat)) (rows : List Row) : Prop where
  rel : All2 (NRow g live) news rows
  dup : ∀ (i j t : Nat), news[i]? = some (some t) → news[j]? = some (some t) → i = j

theorem ext_gN (rows ex : List Row) : Ext (canon base rows) m (gN g base rows) w (gN g base (rows ++ ex)) w :=
  { Ext.refl (canon base rows) m (gN g base rows) w with
    tok := fun t ht => by
      left
      simp only [canon, Bool.and_eq_true, decide_eq_true_eq] at ht
      simp only [gN]
      rw [if_neg (by omega), if_neg (by omega), List.getElem?_append_left (by omega)] }

theorem canon_more {rows ex : List Row} : ∀ t, canon base rows t = true → canon base (rows ++ ex) t = true := fun t ht => by
  simp only [canon, Bool.and_eq_true, decide_eq_true_eq, List.length_append] at ht ⊢
  omega

theorem NOk.push {live : List Nat} {news : List (Option Nat)} {rows : List Row} (h : NOk g live news rows) {x : Option Nat} {r : Row} (hr : NRow g live x r) (hd : ∀ t, x = some t → ∀ i : Nat, news[i]? ≠ some (some t)) : NOk g live (news ++ [x]) (rows ++ [r]) where
  rel := h.rel.append ⟨hr, trivial⟩
  dup := fun i j t h1 h2 => by
    have key : ∀ k : Nat, (news ++ [x])[k]? = some (some t) → news[k]? = some (some t) ∨ (k = news.length ∧ x = some t) := fun k hk => by
      rcases Nat.lt_trichotomy k news.length with q | q | q
      · rw [List.getElem?_append_left q] at hk; exact .inl hk
      · subst q; simp at hk; exact .inr ⟨rfl, hk⟩
      · rw [List.getElem?_eq_none (by simp; omega)] at hk; cases hk
    rcases key i h1 with a | a <;> rcases key j h2 with c | c
    · exact h.dup i j t a c
    · exact absurd a (hd t c.2 i)
    · exact absurd c (hd t a.2 j)
    · omega

theorem findNew_some {t : Nat} : ∀ {news : List (Option Nat)} {i t' : Nat}, findNew base t news i = some t' → ∃ k, t' = base + i + k ∧ news[k]? = some (some t)
  | [], i, t', h => by cases h
  | some q :: r, i, t', h => by
    simp only [findNew] at h
    split at h
    · rename_i e; cases h; exact ⟨0, rfl, by simp [e]⟩
    · obtain ⟨k, h1, h2⟩ := findNew_some h
      exact ⟨k + 1, by omega, by simpa using h2⟩
  | none :: r, i, t', h => by
    simp only [findNew] at h
    obtain ⟨k, h1, h2⟩ := findNew_some h
    exact ⟨k + 1, by omega, by simpa using h2⟩

theorem findNew_none {t : Nat} : ∀ {news : List (Option Nat)} {i : Nat}, findNew base t news i = none → ∀ k : Nat, news[k]? ≠ some (some t)
  | [], i, h, k => by simp
  | some q :: r, i, h, k => by
    simp only [findNew] at h
    split at h
    · cases h
    · rename_i e
      cases k with
      | zero => simpa using e
      | succ k => simpa using findNew_none h k
  | none :: r, i, h, k => by
    simp only [findNew] at h
    cases k with
    | zero => simp
    | succ k => simpa using findNew_none h k

/-- What a cell becomes. -/
def NRes (g : Gh) (w : World) (base m : Nat) (rows : List Row) (y : C) (v : Value) : Prop := RelC (gN g base rows) w y v ∧ belowC (canon base rows) m y = true

theorem NRes.more {rows ex : List Row} {y : C} {v : Value} (h : NRes g w base m rows y v) : NRes g w base m (rows ++ ex) y v :=
  ⟨RelC.mono (ext_gN rows ex) h.2 h.1, belowC.mono canon_more (Nat.le_refl _) h.2⟩

theorem NRes.mores {rows ex : List Row} : ∀ {ys : List C} {vs : List Value}, All2 (NRes g w base m rows) ys vs → All2 (NRes g w base m (rows ++ ex)) ys vs := fun h => h.mono fun _ _ h => h.more

theorem ro_gN {rows : List Row} {t : Tok} {τ : Ty} {l : List τ.den} {v : Value} (h : RelC g w (.slice t τ l) v) : NRes g w base m rows (.slice .ro τ l) v :=
  ⟨⟨h.1, fun k r hk _ => by cases hk⟩, rfl⟩

theorem normC_ok {md : Mode} {live : List Nat} {news news' : List (Option Nat)} {x y : C} {v : Value} {rows : List Row} (hl : ∀ t ∈ live, ∃ r, g.tok t = some r) (h : normC base m live md news x = some (y, news')) (hr : RelC g w x v) (hn : NOk g live news rows) :
    ∃ ex, NOk g live news' (rows ++ ex) ∧ NRes g w base m (rows ++ ex) y v := by
  have stay : ∀ {y : C}, news' = news → NRes g w base m rows y v → ∃ ex, NOk g live news' (rows ++ ex) ∧ NRes g w base m (rows ++ ex) y v := fun e h => ⟨[], by simpa [e] using hn, by simpa using h⟩
  have hlen := hn.rel.length
  have new : ∀ (τ : Ty) (l : List τ.den) (r : Row) (q : Option Nat), NRow g live q r → (∀ t, q = some t → ∀ i : Nat, news[i]? ≠ some (some t)) → news' = news ++ [q] → SliceR w g.prot (RelD w g.prot τ) τ.size l v → v = r.v → r.sz = τ.size →
      ∃ ex, NOk g live news' (rows ++ ex) ∧ NRes g w base m (rows ++ ex) (.slice (.own (base + news.length)) τ l) v := fun τ l r q h1 h2 h3 h4 h5 h6 => by
    refine ⟨[r], h3 ▸ hn.push h1 h2, ⟨h4, fun k r' hk ht => ?_⟩, ?_⟩
    · cases hk
      simp only [gN] at ht
      rw [if_neg (by omega), show base + news.length - base = rows.length by omega] at ht
      simp at ht
      subst ht
      exact ⟨h5, h6⟩
    · simp [belowC, canon, hlen]
  cases md with
  | own τ =>
    cases x with
    | nils =>
      simp only [normC, Option.some.injEq, Prod.mk.injEq] at h
      obtain ⟨rfl, rfl⟩ := h
      have hv : v = .slice none 0 0 := hr
      exact new τ [] ⟨v, τ.size, 0⟩ none hv (fun t e => by cases e) rfl ⟨none, 0, hv, Nat.le_refl _, by simp [maxL], fun i x hx => by simp at hx⟩ rfl rfl
    | slice tk τ' l =>
      cases tk with
      | ro => simp [normC] at h
      | own t =>
        simp only [normC] at h
        split at h
        · rename_i l' hc
          obtain ⟨rfl, rfl⟩ := castL_eq hc
          split at h
          · rename_i hlv
            have hlv' : t ∈ live := by simpa using hlv
            obtain ⟨r, hrt⟩ := hl t hlv'
            obtain ⟨e1, e2⟩ := hr.2 t r rfl hrt
            split at h
            · rename_i t' hf
              simp only [Option.some.injEq, Prod.mk.injEq] at h
              obtain ⟨rfl, rfl⟩ := h
              obtain ⟨k, rfl, hk⟩ := findNew_some hf
              obtain ⟨r', hr', hrel⟩ := hn.rel.get k _ hk
              have hlt := (List.getElem?_eq_some_iff.1 hr').1
              refine stay rfl ⟨⟨hr.1, fun q r2 hq ht => ?_⟩, by simp [belowC, canon]; omega⟩
              cases hq
              simp only [gN] at ht
              rw [if_neg (by omega), show base + 0 + k - base = k by omega, hr'] at ht
              cases ht
              have := hrel.1
              rw [hrt] at this; cases this
              exact ⟨e1, e2⟩
            · rename_i hf
              simp only [Option.some.injEq, Prod.mk.injEq] at h
              obtain ⟨rfl, rfl⟩ := h
              exact new _ _ r (some t) ⟨hrt, hlv'⟩ (fun t2 e i => by cases e; exact findNew_none hf i) rfl hr.1 e1 e2
          · cases h
        · cases h
    | _ => simp [normC] at h
  | ro τ =>
    cases x with
    | nils =>
      simp only [normC, Option.some.injEq, Prod.mk.injEq] at h
      obtain ⟨rfl, rfl⟩ := h
      have hv : v = .slice none 0 0 := hr
      exact stay rfl ⟨⟨⟨none, 0, hv, Nat.le_refl _, by simp [maxL], fun i x hx => by simp at hx⟩, fun k r hk _ => by cases hk⟩, rfl⟩
    | slice tk τ' l =>
      simp only [normC] at h
      split at h
      · rename_i l' hc
        obtain ⟨rfl, rfl⟩ := castL_eq hc
        simp only [Option.some.injEq, Prod.mk.injEq] at h
        obtain ⟨rfl, rfl⟩ := h
        exact stay rfl (ro_gN hr)
      · cases h
    | _ => simp [normC] at h
  | keep =>
    cases x <;> simp only [normC] at h
    case slice tk τ' l =>
      simp only [Option.some.injEq, Prod.mk.injEq] at h
      obtain ⟨rfl, rfl⟩ := h
      exact stay rfl (ro_gN hr)
    all_goals first
      | (simp only [Option.some.injEq, Prod.mk.injEq] at h
         obtain ⟨rfl, rfl⟩ := h
         exact stay rfl ⟨hr, rfl⟩)
      | (split at h
         · rename_i hlt
           simp only [Option.some.injEq, Prod.mk.injEq] at h
           obtain ⟨rfl, rfl⟩ := h
           exact stay rfl ⟨hr, by simpa [belowC] using hlt⟩
         · cases h)

theorem normCs_ok {live : List Nat} (hl : ∀ t ∈ live, ∃ r, g.tok t = some r) : ∀ {xs ys : List C} {news news' : List (Option Nat)} {vs : List Value} {rows : List Row}, normCs base m live news xs = some (ys, news') → All2 (RelC g w) xs vs → NOk g live news rows →
    ∃ ex, NOk g live news' (rows ++ ex) ∧ All2 (NRes g w base m (rows ++ ex)) ys vs
  | [], ys, news, news', [], rows, h, _, hn => by
    simp only [normCs, Option.some.injEq, Prod.mk.injEq] at h
    obtain ⟨rfl, rfl⟩ := h
    exact ⟨[], by simpa using hn, trivial⟩
  | x :: xs, ys, news, news', v :: vs, rows, h, hr, hn => by
    simp only [normCs] at h
    split at h
    · rename_i x' n1 h1
      split at h
      · rename_i r' n2 h2
        simp only [Option.some.injEq, Prod.mk.injEq] at h
        obtain ⟨rfl, rfl⟩ := h
        obtain ⟨e1, a1, a2⟩ := normC_ok hl h1 hr.1 hn
        obtain ⟨e2, b1, b2⟩ := normCs_ok hl h2 hr.2 a1
        rw [List.append_assoc] at b1 b2
        exact ⟨e1 ++ e2, b1, by rw [← List.append_assoc]; exact a2.more, b2⟩
      · cases h
    · cases h
  | [], _, _, _, _ :: _, _, _, h, _ => h.elim
  | _ :: _, _, _, _, [], _, _, h, _ => h.elim

def NResPV (g : Gh) (w : World) (base m : Nat) (rows : List Row) (y : PV) (v : Value) : Prop := RelPV (gN g base rows) w y v ∧ belowPV (canon base rows) m y = true

theorem NResPV.more {rows ex : List Row} {y : PV} {v : Value} (h : NResPV g w base m rows y v) : NResPV g w base m (rows ++ ex) y v :=
  ⟨RelPV.mono (ext_gN rows ex) h.2 h.1, belowPV.mono canon_more (Nat.le_refl _) h.2⟩

theorem nres_list {rows : List Row} {ys : List C} {vs : List Value} (h : All2 (NRes g w base m rows) ys vs) : All2 (RelC (gN g base rows) w) ys vs ∧ ys.all (belowC (canon base rows) m) = true := by
  refine ⟨h.mono fun _ _ h => h.1, ?_⟩
  rw [List.all_eq_true]
  intro y hy
  obtain ⟨i, hi⟩ := List.getElem?_of_mem hy
  obtain ⟨v, _, hr⟩ := h.get i y hi
  exact hr.2

theorem normPV_ok {md : Mode} {live : List Nat} {news news' : List (Option Nat)} {x y : PV} {v : Value} {rows : List Row} (hl : ∀ t ∈ live, ∃ r, g.tok t = some r) (h : normPV base m live md news x = some (y, news')) (hr : RelPV g w x v) (hn : NOk g live news rows) :
    ∃ ex, NOk g live news' (rows ++ ex) ∧ NResPV g w base m (rows ++ ex) y v := by
  cases x with
  | any =>
    simp only [normPV, Option.some.injEq, Prod.mk.injEq] at h
    obtain ⟨rfl, rfl⟩ := h
    exact ⟨[], by simpa using hn, trivial, rfl⟩
  | c x =>
    simp only [normPV, Option.map_eq_some_iff, Prod.mk.injEq] at h
    obtain ⟨⟨y', n'⟩, h1, rfl, rfl⟩ := h
    exact normC_ok hl h1 hr hn
  | agg cs =>
    simp only [normPV, Option.map_eq_some_iff, Prod.mk.injEq] at h
    obtain ⟨⟨y', n'⟩, h1, rfl, rfl⟩ := h
    obtain ⟨vs, rfl, hr⟩ := hr
    obtain ⟨ex, a1, a2⟩ := normCs_ok hl h1 hr hn
    obtain ⟨b1, b2⟩ := nres_list a2
    exact ⟨ex, a1, ⟨vs, rfl, b1⟩, b2⟩
  | rptr cs =>
    simp only [normPV, Option.map_eq_some_iff, Prod.mk.injEq] at h
    obtain ⟨⟨y', n'⟩, h1, rfl, rfl⟩ := h
    obtain ⟨k, off, vs, rfl, hr, hall⟩ := hr
    obtain ⟨ex, a1, a2⟩ := normCs_ok hl h1 hr hn
    obtain ⟨b1, b2⟩ := nres_list a2
    exact ⟨ex, a1, ⟨k, off, vs, rfl, b1, hall⟩, b2⟩
  | tup ps =>
    simp only [normPV] at h
    split at h
    · rename_i he
      simp only [Option.some.injEq, Prod.mk.injEq] at h
      obtain ⟨rfl, rfl⟩ := h
      have : ps = [] := by simpa using he
      subst this
      obtain ⟨vs, e, hr⟩ := hr
      exact ⟨[], by simpa using hn, ⟨vs, e, All2.mono_mem (fun a ha => by cases ha) hr⟩, rfl⟩
    · cases h

theorem normSlots_ok {live : List Nat} {tmps : List PV} {vals : List Value} (hl : ∀ t ∈ live, ∃ r, g.tok t = some r) (hs : All2 (RelPV g w) tmps vals) : ∀ {sl : List (Nat × Mode)} {news news' : List (Option Nat)} {out out' : List PV} {rows : List Row}, normSlots base m live tmps sl news out = some (out', news') → NOk g live news rows → All2 (NResPV g w base m rows) out vals →
    ∃ ex, NOk g live news' (rows ++ ex) ∧ All2 (NResPV g w base m (rows ++ ex)) out' vals
  | [], news, news', out, out', rows, h, hn, ho => by
    simp only [normSlots, Option.some.injEq, Prod.mk.injEq] at h
    obtain ⟨rfl, rfl⟩ := h
    exact ⟨[], by simpa using hn, by simpa using ho⟩
  | (s, md) :: sl, news, news', out, out', rows, h, hn, ho => by
    simp only [normSlots] at h
    split at h
    · rename_i v n1 h1
      by_cases hlt : s < tmps.length
      · obtain ⟨u, hu, hr⟩ := hs.get s _ (List.getElem?_eq_getElem hlt)
        have hg : tmps.getD s .any = tmps[s] := by simp [List.getD, hlt]
        rw [hg] at h1
        obtain ⟨e1, a1, a2⟩ := normPV_ok hl h1 hr hn
        have ho' : All2 (NResPV g w base m (rows ++ e1)) (out.set s v) vals := by
          have hv : vals.set s u = vals := by
            apply List.ext_getElem?
            intro i
            rw [List.getElem?_set]
            by_cases e : s = i
            · subst e; rw [if_pos rfl, if_pos (List.getElem?_eq_some_iff.1 hu).1]; exact hu.symm
            · rw [if_neg e]
          have := (ho.mono fun _ _ h => h.more (ex := e1)).set s a2
          rw [hv] at this
          exact this
        obtain ⟨e2, b1, b2⟩ := normSlots_ok hl hs h a1 ho'
        exact ⟨e1 ++ e2, by rw [← List.append_assoc]; exact b1, by rw [← List.append_assoc]; exact b2⟩
      · have hg : tmps.getD s .any = .any := by simp [List.getD, List.getElem?_eq_none (Nat.le_of_not_lt hlt)]
        rw [hg] at h1
        simp only [normPV, Option.some.injEq, Prod.mk.injEq] at h1
        obtain ⟨rfl, rfl⟩ := h1
        have hout : out.set s .any = out := by
          apply List.set_eq_of_length_le
          have := ho.length; have := hs.length; omega
        rw [hout] at h
        exact normSlots_ok hl hs h hn ho
    · cases h

theorem normObjCells_ok {live : List Nat} {cells : List (Nat × Nat × Mode)} {o : Nat} (hl : ∀ t ∈ live, ∃ r, g.tok t = some r) : ∀ {xs ys : List C} {i : Nat} {news news' : List (Option Nat)} {vs : List Value} {rows : List Row}, normObjCells base m live cells o i news xs = some (ys, news') → All2 (RelC g w) xs vs → NOk g live news rows →
    ∃ ex, NOk g live news' (rows ++ ex) ∧ All2 (NRes g w base m (rows ++ ex)) ys vs
  | [], ys, i, news, news', [], rows, h, _, hn => by
    simp only [normObjCells, Option.some.injEq, Prod.mk.injEq] at h
    obtain ⟨rfl, rfl⟩ := h
    exact ⟨[], by simpa using hn, trivial⟩
  | x :: xs, ys, i, news, news', v :: vs, rows, h, hr, hn => by
    simp only [normObjCells] at h
    split at h
    · rename_i x' n1 h1
      split at h
      · rename_i r' n2 h2
        simp only [Option.some.injEq, Prod.mk.injEq] at h
        obtain ⟨rfl, rfl⟩ := h
        obtain ⟨e1, a1, a2⟩ := normC_ok hl h1 hr.1 hn
        obtain ⟨e2, b1, b2⟩ := normObjCells_ok hl h2 hr.2 a1
        rw [List.append_assoc] at b1 b2
        exact ⟨e1 ++ e2, b1, by rw [← List.append_assoc]; exact a2.more, b2⟩
      · cases h
    · cases h
  | [], _, _, _, _, _ :: _, _, _, h, _ => h.elim
  | _ :: _, _, _, _, _, [], _, _, h, _ => h.elim

/-- What an object becomes. -/
def NObj (g : Gh) (w : World) (base m : Nat) (rows : List Row) (o : Nat) (x y : AObj) : Prop :=
  (∃ cs vs ty, y = .cells cs ∧ (∀ off, ¬ g.prot (g.phi o) off) ∧ w.heap[g.phi o]? = some (.cells vs.toArray ty (0, 0)) ∧ All2 (NRes g w base m rows) cs vs ∧ solid x) ∨
  (y = x ∧ ∀ rec, x = .loop rec → ∀ z ∈ rec.tmps, belowPV (fun t => decide (t < base)) m z = true) ∧ ∀ cs, x ≠ .cells cs

theorem NObj.more {rows ex : List Row} {o : Nat} {x y : AObj} (h : NObj g w base m rows o x y) : NObj g w base m (rows ++ ex) o x y := by
  rcases h with ⟨cs, vs, ty, h1, h2, h3, h4, h5⟩ | h
  · exact .inl ⟨cs, vs, ty, h1, h2, h3, h4.mono fun _ _ h => h.more, h5⟩
  · exact .inr h

theorem normObjs_ok {live : List Nat} {cells : List (Nat × Nat × Mode)} (hl : ∀ t ∈ live, ∃ r, g.tok t = some r) : ∀ {xs ys : List AObj} {o : Nat} {news news' : List (Option Nat)} {rows : List Row}, normObjs base m live cells o news xs = some (ys, news') → (∀ (i : Nat) (x : AObj), xs[i]? = some x → ObjOk g w (o + i) x) → NOk g live news rows →
    ∃ ex, NOk g live news' (rows ++ ex) ∧ ys.length = xs.length ∧ ∀ (i : Nat) (x y : AObj), xs[i]? = some x → ys[i]? = some y → NObj g w base m (rows ++ ex) (o + i) x y
  | [], ys, o, news, news', rows, h, _, hn => by
    simp only [normObjs, Option.some.injEq, Prod.mk.injEq] at h
    obtain ⟨rfl, rfl⟩ := h
    exact ⟨[], by simpa using hn, rfl, fun i x y h => by simp at h⟩
  | x :: xs, ys, o, news, news', rows, h, hx, hn => by
    have hx0 : ObjOk g w o x := hx 0 x rfl
    have hx' : ∀ (i : Nat) (y : AObj), xs[i]? = some y → ObjOk g w (o + 1 + i) y := fun i y hy => by
      have := hx (i + 1) y (by simpa using hy)
      rwa [show o + (i + 1) = o + 1 + i by omega] at this
    have tail : ∀ {n1 n2 : List (Option Nat)} {r' : List AObj} {y : AObj} {e1 : List Row}, normObjs base m live cells (o + 1) n1 xs = some (r', n2) → NOk g live n1 (rows ++ e1) → NObj g w base m (rows ++ e1) o x y →
        ∃ ex, NOk g live n2 (rows ++ ex) ∧ (y :: r').length = (x :: xs).length ∧ ∀ (i : Nat) (p q : AObj), (x :: xs)[i]? = some p → (y :: r')[i]? = some q → NObj g w base m (rows ++ ex) (o + i) p q := fun {n1 n2 r' y e1} h1 h2 h3 => by
      obtain ⟨e2, b1, b2, b3⟩ := normObjs_ok hl h1 hx' h2
      refine ⟨e1 ++ e2, by rw [← List.append_assoc]; exact b1, by simp [b2], fun i p q hp hq => ?_⟩
      rw [← List.append_assoc]
      cases i with
      | zero =>
        simp at hp hq
        subst hp; subst hq
        exact h3.more
      | succ i =>
        have := b3 i p q (by simpa using hp) (by simpa using hq)
        rwa [show o + 1 + i = o + (i + 1) by omega] at this
    cases x with
    | cells cs =>
      simp only [normObjs] at h
      split at h
      · rename_i cs' n1 h1
        split at h
        · rename_i r' n2 h2
          simp only [Option.some.injEq, Prod.mk.injEq] at h
          obtain ⟨rfl, rfl⟩ := h
          obtain ⟨hp, vs, ty, hh, hr⟩ := hx0
          obtain ⟨e1, a1, a2⟩ := normObjCells_ok hl h1 hr hn
          exact tail h2 a1 (.inl ⟨cs', vs, ty, rfl, hp, hh, a2, trivial⟩)
        · cases h
      · cases h
    | loop rec =>
      simp only [normObjs] at h
      split at h
      · rename_i hall
        split at h
        · rename_i r' n2 h2
          simp only [Option.some.injEq, Prod.mk.injEq] at h
          obtain ⟨rfl, rfl⟩ := h
          exact tail (e1 := []) h2 (by simpa using hn) (.inr ⟨⟨rfl, fun rec' e z hz => by cases e; exact List.all_eq_true.1 hall z hz⟩, fun cs e => by cases e⟩)
        · cases h
      · cases h
    | row τ l fz =>
      simp only [normObjs] at h
      split at h
      · rename_i r' n2 h2
        simp only [Option.some.injEq, Prod.mk.injEq] at h
        obtain ⟨rfl, rfl⟩ := h
        exact tail (e1 := []) h2 (by simpa using hn) (.inr ⟨⟨rfl, fun rec' e => by cases e⟩, fun cs e => by cases e⟩)
      · cases h
    | siter l pos =>
      simp only [normObjs] at h
      split at h
      · rename_i r' n2 h2
        simp only [Option.some.injEq, Prod.mk.injEq] at h
        obtain ⟨rfl, rfl⟩ := h
        exact tail (e1 := []) h2 (by simpa using hn) (.inr ⟨⟨rfl, fun rec' e => by cases e⟩, fun cs e => by cases e⟩)
      · cases h
    | vec τ l fz =>
      simp only [normObjs] at h
      split at h
      · rename_i r' n2 h2
        simp only [Option.some.injEq, Prod.mk.injEq] at h
        obtain ⟨rfl, rfl⟩ := h
        exact tail (e1 := []) h2 (by simpa using hn) (.inr ⟨⟨rfl, fun rec' e => by cases e⟩, fun cs e => by cases e⟩)
      · cases h
    | dead =>
      simp only [normObjs] at h
      split at h
      · rename_i r' n2 h2
        simp only [Option.some.injEq, Prod.mk.injEq] at h
        obtain ⟨rfl, rfl⟩ := h
        exact tail (e1 := []) h2 (by simpa using hn) (.inr ⟨⟨rfl, fun rec' e => by cases e⟩, fun cs e => by cases e⟩)
      · cases h

theorem belowC_both {p q r : Nat → Bool} {m m' : Nat} (h : ∀ t, p t = true → q t = true → r t = true) {x : C} (h1 : belowC p m x = true) (h2 : belowC q m' x = true) : belowC r m x = true := by
  cases x <;> simp only [belowC] at h1 h2 ⊢
  case slice tk τ l =>
    cases tk with
    | ro => rfl
    | own t => exact h t h1 h2
  all_goals exact h1

theorem belowPV_both {p q r : Nat → Bool} {m m' : Nat} (h : ∀ t, p t = true → q t = true → r t = true) {x : PV} (h1 : belowPV p m x = true) (h2 : belowPV q m' x = true) : belowPV r m x = true := by
  cases x with
  | any => rfl
  | c x => exact belowC_both h h1 h2
  | agg cs => simp only [belowPV, List.all_eq_true] at h1 h2 ⊢; exact fun x hx => belowC_both h (h1 x hx) (h2 x hx)
  | rptr cs => simp only [belowPV, List.all_eq_true] at h1 h2 ⊢; exact fun x hx => belowC_both h (h1 x hx) (h2 x hx)
  | tup ps => simp only [belowPV, List.all_eq_true] at h1 h2 ⊢; exact fun p hp x hx => belowC_both h (h1 p hp x hx) (h2 p hp x hx)

theorem newToks_mem {t : Nat} : ∀ {c n : Nat}, t ∈ newToks c n ↔ c ≤ t ∧ t < c + n
  | c, 0 => by simp [newToks]
  | c, n + 1 => by simp only [newToks, List.mem_cons, newToks_mem (c := c + 1) (n := n)]; omega

/-- What the slices that are put aside rely on. -/
structure Kept (g g' : Gh) (st st' : St) : Prop where
  prot : g'.prot = g.prot
  free : ∀ k, Free g st k → Free g' st' k

theorem norm_ok {h : Hint} {fr fr' : Fr} {vals : Array Value} {b0 : Nat → Bool} (hh : norm h fr st = some (fr', st')) (hb0 : ∀ t, b0 t = true → t < fr.base) (hbn : fr.base ≤ st.next)
    (hs : RelSlots g w (tk b0 fr.base st.next) st.objs.length fr.tmps vals) (hi : Inv g (tk b0 fr.base st.next) st w) :
    ∃ g', RelSlots g' w (tk b0 fr.base st'.next) st'.objs.length fr'.tmps vals ∧ Inv g' (tk b0 fr.base st'.next) st' w ∧ Ext b0 fr.obase g w g' w ∧ SameFr fr fr' ∧ fr.base ≤ st'.next ∧ fr.obase ≤ st'.objs.length ∧ Kept g g' st st' := by
  unfold norm at hh
  split at hh
  · rename_i hob
    obtain ⟨hob1, hob2⟩ := hob
    split at hh
    · rename_i tmps n1 h1
      split at hh
      · rename_i objs n2 h2
        simp only [Option.some.injEq, Prod.mk.injEq] at hh
        obtain ⟨rfl, rfl⟩ := hh
        have hl : ∀ t ∈ st.live, ∃ r, g.tok t = some r := fun t ht => let ⟨r, hr, _⟩ := hi.toks t ht; ⟨r, hr⟩
        have hn0 : NOk g st.live [] [] := ⟨trivial, fun i j t h => by simp at h⟩
        have hany : All2 (NResPV g w fr.base h.objs []) (List.replicate fr.tmps.length PV.any) vals.toList :=
          All2.of_get (by simp [hs.1.length]) fun i a v ha _ => by
            rw [List.getElem?_replicate] at ha
            split at ha
            · cases ha; exact ⟨trivial, rfl⟩
            · cases ha
        obtain ⟨e1, a1, a2⟩ := normSlots_ok hl hs.1 h1 hn0 hany
        simp only [List.nil_append] at a1 a2
        obtain ⟨e2, c1, c2, c3⟩ := normObjs_ok hl h2 (fun i x hx => by
          rw [Nat.zero_add]
          rw [List.getElem?_take] at hx
          split at hx
          · exact hi.objs i x hx
          · cases hx) a1
        obtain ⟨rows, hrows⟩ : ∃ rows, rows = e1 ++ e2 := ⟨_, rfl⟩
        rw [← hrows] at c1 c3
        have a3 : All2 (NResPV g w fr.base h.objs rows) tmps vals.toList := by rw [hrows]; exact a2.mono fun _ _ h => h.more
        have hlen := c1.rel.length
        have hol : objs.length = h.objs := by rw [c2]; simp [hob2]
        obtain ⟨g', hg'⟩ : ∃ g' : Gh, g' = { g with tok := fun t => if t < fr.base then (if n2.contains (some t) then none else g.tok t) else rows[t - fr.base]? } := ⟨_, rfl⟩
        -- from the new tokens' ghost to the whole
        have eN : Ext (canon fr.base rows) h.objs (gN g fr.base rows) w g' w := by
          subst hg'
          refine { Ext.refl (canon fr.base rows) h.objs (gN g fr.base rows) w with tok := fun t ht => .inl ?_ }
          simp only [canon, Bool.and_eq_true, decide_eq_true_eq] at ht
          simp only [gN]
          rw [if_neg (by omega), if_neg (by omega)]
        have eO : ∀ (p : Nat → Bool) (k : Nat), (∀ t, p t = true → t < fr.base) → Ext p k g w g' w := fun p k hp => by
          subst hg'
          refine { Ext.refl p k g w with tok := fun t ht => ?_ }
          simp only
          rw [if_pos (hp t ht)]
          split
          · exact .inr rfl
          · exact .inl rfl
        have hcan : ∀ t, canon fr.base rows t = true → tk b0 fr.base (fr.base + n2.length) t = true := fun t ht => by
          simp only [canon, Bool.and_eq_true, decide_eq_true_eq] at ht
          rw [tk_iff]; omega
        have hin : ∀ t, tk b0 fr.base st.next t = true → t < fr.base → b0 t = true := fun t h1 h2 => by
          rw [tk_iff] at h1; rcases h1 with h1 | h1
          · exact h1
          · omega
        have hget : ∀ (o : Nat) (y : AObj), objs[o]? = some y → o < h.objs ∧ ∃ x, st.objs[o]? = some x ∧ NObj g w fr.base h.objs rows o x y := fun o y hy => by
          have hlt := (List.getElem?_eq_some_iff.1 hy).1
          have hlt' : o < st.objs.length := by omega
          refine ⟨by omega, st.objs[o], List.getElem?_eq_getElem hlt', ?_⟩
          have := c3 o st.objs[o] y (by rw [List.getElem?_take, if_pos (by omega)]; exact List.getElem?_eq_getElem hlt') hy
          rwa [Nat.zero_add] at this
        have hsol : ∀ o, Sol objs o → Sol st.objs o := fun o ho => by
          obtain ⟨y, hy, hs⟩ := ho
          obtain ⟨_, x, hx, hN⟩ := hget o y hy
          rcases hN with ⟨cs, vs, ty, rfl, p1, p2, p3, p4⟩ | ⟨⟨rfl, hN⟩, hnc⟩
          · exact ⟨x, hx, p4⟩
          · exact ⟨y, hx, hs⟩
        have hrow : ∀ t r, g'.tok t = some r → (t < fr.base ∧ g.tok t = some r ∧ some t ∉ n2) ∨ (fr.base ≤ t ∧ rows[t - fr.base]? = some r) := fun t r h => by
          subst hg'
          simp only at h
          split at h
          · split at h
            · cases h
            · rename_i q1 q2; exact .inl ⟨q1, h, by simpa using q2⟩
          · exact .inr ⟨by omega, h⟩
        have hrow2 : ∀ i r, rows[i]? = some r → r.v = .slice none 0 0 ∨ ∃ t, n2[i]? = some (some t) ∧ g.tok t = some r ∧ t ∈ st.live := fun i r h => by
          obtain ⟨q, hq, hr⟩ := c1.rel.get' i r h
          cases q with
          | none => exact .inl hr
          | some t => exact .inr ⟨t, hq, hr⟩
        have hnil : ∀ r : Row, r.v = .slice none 0 0 → ∀ k, r.block ≠ some k := fun r h k q => by simp [Row.block, h] at q
        have hold : ∀ t r k, g'.tok t = some r → r.block = some k → ∃ t0, g.tok t0 = some r ∧ t0 ∈ st.live ∧ ((t < fr.base ∧ t = t0 ∧ some t ∉ n2) ∨ (fr.base ≤ t ∧ n2[t - fr.base]? = some (some t0))) := fun t r k h hk => by
          rcases hrow t r h with ⟨q1, q2, q3⟩ | ⟨q1, q2⟩
          · refine ⟨t, q2, Classical.byContradiction fun q => ?_, .inl ⟨q1, rfl, q3⟩⟩
            rw [hi.dead t q] at q2; cases q2
          · rcases hrow2 _ r q2 with q | ⟨t0, r1, r2, r3⟩
            · exact absurd hk (hnil r q k)
            · exact ⟨t0, r2, r3, .inr ⟨q1, r1⟩⟩
        refine ⟨g', ⟨?_, fun x hx => ?_⟩, ?_, eO b0 fr.obase hb0, ⟨rfl, rfl, rfl, rfl⟩, by simp, by simpa [hol] using hob1, by subst hg'; rfl, fun k hf => ⟨by subst hg'; exact hf.hid, fun o ho => by subst hg'; exact hf.objs o (hsol o ho), fun t r ht hb => ?_⟩⟩
        · exact a3.mono fun x v h => RelPV.mono eN h.2 h.1
        · obtain ⟨i, hi'⟩ := List.getElem?_of_mem hx
          obtain ⟨v, _, hr⟩ := a3.get i x hi'
          exact belowPV.mono hcan (by simp [hol]) hr.2
        rotate_left
        · obtain ⟨t0, q1, _, _⟩ := hold t r k ht hb
          exact hf.toks t0 r q1 hb
        · exact
            { objs := fun o y hy => by
                obtain ⟨ho, x, hx, hN⟩ := hget o y hy
                rcases hN with ⟨cs, vs, ty, rfl, p1, p2, p3, _⟩ | ⟨⟨rfl, hN⟩, hnc⟩
                · subst hg'
                  exact ⟨p1, vs, ty, p2, p3.mono fun x v h => RelC.mono eN h.2 h.1⟩
                · have ok := hi.objs o y hx
                  cases y with
                  | cells cs => exact absurd rfl (hnc cs)
                  | loop rec =>
                    obtain ⟨p1, fid, tm, D, p2, p3⟩ := ok
                    subst hg'
                    exact ⟨p1, fid, tm, D, p2, All2.mono_mem (fun z hz v hr => RelPV.mono (eO (fun t => decide (t < fr.base)) h.objs (by simp)) (hN rec rfl z hz) hr) p3⟩
                  | row τ l fz => subst hg'; exact ok
                  | vec τ l fz => subst hg'; exact ok
                  | dead => trivial
                  | siter l pos => subst hg'; exact ok
              ohid := fun o ho => by subst hg'; exact hi.ohid o (hsol o ho)
              inj := fun o o' q1 q2 e => by subst hg'; exact hi.inj o o' (hsol o q1) (hsol o' q2) e
              below := fun o y hy => by
                obtain ⟨ho, x, hx, hN⟩ := hget o y hy
                rcases hN with ⟨cs, vs, ty, rfl, p1, p2, p3, _⟩ | ⟨⟨rfl, hN⟩, hnc⟩
                · intro z hz
                  have := List.all_eq_true.1 (nres_list p3).2 z hz
                  exact belowC.mono hcan (by simp [hol]) this
                · have hbl := hi.below o y hx
                  cases y with
                  | loop rec =>
                    intro z hz
                    refine belowPV.mono (fun t h => h) (by simp [hol] : h.objs ≤ _) (belowPV_both (r := tk b0 fr.base (fr.base + n2.length)) (fun t q1 q2 => ?_) (hN rec rfl z hz) (hbl z hz))
                    exact tk_of (hin t q2 (by simpa using q1))
                  | cells cs => exact absurd rfl (hnc cs)
                  | _ => trivial
              toks := fun t ht => by
                simp only [List.mem_append, newToks_mem, List.mem_filter, Bool.and_eq_true, decide_eq_true_eq, Bool.not_eq_true', List.contains_eq_mem, decide_eq_false_iff_not] at ht
                rcases ht with ⟨q1, q2⟩ | ⟨q1, q2, q3⟩
                · have hlt : t - fr.base < rows.length := by omega
                  obtain ⟨r, hr⟩ : ∃ r, rows[t - fr.base]? = some r := ⟨_, List.getElem?_eq_getElem hlt⟩
                  refine ⟨r, by subst hg'; simp only; rw [if_neg (by omega)]; exact hr, ?_⟩
                  rcases hrow2 _ r hr with q | ⟨t0, r1, r2, r3⟩
                  · exact .inl q
                  · obtain ⟨r', hr', ok⟩ := hi.toks t0 r3
                    rw [r2] at hr'; cases hr'
                    refine ok.kept fun k hk => ⟨rfl, fun q => by subst hg'; exact q, fun off q => by subst hg'; exact q⟩
                · obtain ⟨r', hr', ok⟩ := hi.toks t q1
                  refine ⟨r', by subst hg'; simp only; rw [if_pos q2, if_neg (by simpa using q3)]; exact hr', ?_⟩
                  refine ok.kept fun k hk => ⟨rfl, fun q => by subst hg'; exact q, fun off q => by subst hg'; exact q⟩
              dead := fun t ht => by
                simp only [List.mem_append, newToks_mem, List.mem_filter, Bool.and_eq_true, decide_eq_true_eq, Bool.not_eq_true', List.contains_eq_mem, decide_eq_false_iff_not, not_or] at ht
                subst hg'
                simp only
                split
                · rename_i q
                  split
                  · rfl
                  · rename_i q2
                    exact hi.dead t fun q3 => ht.2 ⟨q3, q, by simpa using q2⟩
                · rename_i q
                  exact List.getElem?_eq_none (by omega)
              lt := fun t ht => by
                simp only [List.mem_append, newToks_mem, List.mem_filter, Bool.and_eq_true, decide_eq_true_eq] at ht
                rcases ht with q | ⟨q1, q2, _⟩
                · rw [tk_iff]; exact .inr q
                · exact tk_of (hin t (hi.lt t q1) q2)
              dist := fun t t' r r' k h1 h2 h3 h4 => by
                obtain ⟨t0, q1, q2, q3⟩ := hold t r k h1 h3
                obtain ⟨t1, p1, p2, p3⟩ := hold t' r' k h2 h4
                have e : t0 = t1 := hi.dist t0 t1 r r' k q1 p1 h3 h4
                subst e
                rcases q3 with ⟨a1, a2, a3⟩ | ⟨a1, a2⟩ <;> rcases p3 with ⟨b1, b2, b3⟩ | ⟨b1, b2⟩
                · omega
                · exact absurd (a2 ▸ List.mem_of_getElem? b2) a3
                · exact absurd (b2 ▸ List.mem_of_getElem? a2) b3
                · have := c1.dup _ _ t0 a2 b2; omega
              sep := fun t r k o h1 h2 ho => by
                obtain ⟨t0, q1, q2, q3⟩ := hold t r k h1 h2
                have := hi.sep t0 r k o q1 h2 (hsol o ho)
                subst hg'; exact this
              hidLt := fun k hk => hi.hidLt k (by subst hg'; exact hk)
              protEx := fun k off hk => hi.protEx k off (by subst hg'; exact hk)
              glob := fun n cs h => (hi.glob n cs h).mono (fun _ _ h => by subst hg'; exact h) (fun _ _ _ => rfl) }
      · cases hh
    · cases hh
  · cases hh

theorem normV_ok {h : Hint} {fr : Fr} {vals : Array Value} {b0 : Nat → Bool} (hb0 : ∀ t, b0 t = true → t < fr.base) : ∀ (l : List (Nat × Ty)) {st st' : St} {fr' : Fr} {g : Gh}, normV h fr l st = some (fr', st') → fr.base ≤ st.next →
    RelSlots g w (tk b0 fr.base st.next) st.objs.length fr.tmps vals → Inv g (tk b0 fr.base st.next) st w →
    ∃ g', RelSlots g' w (tk b0 fr.base st'.next) st'.objs.length fr'.tmps vals ∧ Inv g' (tk b0 fr.base st'.next) st' w ∧ Ext b0 fr.obase g w g' w ∧ SameFr fr fr' ∧ fr.base ≤ st'.next ∧ fr.obase ≤ st'.objs.length ∧ Kept g g' st st'
  | [], st, st', fr', g, hh, hbn, hs, hi => norm_ok hh hb0 hbn hs hi
  | (s, τ) :: r, st, st', fr', g, hh, hbn, hs, hi => by
    simp only [normV] at hh
    split at hh
    · rename_i l fz o hv
      split at hh
      · cases hh
      · rename_i hτ0
        split at hh
        · rename_i fr1 st1 h1
          split at hh
          · rename_i hsl
            simp only [Option.some.injEq, Prod.mk.injEq] at hh
            obtain ⟨rfl, rfl⟩ := hh
            have i0 := hi.die o
            obtain ⟨g1, s1, i1, e1, f1, n1, o1, k1⟩ := normV_ok hb0 r (st := { st with objs := dieO st.objs o }) h1 hbn (by
              show RelSlots g w _ (dieO st.objs o).length _ _
              rw [dieO_length]; exact hs) i0
            have hlen : fr1.tmps.length = vals.toList.length := s1.1.length
            obtain ⟨u, hu⟩ : ∃ u, vals.toList[s]? = some u := ⟨_, List.getElem?_eq_getElem (by omega)⟩
            have hux : RelPV g w (fr.tmps.getD s .any) u := by
              have hl2 : s < fr.tmps.length := by have := hs.1.length; omega
              obtain ⟨u', hu', hr⟩ := hs.1.get s _ (List.getElem?_eq_getElem hl2)
              rw [hu] at hu'; cases hu'
              rwa [show fr.tmps.getD s .any = fr.tmps[s] by simp [List.getD, hl2]]
            have hvs : vals.toList.set s u = vals.toList := by
              apply List.ext_getElem?
              intro i
              rw [List.getElem?_set]
              by_cases e : s = i
              · subst e; rw [if_pos rfl, if_pos (List.getElem?_eq_some_iff.1 hu).1]; exact hu.symm
              · rw [if_neg e]
            -- what is told again
            have key : ∃ k mr, u = vecV k mr ∧ ObjOk (g1.more st1.objs.length k mr) w st1.objs.length (.vec τ l fz) ∧ (l ≠ [] → Free g1 st1 k) ∧ (∀ q, Free g st q → l ≠ [] → k ≠ q) := by
              unfold vecAt at hv
              split at hv
              · rename_i hx
                cases hv
                rw [hx] at hux
                exact ⟨0, (0, 0), hux, ⟨0, more_mrow _ _ _, fun h => absurd rfl h⟩, fun h => absurd rfl h, fun _ _ h => absurd rfl h⟩
              · rename_i o' hx
                rw [hx] at hux
                split at hv
                · rename_i τ' l0 fz' ho
                  simp only [Option.map_eq_some_iff, Prod.mk.injEq] at hv
                  obtain ⟨l1, hcast, rfl, rfl, rfl⟩ := hv
                  obtain ⟨rfl, rfl⟩ := castL_eq hcast
                  obtain ⟨cap, hm, hob⟩ := hi.objs o' _ ho
                  refine ⟨g.phi o', g.mrow o', hux, ⟨cap, by rw [more_mrow]; exact hm, fun hne => ?_⟩, fun hne => k1.free _ (hi.free ⟨_, ho, hne⟩), fun q hq hne => hq.objs o' ⟨_, ho, hne⟩⟩
                  obtain ⟨a0, a1, a2, vs, ty, a3, a4, a5, a6, a7⟩ := hob hne
                  have hp : (g1.more st1.objs.length (g.phi o') (g.mrow o')).prot = g.prot := k1.prot
                  exact ⟨a0, fun hz => by rw [more_phi, hp]; exact a1 hz, fun hz => by rw [more_phi, hp]; exact a2 hz, vs, ty, by rw [more_phi]; exact a3, a4, a5, a6, by rw [hp]; exact a7⟩
                · cases hv
              · cases hv
            obtain ⟨k, mr, hk1, hk2, hk3, hk4⟩ := key
            have i2 := i1.again hk2 hk3
            have e2 := ext_again (b := tk b0 fr.base st1.next) (g := g1) (w := w) (st := st1) k mr
            refine ⟨_, ⟨?_, fun x hx => ?_⟩, i2, e1.trans (e2.weaken (fun t ht => tk_of ht) o1), ⟨f1.1, f1.2.1, f1.2.2.1, f1.2.2.2⟩, n1, ?_, k1.prot, fun q hq => ?_⟩
            · show All2 _ (fr1.tmps.set s (.c (.vslice st1.objs.length))) vals.toList
              rw [← hvs]
              refine (All2.mono_mem (fun z hz v hr => RelPV.mono e2 (s1.2 z hz) hr) s1.1).set s ?_
              simp only [RelPV, RelC, more_phi, more_mrow]
              exact hk1
            · rcases List.mem_or_eq_of_mem_set hx with hx | rfl
              · exact belowPV.mono (fun _ h => h) (by simp [addObj]) (s1.2 x hx)
              · simp [belowPV, belowC]
            · show fr.obase ≤ (st1.objs ++ [_]).length
              simp; omega
            · have hq1 : Free g1 st1 q := k1.free q ⟨hq.hid, fun i hs => by
                obtain ⟨x, hx, hsx⟩ := hs
                rcases dieO_get (show (dieO st.objs o)[i]? = some x from hx) with p | rfl
                · exact hq.objs i ⟨x, p.1, hsx⟩
                · exact hsx.elim, hq.toks⟩
              refine ⟨hq1.hid, fun i hs => ?_, hq1.toks⟩
              obtain ⟨x, hx, hsx⟩ := hs
              by_cases hi' : i < st1.objs.length
              · have hx' : st1.objs[i]? = some x := by rw [← List.getElem?_append_left hi']; exact hx
                have : (g1.more st1.objs.length k mr).phi i = g1.phi i := by simp [Gh.more]; omega
                rw [this]; exact hq1.objs i ⟨x, hx', hsx⟩
              · have hl : i = st1.objs.length := by
                  have := (List.getElem?_eq_some_iff.1 hx).1
                  simp at this; omega
                subst hl
                have hx' : (st1.objs ++ [AObj.vec τ l fz])[st1.objs.length]? = some x := hx
                simp at hx'
                subst hx'
                rw [more_phi]; exact hk4 q hq hsx
          · cases hh
        · cases hh
    · cases hh

theorem normH_ok {p tag : Nat} {fr : Fr} {vals : Array Value} {b0 : Nat → Bool} (hb0 : ∀ t, b0 t = true → t < fr.base) (hbn : fr.base ≤ st.next) (hob : fr.obase ≤ st.objs.length)
    (hs : RelSlots g w (tk b0 fr.base st.next) st.objs.length fr.tmps vals) (hi : Inv g (tk b0 fr.base st.next) st w) : ∀ (l : List ((Nat × Nat) × Hint)) (fr' : Fr) (st' : St), normH p tag fr st l = (fr', st') →
    ∃ g', RelSlots g' w (tk b0 fr.base st'.next) st'.objs.length fr'.tmps vals ∧ Inv g' (tk b0 fr.base st'.next) st' w ∧ Ext b0 fr.obase g w g' w ∧ SameFr fr fr' ∧ fr.base ≤ st'.next ∧ fr.obase ≤ st'.objs.length
  | [], fr', st', h => by
    simp only [normH, Prod.mk.injEq] at h
    obtain ⟨rfl, rfl⟩ := h
    exact ⟨g, hs, hi, Ext.refl _ _ _ _, ⟨rfl, rfl, rfl, rfl⟩, hbn, hob⟩
  | (q, hn) :: r, fr', st', h => by
    simp only [normH] at h
    split at h
    · split at h
      · rename_i x hx
        subst h
        obtain ⟨g', q1, q2, q3, q4, q5, q6, _⟩ := normV_ok hb0 _ hx hbn hs hi
        exact ⟨g', q1, q2, q3, q4, q5, q6⟩
      · exact normH_ok hb0 hbn hob hs hi r fr' st' h
    · exact normH_ok hb0 hbn hob hs hi r fr' st' h

/-- At a loop's head; where it is left. -/
theorem normK_ok {R : Type} {K : Fr → St → Option R} {r : R} {p tag : Nat} {fr : Fr} {vals : Array Value} {b0 : Nat → Bool} (hh : normK cfg p tag fr st K = some r) (hb0 : ∀ t, b0 t = true → t < fr.base) (hbn : fr.base ≤ st.next) (hob : fr.obase ≤ st.objs.length)
    (hs : RelSlots g w (tk b0 fr.base st.next) st.objs.length fr.tmps vals) (hi : Inv g (tk b0 fr.base st.next) st w) :
    ∃ fr' st' g', K fr' st' = some r ∧ RelSlots g' w (tk b0 fr.base st'.next) st'.objs.length fr'.tmps vals ∧ Inv g' (tk b0 fr.base st'.next) st' w ∧ Ext b0 fr.obase g w g' w ∧ SameFr fr fr' ∧ fr.base ≤ st'.next ∧ fr.obase ≤ st'.objs.length := by
  obtain ⟨g', h1⟩ := normH_ok (p := p) (tag := tag) hb0 hbn hob hs hi cfg.hints (normH p tag fr st cfg.hints).1 (normH p tag fr st cfg.hints).2 rfl
  exact ⟨_, _, g', hh, h1⟩

end Go.Proofs.YthhllkiefncbnaaDoorSim
