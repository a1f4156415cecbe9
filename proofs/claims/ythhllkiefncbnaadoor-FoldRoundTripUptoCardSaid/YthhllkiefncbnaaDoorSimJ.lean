/- append. -/
import Derived.Test.YthhllkiefncbnaaDoorSimI
namespace Go.Proofs.YthhllkiefncbnaaDoorSim
open Go
set_option linter.unusedVariables false
set_option linter.unusedSimpArgs false

variable {P : Program} {g g' : Gh} {w w' : World} {st : St} {b : Nat → Bool} {m : Nat}

theorem Inv.same_heap (hi : Inv g b st w) (hh : w'.heap = w.heap) (hos : w'.os = w.os) (htp : w'.tape = w.tape) (hou : w'.output = w.output) : Inv g b st w' ∧ Ext b st.objs.length g w g w' := by
  have hc : ∀ k off, w'.cell? ⟨k, off, none⟩ = w.cell? ⟨k, off, none⟩ := fun k off => by simp [World.cell?, hh]
  have he : Ext b st.objs.length g w g w' :=
    { os := hos, tape := htp, output := hou, size := by rw [hh]; exact Nat.le_refl _, hid := fun _ h => h, hidden := fun k _ => by rw [hh], cells := fun k off _ => hc k off, prot := fun _ _ h => h, newp := fun _ _ _ h => h,
      phi := fun _ _ => rfl, mrow := fun _ _ => rfl, tok := fun _ _ => .inl rfl }
  refine ⟨Inv.step (ch := fun _ => False) (st' := st) hi he (fun _ h => h) (fun k hk _ => ⟨by rw [hh], fun off h => h⟩) rfl (fun k off h => by rw [hh]; exact hi.protEx k off h) rfl (fun o x h => .inl ⟨h, fun _ q => q⟩) (fun t ht => ?_) hi.dead hi.lt (fun t r h => .inl h), he⟩
  obtain ⟨r, hr, ok⟩ := hi.toks t ht
  exact ⟨r, hr, .inl ⟨hr, ht, fun _ _ q => q⟩⟩

/-- The cells of a slice, one behind the other. -/
theorem SliceR.cells {α : Type} {prot : Nat → Nat → Prop} {R : α → List Value → Prop} {sz : Nat} {l : List α} {v : Value} (h : SliceR w prot R sz l v) :
    ∃ a cap news, v = .slice a l.length cap ∧ l.length ≤ cap ∧ cap ≤ maxL ∧ news.length = l.length * sz ∧ RowR R sz l news ∧ (∀ j u, news[j]? = some u → ∃ k off, a = some ⟨k, off, none⟩ ∧ prot k (off + j) ∧ w.cell? ⟨k, off + j, none⟩ = some u) := by
  obtain ⟨a, cap, hv, h1, h2, hall⟩ := h
  have key : ∀ n, n ≤ l.length → ∃ news : List Value, news.length = n * sz ∧ (∀ i x, i < n → l[i]? = some x → R x ((news.drop (i * sz)).take sz)) ∧
      (∀ j u, news[j]? = some u → ∃ k off, a = some ⟨k, off, none⟩ ∧ prot k (off + j) ∧ w.cell? ⟨k, off + j, none⟩ = some u) := by
    intro n
    induction n with
    | zero => exact fun _ => ⟨[], by simp, fun i x hi => by omega, fun j u hu => by simp at hu⟩
    | succ n ih =>
      intro hn
      obtain ⟨news, e1, e2, e3⟩ := ih (by omega)
      obtain ⟨k, off, cs, ha, hr, hl, hc⟩ := hall n _ (List.getElem?_eq_getElem (show n < l.length by omega))
      refine ⟨news ++ cs, by simp [e1, hl, Nat.add_mul], fun i x hi hx => ?_, fun j u hu => ?_⟩
      · by_cases e : i = n
        · subst e
          rw [← e1, List.drop_left, ← hl, List.take_length]
          rw [List.getElem?_eq_getElem (show i < l.length by omega)] at hx
          cases hx; exact hr
        · have := e2 i x (by omega) hx
          have hle : (i + 1) * sz ≤ n * sz := Nat.mul_le_mul_right _ (by omega)
          rw [Nat.add_mul] at hle
          rw [List.drop_append_of_le_length (by omega), List.take_append_of_le_length (by simp; omega)]
          exact this
      · by_cases hj : j < news.length
        · rw [List.getElem?_append_left hj] at hu; exact e3 j u hu
        · rw [List.getElem?_append_right (by omega)] at hu
          have := hc _ u hu
          rw [e1] at this
          have e : off + n * sz + (j - n * sz) = off + j := by omega
          rw [e] at this
          exact ⟨k, off, ha, this⟩
  obtain ⟨news, e1, e2, e3⟩ := key l.length (Nat.le_refl _)
  exact ⟨a, cap, news, hv, h1, h2, e1, ⟨by omega, fun i x hx => e2 i x (List.getElem?_eq_some_iff.1 hx).1 hx⟩, e3⟩

/-- What is appended: its length, its cells, in whatever later world with this memory. -/
def SrcOk (P : Program) (t : TypeId) (w : World) (sz : Nat) (n : Nat) (news : List Value) (v : Value) : Prop :=
  (∃ d, P.underlying t = some d ∧ ∀ k, d ≠ .int k) ∧ (∀ W, (Builtin.lenOf v).run P W = .ok n W) ∧ news.length = n * sz ∧ ∀ W, W.heap = w.heap → (Builtin.firstCells sz n v).run P W = .ok news.toArray W

theorem srcOk_slice {t e : TypeId} {α : Type} {prot : Nat → Nat → Prop} {R : α → List Value → Prop} {sz : Nat} {l : List α} {v : Value} (hu : P.underlying t = some (.slice e)) (h : SliceR w prot R sz l v) :
    ∃ news, SrcOk P t w sz l.length news v ∧ RowR R sz l news := by
  obtain ⟨a, cap, news, rfl, h1, h2, e1, e2, e3⟩ := h.cells
  refine ⟨news, ⟨⟨_, hu, by simp⟩, fun W => rfl, e1, fun W hW => ?_⟩, e2⟩
  cases a with
  | none =>
    have : news = [] := by
      cases news with
      | nil => rfl
      | cons u r => obtain ⟨k, off, q, _⟩ := e3 0 u rfl; cases q
    subst this
    rfl
  | some a =>
    have := run_loadCells_list (P := P) W a news (fun j v hj => by
      obtain ⟨k, off, q, _, hc⟩ := e3 j v hj
      cases q
      rw [add_none]
      simpa [World.cell?, hW] using hc)
    rw [e1] at this
    simpa [Builtin.firstCells] using this

theorem srcOk_block {t e : TypeId} {τ : Ty} {l : List τ.den} {k cap : Nat} {vs : List Value} {ty : TypeId} {fr : Nat × Nat} (hu : P.underlying t = some (.slice e)) (hh : w.heap[k]? = some (.cells vs.toArray ty fr)) (hrow : RowR (RelD w g.prot τ) τ.size l vs) :
    ∃ news, SrcOk P t w τ.size l.length news (.slice (some ⟨k, 0, none⟩) l.length cap) ∧ RowR (RelD w g.prot τ) τ.size l news := by
  have hlen : (vs.take (l.length * τ.size)).length = l.length * τ.size := by have := hrow.1; simp; omega
  refine ⟨vs.take (l.length * τ.size), ⟨⟨_, hu, by simp⟩, fun W => rfl, hlen, fun W hW => ?_⟩, by simpa using Nat.le_of_eq hlen.symm, fun i y hy => ?_⟩
  · have := run_loadCells_list (P := P) W ⟨k, 0, none⟩ (vs.take (l.length * τ.size)) (fun j v hj => by
      rw [add_none]
      rw [List.getElem?_take] at hj
      split at hj
      · simp [World.cell?, hW, hh, hj]
      · cases hj)
    rw [hlen] at this
    simpa [Builtin.firstCells] using this
  · have hlt := (List.getElem?_eq_some_iff.1 hy).1
    have hle : (i + 1) * τ.size ≤ l.length * τ.size := Nat.mul_le_mul_right _ (by omega)
    rw [Nat.add_mul] at hle
    rw [List.drop_take, List.take_take, Nat.min_eq_left (by omega)]
    exact hrow.2 i y hy

theorem appSrc_ok (hi : Inv g b st w) {τ : Ty} {t : TypeId} {x : PV} {u : Value} {l : List τ.den} (h : appSrc P τ t st x = some l) (hx : RelPV g w x u) :
    ∃ news, SrcOk P t w τ.size l.length news u ∧ RowR (RelD w g.prot τ) τ.size l news := by
  unfold appSrc at h
  split at h
  · rename_i e tk τ' l' hu
    obtain ⟨rfl, rfl⟩ := castL_eq h
    exact srcOk_slice hu hx.1
  · rename_i e hu
    cases h
    rw [show u = _ from hx]
    exact ⟨[], ⟨⟨_, hu, by simp⟩, fun W => rfl, by simp, fun W _ => rfl⟩, by simp [RowR]⟩
  · rename_i e o hu
    split at h
    · rename_i τ' l' fz ho
      obtain ⟨rfl, rfl⟩ := castL_eq h
      obtain ⟨_, _, vs, ty, fr, cap, hh, _, hm, hc1, hc2, hrow⟩ := hi.objs o _ ho
      have hu' : u = .slice (some ⟨g.phi o, 0, none⟩) l.length cap := by
        have : u = .slice (some ⟨g.phi o, 0, none⟩) (g.mrow o).1 (g.mrow o).2 := hx
        rw [this, hm]
      subst hu'
      exact srcOk_block hu hh hrow
    · cases h
  · rename_i e o hu
    split at h
    · rename_i τ' l' fz ho
      obtain ⟨rfl, rfl⟩ := castL_eq h
      obtain ⟨cap, hm, hob⟩ := hi.objs o _ ho
      have hu' : u = vecV (g.phi o) (l.length, cap) := by
        have : u = vecV (g.phi o) (g.mrow o) := hx
        rw [this, hm]
      by_cases hne : l = []
      · subst hne
        rw [hu']
        exact ⟨[], ⟨⟨_, hu, by simp⟩, fun W => rfl, by simp, fun W _ => rfl⟩, by simp [RowR]⟩
      · have hln : l.length ≠ 0 := fun e => hne (List.eq_nil_of_length_eq_zero e)
        obtain ⟨_, _, _, vs, ty, hh, _, _, _, hrow⟩ := hob hne
        rw [hu', vecV, if_neg hln]
        exact srcOk_block hu hh hrow
    · cases h
  · rename_i l' hu
    obtain ⟨e, he⟩ := castL_eq h
    subst e
    simp only at he
    subst he
    obtain ⟨s, rfl, rfl, hs⟩ := hx
    refine ⟨(s.data.map fun b => Value.int .u8 b.toNat).toList, ⟨⟨_, hu, by simp⟩, fun W => by rw [bl_length]; rfl, by simp [bl_length, Ty.size], fun W _ => ?_⟩, ?_⟩
    · rw [bl_length]
      simp only [Builtin.firstCells, Sem.run_pure]
      congr 1
      have : s.extract 0 s.size = s := by simp
      rw [this]
    · have := bytesRow (w := w) (g := g) (s := s) (extra := [])
      show RowR _ 1 _ _
      simpa using this
  · cases h

theorem RowR.join {α : Type} {R : α → List Value → Prop} {sz : Nat} {l l' : List α} {olds news : List Value} (h : RowR R sz l olds) (ho : olds.length = l.length * sz) (h' : RowR R sz l' news) (hn : news.length = l'.length * sz) :
    RowR R sz (l ++ l') (olds ++ news) := by
  refine ⟨by simp [ho, hn, Nat.add_mul], fun i x hx => ?_⟩
  by_cases hi : i < l.length
  · rw [List.getElem?_append_left hi] at hx
    have hle : (i + 1) * sz ≤ l.length * sz := Nat.mul_le_mul_right _ (by omega)
    rw [Nat.add_mul] at hle
    rw [List.drop_append_of_le_length (by omega), List.take_append_of_le_length (by simp; omega)]
    exact h.2 i x hx
  · rw [List.getElem?_append_right (by omega)] at hx
    have := h'.2 _ x hx
    have e : i * sz = olds.length + (i - l.length) * sz := by rw [ho, ← Nat.add_mul]; congr 1; omega
    rw [e, ← List.drop_drop, List.drop_left]
    exact this

theorem RowR.more {α : Type} {R : α → List Value → Prop} {sz : Nat} {l : List α} {vs extra : List Value} (h : RowR R sz l vs) : RowR R sz l (vs ++ extra) := by
  refine ⟨by have := h.1; simp; omega, fun i x hx => ?_⟩
  have hlt := (List.getElem?_eq_some_iff.1 hx).1
  have hle : (i + 1) * sz ≤ l.length * sz := Nat.mul_le_mul_right _ (by omega)
  rw [Nat.add_mul] at hle
  have := h.1
  rw [List.drop_append_of_le_length (by omega), List.take_append_of_le_length (by simp; omega)]
  exact h.2 i x hx

section run
variable {t t' ty e : TypeId} {sz bt : Nat} {n : Nat} {news : List Value} {x : Value}

/-- append that fits. -/
theorem run_append_fits (hu : P.underlying t = some (.slice e)) (hs : sizeT P e = some sz) (hx : SrcOk P t' w sz n news x) (h1 : ∀ u ∈ news, u.oneCell' = true) {k sLen sCap : Nat} {cur : Array Value} {ec : TypeId}
    (hh : w.heap[k]? = some (.cells cur ec (0, 0))) (hc : cur.size = sCap * sz) (hle : sLen + n ≤ sCap) :
    (Builtin.append_ #[t, t'] ty #[.slice (some ⟨k, 0, none⟩) sLen sCap, x]).run P w =
      .ok (.slice (some ⟨k, 0, none⟩) (sLen + n) sCap) (w.setRow k (cur.toList.take (sLen * sz) ++ news ++ cur.toList.drop (sLen * sz + news.length)).toArray) := by
  obtain ⟨⟨d, hd, hdi⟩, hl, hnl, hf⟩ := hx
  have hz : (match d with | .int _ => true | _ => false) = false := by cases d <;> first | rfl | exact absurd rfl (hdi _)
  have hst := run_storeCells_fr (P := P) k (sLen * sz) ec (0, 0) news 0 cur w hh (by simp) (by
    have : (sLen + n) * sz ≤ sCap * sz := Nat.mul_le_mul_right _ hle
    rw [Nat.add_mul] at this; omega) h1
  simp only [Nat.add_zero] at hst
  unfold Builtin.append_
  simp [run_underlying hu, run_sizeT hs, run_underlying hd, hz, hl, hle, hf w rfl, add_none, hst]

/-- append that grows. -/
theorem run_append_grows (hu : P.underlying t = some (.slice e)) (hs : sizeT P e = some sz) (hb : bytesT P e = some bt) {z : Value} (hz : ∀ W, (zeroValue e).run P W = .ok z W) (hzs : z.cells.size = sz) (hx : SrcOk P t' w sz n news x)
    {a : Option Addr} {sLen sCap : Nat} {olds : List Value} (ho : ∀ W, W.heap = w.heap → (Builtin.firstCells sz sLen (.slice a sLen sCap)).run P W = .ok olds.toArray W) (hol : olds.length = sLen * sz) (hgt : ¬ sLen + n ≤ sCap) (hfit : (sLen + n) * bt ≤ 140737488355328) (h63 : sLen + n ≤ 9223372036854775807) :
    ∃ cap extra, (Builtin.append_ #[t, t'] ty #[.slice a sLen sCap, x]).run P w =
      .ok (.slice (some ⟨w.heap.size, 0, none⟩) (sLen + n) cap) (w.drew.alloc (.cells (olds ++ news ++ extra).toArray e)) ∧ sLen + n ≤ cap ∧ cap ≤ maxL ∧ (olds ++ news ++ extra).length = cap * sz := by
  obtain ⟨⟨d, hd, hdi⟩, hl, hnl, hf⟩ := hx
  have hzd : (match d with | .int _ => true | _ => false) = false := by cases d <;> first | rfl | exact absurd rfl (hdi _)
  obtain ⟨i, hi⟩ : ∃ i, P.info? e = some i ∧ i.bytes = bt := by
    unfold bytesT at hb
    cases hq : P.info? e with
    | none => rw [hq] at hb; cases hb
    | some i => rw [hq] at hb; simp at hb; exact ⟨i, rfl, hb⟩
  have hge := grownCap_ge w (sLen + n) sCap e
  have hcm : grownCap w (sLen + n) sCap e ≤ maxL := grownCap_le_maxLen w (sLen + n) sCap e h63
  have h63' : ¬ (9223372036854775807 < ((sLen : Int) + (n : Int))) := by omega
  have h48' : ¬ (281474976710656 < Builtin.nextslicecap (sLen + n) sCap * bt) := by
    have := growslice_fits (need := sLen + n) (old := sCap) (bytes := bt) (by omega) hfit; omega
  refine ⟨grownCap w (sLen + n) sCap e, (Builtin.zeroCells z.cells (grownCap w (sLen + n) sCap e - (sLen + n))).toList, ?_, hge, hcm, ?_⟩
  · have e1 := ho w.drew rfl
    have e2 := hf w.drew rfl
    unfold Builtin.append_
    simp [run_underlying hu, run_sizeT hs, run_underlying hd, hzd, hl, hgt, h63', h48', run_typeInfo _ hi.1, hi.2, Question.forced, e1, e2, hz, newRow, grownCap]
    congr 2
    apply Array.ext'
    simp [List.append_assoc]
  · simp only [List.length_append, hol, hnl, Array.length_toList, size_zeroCells, hzs, ← Nat.add_mul]
    congr 1; omega
end run


theorem RowR.one {w : World} {prot : Nat → Nat → Prop} {τ : Ty} {l : List τ.den} {vs : List Value} (h : RowR (RelD w prot τ) τ.size l vs) (hl : vs.length = l.length * τ.size) : ∀ u ∈ vs, u.oneCell' = true := fun u hu => by
  obtain ⟨j, hj⟩ := List.mem_iff_getElem?.1 hu
  have hjl := (List.getElem?_eq_some_iff.1 hj).1
  have hp : 0 < τ.size := by
    rcases Nat.eq_zero_or_pos τ.size with h0 | h0
    · rw [h0] at hl; omega
    · exact h0
  have hdiv : j / τ.size < l.length := by rw [Nat.div_lt_iff_lt_mul hp]; omega
  have := h.2 (j / τ.size) _ (List.getElem?_eq_getElem hdiv)
  refine RelD.one τ _ _ this u (List.mem_iff_getElem?.2 ⟨j % τ.size, ?_⟩)
  rw [List.getElem?_take, if_pos (Nat.mod_lt _ hp), List.getElem?_drop]
  have e : j / τ.size * τ.size + j % τ.size = j := by rw [Nat.mul_comm]; exact Nat.div_add_mod j τ.size
  rw [e]; exact hj

theorem append_ok (hi : Inv g b st w) {c : Nat} (hc : b c = false) {t t' ty e : TypeId} {τ : Ty} {bt : Nat} {x y : PV} {u v : Value} {l l' : List τ.den} {old : Option Nat}
    (hu : P.underlying t = some (.slice e)) (hτ : elemTy P e = some τ) (hb : bytesT P e = some bt) (h0 : bt ≠ 0) {z : List C} (hz : zeroCells P e = some z) (hzl : z.length = τ.size) (hd : appDst τ st x = some (l, old)) (hs : appSrc P τ t' st y = some l')
    (hg : (l.length + l'.length) * bt ≤ 140737488355328) (hx : RelPV g w x u) (hy : RelPV g w y v) :
    StOk P g b st w (do pure (.value (← Builtin.append_ #[t, t'] ty #[u, v]))) (.c (.slice (.own c) τ (l ++ l'))) { st with live := c :: kill st.live old } (fun t => b t || t == c) := by
  have hcl : c ∉ st.live := fun h => by rw [hi.lt c h] at hc; cases hc
  obtain ⟨news, hsrc, hnr⟩ := appSrc_ok hi hs hy
  have hnl := hsrc.2.2.1
  have hone := hnr.one hnl
  have hsz := elemTy_size hτ
  have hlen : l.length + l'.length ≤ 140737488355328 := Nat.le_trans (Nat.le_mul_of_pos_right _ (by omega)) hg
  have hzz : ∃ zv, (∀ W, (zeroValue e).run P W = .ok zv W) ∧ zv.cells.size = τ.size := by
    unfold zeroCells at hz
    split at hz
    · rename_i i hi'
      split at hz
      · rename_i zv hzv
        have r := ofVals_rel (g := g) (w := w) (b := b) (m := 0) hz
        refine ⟨zv, fun W => by simp [zeroValue, run_typeInfo W hi', hzv], ?_⟩
        rw [← hzl, r.1.length]; simp
      · cases hz
    · cases hz
  obtain ⟨zv, hzv, hzs⟩ := hzz
  have hbel : belowPV (fun t => b t || t == c) st.objs.length (.c (.slice (.own c) τ (l ++ l'))) = true := by simp [belowPV, belowC]
  -- growing
  have grow : ∀ (a : Option Addr) (sCap : Nat) (olds : List Value), u = .slice a l.length sCap → (∀ W, W.heap = w.heap → (Builtin.firstCells τ.size l.length (.slice a l.length sCap)).run P W = .ok olds.toArray W) → olds.length = l.length * τ.size →
      RowR (RelD w g.prot τ) τ.size l olds → ¬ l.length + l'.length ≤ sCap →
      StOk P g b st w (do pure (.value (← Builtin.append_ #[t, t'] ty #[u, v]))) (.c (.slice (.own c) τ (l ++ l'))) { st with live := c :: kill st.live old } (fun t => b t || t == c) := fun a sCap olds ha ho hol hor hgt => by
    subst ha
    obtain ⟨cap, extra, hrun, h1, h2, h3⟩ := run_append_grows (P := P) (ty := ty) hu hsz hb hzv hzs hsrc ho hol hgt hg (by omega)
    obtain ⟨g', hr, hinv, hext⟩ := newOwn_ok (W := w.drew.alloc (.cells (olds ++ news ++ extra).toArray e)) hi (c := c) old hc (l := l ++ l') (vs := olds ++ news ++ extra) (e := e) (cap := cap) rfl rfl rfl (by simp)
      (fun k hk => heap_alloc_old w.drew _ k hk) (heap_alloc_new w.drew _) h3 (by simpa using h1) h2 ((RowR.join hor hol hnr hnl).more)
    rw [List.length_append] at hr
    exact ⟨.value _, _, g', _, by simp only [Sem.run_bind, hrun, Result.andThen_ok, Sem.run_pure], rfl, hr, hbel, hinv, hext⟩
  -- a nil slice
  have nil : u = .slice none 0 0 → l = [] → StOk P g b st w (do pure (.value (← Builtin.append_ #[t, t'] ty #[u, v]))) (.c (.slice (.own c) τ (l ++ l'))) { st with live := c :: kill st.live old } (fun t => b t || t == c) := fun hu0 hl => by
    by_cases hn : l'.length = 0
    · have hl' : l' = [] := List.eq_nil_of_length_eq_zero hn
      subst hl; subst hl'; subst hu0
      obtain ⟨⟨d, hd', hdi⟩, hll, hnl', hf⟩ := hsrc
      have hnn : news = [] := List.eq_nil_of_length_eq_zero (by simpa using hnl')
      subst hnn
      have hzd : (match d with | .int _ => true | _ => false) = false := by cases d <;> first | rfl | exact absurd rfl (hdi _)
      have hrun : (Builtin.append_ #[t, t'] ty #[.slice none 0 0, v]).run P w = .ok (.slice none 0 0) w := by
        have e2 := hf w rfl
        have e1 := hll w
        simp only [List.length_nil] at e1 e2
        unfold Builtin.append_
        simp [run_underlying hu, run_sizeT hsz, run_underlying hd', hzd, e1, e2]
      obtain ⟨h1, h2⟩ := hi.token (c := c) (old := old) (w' := w) (r := ⟨.slice none 0 0, τ.size, e⟩) hc hcl (pr := g.prot) (fun _ _ h => h) hi.protEx rfl rfl rfl (Nat.le_refl _)
        (fun k hk _ => ⟨rfl, fun off h => h⟩) (fun _ _ _ => rfl) (.inl rfl) (fun k hk => by simp [Row.block] at hk)
      refine ⟨.value (.slice none 0 0), w, _, _, by simp only [Sem.run_bind, hrun, Result.andThen_ok, Sem.run_pure], rfl, ⟨⟨none, 0, rfl, Nat.le_refl _, by simp [maxL], fun i x hx => by simp at hx⟩, fun k r hk hr => ?_⟩, hbel, h1, h2⟩
      cases hk
      simp only [if_true, Option.some.injEq] at hr
      subst hr
      exact ⟨rfl, rfl⟩
    · subst hl
      exact grow none 0 [] (by rw [hu0]; rfl) (fun W _ => rfl) (by simp) (by simp [RowR]) (by simp only [List.length_nil]; omega)
  unfold appDst at hd
  split at hd
  · rename_i tk τ' l0
    split at hd
    · rename_i hlive
      simp only [Option.map_eq_some_iff, Prod.mk.injEq] at hd
      obtain ⟨l1, hcast, rfl, rfl⟩ := hd
      obtain ⟨rfl, rfl⟩ := castL_eq hcast
      obtain ⟨r, hr, hok⟩ := hi.toks tk (by simpa using hlive)
      obtain ⟨hv, hrs⟩ := hx.2 tk r rfl hr
      obtain ⟨a, cap0, olds, hua, hle, hcap, hol, hor, hoc⟩ := hx.1.cells
      rcases hok with hnv | ⟨k, n, cap, cur, hrv, hh, hcs, hnc, hcm, hhid, hpr⟩
      · refine nil (by rw [hv, hnv]) ?_
        rw [hv, hnv] at hua
        simp only [Value.slice.injEq] at hua
        exact List.eq_nil_of_length_eq_zero hua.2.1.symm
      · have hblk : r.block = some k := by simp [Row.block, hrv]
        rw [hv, hrv] at hua
        simp only [Value.slice.injEq] at hua
        obtain ⟨rfl, rfl, rfl⟩ := hua
        rw [hrs] at hcs hpr
        have hu' : u = .slice (some ⟨k, 0, none⟩) l1.length cap := by rw [hv, hrv]
        have holds : olds = cur.toList.take (l1.length * τ'.size) := by
          have hcl : l1.length * τ'.size ≤ cur.size := by rw [hcs]; exact Nat.mul_le_mul_right _ hle
          apply List.ext_getElem?
          intro j
          by_cases hj : j < l1.length * τ'.size
          · have e1 : olds[j]? = some olds[j] := List.getElem?_eq_getElem (by omega)
            obtain ⟨k', off', q, _, hc'⟩ := hoc j _ e1
            simp only [Option.some.injEq, Addr.mk.injEq] at q
            obtain ⟨rfl, rfl, _⟩ := q
            rw [e1, List.getElem?_take, if_pos hj, ← hc', cell_of_block hh]
            simp
          · rw [List.getElem?_eq_none (by omega), List.getElem?_take, if_neg hj]
        by_cases hfit : l1.length + l'.length ≤ cap
        · -- it fits
          have hrun := run_append_fits (P := P) (ty := ty) hu hsz hsrc hone hh hcs hfit
          obtain ⟨row, hrow⟩ : ∃ row, row = cur.toList.take (l1.length * τ'.size) ++ news ++ cur.toList.drop (l1.length * τ'.size + news.length) := ⟨_, rfl⟩
          obtain ⟨W, hW⟩ : ∃ W, W = w.setRow k row.toArray := ⟨_, rfl⟩
          rw [← hrow, ← hW] at hrun
          have hWh : W.heap[k]? = some (.cells row.toArray r.e (0, 0)) := by rw [hW]; exact setRow_heap w _ _ _ _ _ hh
          have hWo : ∀ q, q ≠ k → W.heap[q]? = w.heap[q]? := fun q hq => by rw [hW]; exact setRow_other w _ q _ hq
          have hWs : W.heap.size = w.heap.size := by rw [hW]; simp
          have hmul : (l1.length + l'.length) * τ'.size ≤ cap * τ'.size := Nat.mul_le_mul_right _ hfit
          rw [Nat.add_mul] at hmul
          have hrl : row.length = cap * τ'.size := by
            rw [hrow]; simp only [List.length_append, List.length_take, List.length_drop, Array.length_toList, hcs, hnl]; omega
          have htk : row.take (l1.length * τ'.size) = cur.toList.take (l1.length * τ'.size) := by
            rw [hrow, List.append_assoc, List.take_append_of_le_length (by simp; omega), List.take_of_length_le (by simp; omega)]
          have hklt := block_lt hh
          have hpold : ∀ off, g.prot k off → off < l1.length * τ'.size := fun off h => Nat.lt_of_not_le fun q => hpr off q h
          have hcell : ∀ q off, g.prot q off → W.cell? ⟨q, off, none⟩ = w.cell? ⟨q, off, none⟩ := fun q off hq => by
            by_cases e : q = k
            · subst e
              have hlt := hpold off hq
              rw [cell_of_block hWh, cell_of_block hh]
              have := congrArg (·[off]?) htk
              simp only [List.getElem?_take, if_pos hlt] at this
              simpa using this
            · exact World.cell?_of_block (hWo q e)
          have hlv : (l1 ++ l').length = l1.length + l'.length := List.length_append
          obtain ⟨h1, h2⟩ := hi.token (c := c) (old := some tk) (w' := W) (r := ⟨.slice (some ⟨k, 0, none⟩) (l1.length + l'.length) cap, τ'.size, r.e⟩) hc hcl
            (pr := fun q off => g.prot q off ∨ (q = k ∧ off < (l1.length + l'.length) * τ'.size)) (fun _ _ h => .inl h)
            (fun q off h => by
              rw [hWs]
              rcases h with h | ⟨h, _⟩
              · exact hi.protEx q off h
              · omega)
            (by rw [hW]; rfl) (by rw [hW]; rfl) (by rw [hW]; rfl) (by omega)
            (fun q hq hne => by
              have e : q ≠ k := fun e => hne tk r rfl hr (by rw [e]; exact hblk)
              exact ⟨hWo q e, fun off h => h.elim id (fun h => absurd h.1 e)⟩) hcell
            (.inr ⟨k, l1.length + l'.length, cap, row.toArray, rfl, hWh, by simpa using hrl, hfit, hcm, hhid, fun off ho h => by
              rcases h with h | ⟨_, h⟩
              · have := hpold off h
                rw [Nat.add_mul] at ho; simp only at ho; omega
              · exact absurd ho (Nat.not_le.2 h)⟩)
            (fun q hq => .inr ⟨tk, r, rfl, hr, by simp [Row.block] at hq; rw [← hq]; exact hblk⟩)
          have hor' := hor
          rw [holds] at hor'
          refine ⟨.value (.slice (some ⟨k, 0, none⟩) (l1.length + l'.length) cap), W, _, .slice (some ⟨k, 0, none⟩) (l1.length + l'.length) cap, by rw [hu']; simp only [Sem.run_bind, hrun, Result.andThen_ok, Sem.run_pure], rfl, ⟨?_, fun q r' hq hr' => ?_⟩, hbel, h1, h2⟩
          · have hrr : RowR (RelD W (fun q off => g.prot q off ∨ (q = k ∧ off < (l1.length + l'.length) * τ'.size)) τ') τ'.size (l1 ++ l') row := by
              rw [hrow]
              exact (RowR.join (hor'.mono fun x cs => RelD.mono h2.prot h2.cells τ' x cs) (by rw [← holds]; exact hol) (hnr.mono fun x cs => RelD.mono h2.prot h2.cells τ' x cs) hnl).more
            have := RowR.slice (w := W) (k := k) (cap := cap) (prot := fun q off => g.prot q off ∨ (q = k ∧ off < (l1.length + l'.length) * τ'.size)) hrr (fun x cs h => RelD.length τ' x cs h) (by rw [hlv]; exact hfit) hcm
              (fun off ho => .inr ⟨rfl, by rw [hlv] at ho; exact ho⟩) (fun j _ => by rw [cell_of_block hWh]; simp)
            rw [hlv] at this
            exact this
          · cases hq
            simp only [if_true, Option.some.injEq] at hr'
            subst hr'
            exact ⟨rfl, rfl⟩
        · refine grow (some ⟨k, 0, none⟩) cap olds hu' (fun W hW => ?_) hol hor hfit
          have := run_loadCells_list (P := P) W ⟨k, 0, none⟩ olds (fun j v hj => by
            obtain ⟨k', off', q, _, hc'⟩ := hoc j v hj
            simp only [Option.some.injEq, Addr.mk.injEq] at q
            obtain ⟨rfl, rfl, _⟩ := q
            rw [add_none]
            simpa [World.cell?, hW] using hc')
          rw [hol] at this
          simpa [Builtin.firstCells] using this
    · cases hd
  · cases hd
    exact nil hx rfl
  · cases hd

/-- append to a slice that is stored into too. -/
theorem appendV_ok (hi : Inv g b st w) {t t' ty e : TypeId} {τ : Ty} {bt : Nat} {x y : PV} {u v : Value} {l l' : List τ.den} {old : Option Nat}
    (hu : P.underlying t = some (.slice e)) (hτ : elemTy P e = some τ) (hb : bytesT P e = some bt) (h0 : bt ≠ 0) {z : List C} (hz : zeroCells P e = some z) (hzl : z.length = τ.size) (hτ0 : τ.size ≠ 0) (hd : vecDst τ st x = some (l, old)) (hs : appSrc P τ t' st y = some l')
    (hg : (l.length + l'.length) * bt ≤ 140737488355328) (hx : RelPV g w x u) (hy : RelPV g w y v) :
    StOk P g b st w (do pure (.value (← Builtin.append_ #[t, t'] ty #[u, v]))) (.c (.vslice st.objs.length)) { st with objs := dieO st.objs old ++ [.vec τ (l ++ l') false] } b := by
  obtain ⟨news, hsrc, hnr⟩ := appSrc_ok hi hs hy
  have hnl := hsrc.2.2.1
  have hone := hnr.one hnl
  have hsz := elemTy_size hτ
  have hlen : l.length + l'.length ≤ 140737488355328 := Nat.le_trans (Nat.le_mul_of_pos_right _ (by omega)) hg
  have hlv : (l ++ l').length = l.length + l'.length := List.length_append
  have hzz : ∃ zv, (∀ W, (zeroValue e).run P W = .ok zv W) ∧ zv.cells.size = τ.size := by
    unfold zeroCells at hz
    split at hz
    · rename_i i hi'
      split at hz
      · rename_i zv hzv
        have r := ofVals_rel (g := g) (w := w) (b := b) (m := 0) hz
        refine ⟨zv, fun W => by simp [zeroValue, run_typeInfo W hi', hzv], ?_⟩
        rw [← hzl, r.1.length]; simp
      · cases hz
    · cases hz
  obtain ⟨zv, hzv, hzs⟩ := hzz
  obtain ⟨st1, hst1⟩ : ∃ st1 : St, st1 = { st with objs := dieO st.objs old } := ⟨_, rfl⟩
  have i1 : Inv g b st1 w := by rw [hst1]; exact hi.die old
  have hl1 : st1.objs.length = st.objs.length := by rw [hst1]; exact dieO_length _ _
  have hst2 : ({ st with objs := dieO st.objs old ++ [.vec τ (l ++ l') false] } : St) = addObj st1 (.vec τ (l ++ l') false) := by rw [hst1]; rfl
  rw [hst2, ← hl1]
  have hbel : belowPV b (addObj st1 (.vec τ (l ++ l') false)).objs.length (.c (.vslice st1.objs.length)) = true := by simp [belowPV, belowC, addObj]
  -- growing
  have grow : ∀ (a : Option Addr) (sCap : Nat) (olds : List Value), u = .slice a l.length sCap → (∀ W, W.heap = w.heap → (Builtin.firstCells τ.size l.length (.slice a l.length sCap)).run P W = .ok olds.toArray W) → olds.length = l.length * τ.size →
      RowR (RelD w g.prot τ) τ.size l olds → ¬ l.length + l'.length ≤ sCap →
      StOk P g b st w (do pure (.value (← Builtin.append_ #[t, t'] ty #[u, v]))) (.c (.vslice st1.objs.length)) (addObj st1 (.vec τ (l ++ l') false)) b := fun a sCap olds ha ho hol hor hgt => by
    subst ha
    obtain ⟨cap, extra, hrun, h1, h2, h3⟩ := run_append_grows (P := P) (ty := ty) hu hsz hb hzv hzs hsrc ho hol hgt hg (by omega)
    obtain ⟨i2, e2⟩ := i1.same_heap (w' := w.drew) rfl rfl rfl rfl
    have hrow : RowR (RelD w.drew g.prot τ) τ.size (l ++ l') (olds ++ news ++ extra) := RowR.mono (R := RelD w g.prot τ) (fun x cs h => RelD.mono (w := w) (w' := w.drew) (fun _ _ h => h) (fun _ _ _ => rfl) τ x cs h) ((RowR.join hor hol hnr hnl).more)
    obtain ⟨hr, hinv⟩ := newVec_ok (e := e) i2 hτ0 h3 (by rw [hlv]; exact h1) h2 hrow
    have hext := e2.trans (ext_more i2 (.cells (olds ++ news ++ extra).toArray e) ((l ++ l').length, cap))
    rw [hl1] at hext
    refine ⟨.value (.slice (some ⟨w.heap.size, 0, none⟩) (l.length + l'.length) cap), w.drew.alloc (.cells (olds ++ news ++ extra).toArray e), _, .slice (some ⟨w.heap.size, 0, none⟩) (l.length + l'.length) cap, by simp only [Sem.run_bind, hrun, Result.andThen_ok, Sem.run_pure], rfl, ?_, hbel, hinv, hl1 ▸ hext⟩
    have h1' : (l ++ l').length ≠ 0 := by rw [hlv]; omega
    rw [vecV, if_neg h1'] at hr
    rw [← hlv]
    exact hr
  -- a nil slice
  have nil : u = .slice none 0 0 → l = [] → StOk P g b st w (do pure (.value (← Builtin.append_ #[t, t'] ty #[u, v]))) (.c (.vslice st1.objs.length)) (addObj st1 (.vec τ (l ++ l') false)) b := fun hu0 hl => by
    by_cases hn : l'.length = 0
    · have hl' : l' = [] := List.eq_nil_of_length_eq_zero hn
      subst hl; subst hl'; subst hu0
      obtain ⟨⟨d, hd', hdi⟩, hll, hnl', hf⟩ := hsrc
      have hnn : news = [] := List.eq_nil_of_length_eq_zero (by simpa using hnl')
      subst hnn
      have hzd : (match d with | .int _ => true | _ => false) = false := by cases d <;> first | rfl | exact absurd rfl (hdi _)
      have hrun : (Builtin.append_ #[t, t'] ty #[.slice none 0 0, v]).run P w = .ok (.slice none 0 0) w := by
        have e2 := hf w rfl
        have e1 := hll w
        simp only [List.length_nil] at e1 e2
        unfold Builtin.append_
        simp [run_underlying hu, run_sizeT hsz, run_underlying hd', hzd, e1, e2]
      have i3 := i1.again (τ := τ) (l := []) (fz := false) (k := 0) (mr := (0, 0)) ⟨0, more_mrow _ _ _, fun h => absurd rfl h⟩ (fun h => absurd rfl h)
      have he := ext_again (b := b) (g := g) (w := w) (st := st1) 0 (0, 0)
      rw [hl1] at he
      exact ⟨.value (.slice none 0 0), w, _, _, by simp only [Sem.run_bind, hrun, Result.andThen_ok, Sem.run_pure], rfl, by simp [RelPV, RelC, more_phi, more_mrow, vecV], hbel, i3, hl1 ▸ he⟩
    · subst hl
      exact grow none 0 [] (by rw [hu0]; rfl) (fun W _ => rfl) (by simp) (by simp [RowR]) (by simp only [List.length_nil]; omega)
  unfold vecDst at hd
  split at hd
  · rename_i o
    split at hd
    · rename_i τ' l0 ho
      simp only [Option.map_eq_some_iff, Prod.mk.injEq] at hd
      obtain ⟨l1, hcast, rfl, rfl⟩ := hd
      obtain ⟨rfl, rfl⟩ := castL_eq hcast
      obtain ⟨cap, hm, hob⟩ := hi.objs o _ ho
      have hux : u = vecV (g.phi o) (l1.length, cap) := by
        have : u = vecV (g.phi o) (g.mrow o) := hx
        rw [this, hm]
      by_cases hne : l1 = []
      · exact nil (by rw [hux, hne]; rfl) hne
      · have hln : l1.length ≠ 0 := fun e => hne (List.eq_nil_of_length_eq_zero e)
        obtain ⟨_, hnp, _, vs, ec, hh, hvl, hle, hcm, hrow⟩ := hob hne
        have hnp := hnp rfl
        have hu' : u = .slice (some ⟨g.phi o, 0, none⟩) l1.length cap := by rw [hux, vecV, if_neg hln]
        have hol : (vs.take (l1.length * τ'.size)).length = l1.length * τ'.size := by have := hrow.1; simp; omega
        have hor : RowR (RelD w g.prot τ') τ'.size l1 (vs.take (l1.length * τ'.size)) := by
          refine ⟨by omega, fun i y hy => ?_⟩
          have hlt := (List.getElem?_eq_some_iff.1 hy).1
          have hle : (i + 1) * τ'.size ≤ l1.length * τ'.size := Nat.mul_le_mul_right _ (by omega)
          rw [Nat.add_mul] at hle
          rw [List.drop_take, List.take_take, Nat.min_eq_left (by omega)]
          exact hrow.2 i y hy
        by_cases hfit : l1.length + l'.length ≤ cap
        · have hrun := run_append_fits (P := P) (ty := ty) hu hsz hsrc hone hh (by simpa using hvl) hfit
          obtain ⟨row, hrw⟩ : ∃ row, row = vs.toArray.toList.take (l1.length * τ'.size) ++ news ++ vs.toArray.toList.drop (l1.length * τ'.size + news.length) := ⟨_, rfl⟩
          obtain ⟨W, hW⟩ : ∃ W, W = w.setRow (g.phi o) row.toArray := ⟨_, rfl⟩
          rw [← hrw, ← hW] at hrun
          have hWh : W.heap[g.phi o]? = some (.cells row.toArray ec (0, 0)) := by rw [hW]; exact setRow_heap w _ _ _ _ _ hh
          have hWo : ∀ q, q ≠ g.phi o → W.heap[q]? = w.heap[q]? := fun q hq => by rw [hW]; exact setRow_other w _ q _ hq
          have hmul : (l1.length + l'.length) * τ'.size ≤ cap * τ'.size := Nat.mul_le_mul_right _ hfit
          rw [Nat.add_mul] at hmul
          have hrl : row.length = cap * τ'.size := by
            rw [hrw]; simp only [List.length_append, List.length_take, List.length_drop, hvl, hnl]; omega
          have hfree : Free g st1 (g.phi o) := by rw [hst1]; exact hi.free ⟨_, ho, hne⟩
          obtain ⟨i2, e2⟩ := i1.turn (m := st1.objs.length) (w' := W) hfree hnp (by rw [hW]; rfl) (by rw [hW]; rfl) (by rw [hW]; rfl) (by rw [hW]; simp) hWo
          have hnew : RowR (RelD W g.prot τ') τ'.size (l1 ++ l') row := by
            rw [hrw]
            exact ((RowR.join hor hol hnr hnl).mono fun x cs => RelD.mono e2.prot e2.cells τ' x cs).more
          have he := ext_again (b := b) (g := g) (w := W) (st := st1) (g.phi o) (l1.length + l'.length, cap)
          have i3 := i2.again (τ := τ') (l := l1 ++ l') (fz := false) (k := g.phi o) (mr := (l1.length + l'.length, cap))
            ⟨cap, by rw [more_mrow, hlv], fun _ => ⟨hτ0, fun _ => by rw [more_phi]; exact hnp, (fun h => by cases h), row, ec, by rw [more_phi]; exact hWh, hrl, by rw [hlv]; exact hfit, hcm, hnew⟩⟩
            (fun _ => hfree)
          refine ⟨.value (.slice (some ⟨g.phi o, 0, none⟩) (l1.length + l'.length) cap), W, _, .slice (some ⟨g.phi o, 0, none⟩) (l1.length + l'.length) cap, by rw [hu']; simp only [Sem.run_bind, hrun, Result.andThen_ok, Sem.run_pure], rfl, ?_, hbel, i3, hl1 ▸ (e2.trans he)⟩
          have : (l1.length + l'.length, cap).1 ≠ 0 := by simp only; omega
          simp only [RelPV, RelC, more_phi, more_mrow]
          rw [vecV, if_neg this]
        · refine grow (some ⟨g.phi o, 0, none⟩) cap _ hu' (fun W hW => ?_) hol hor hfit
          have := run_loadCells_list (P := P) W ⟨g.phi o, 0, none⟩ (vs.take (l1.length * τ'.size)) (fun j v hj => by
            rw [add_none]
            rw [List.getElem?_take] at hj
            split at hj
            · simp [World.cell?, hW, hh, hj]
            · cases hj)
          rw [hol] at this
          simpa [Builtin.firstCells] using this
    · cases hd
  · cases hd
    exact nil hx rfl
  · cases hd

end Go.Proofs.YthhllkiefncbnaaDoorSim
