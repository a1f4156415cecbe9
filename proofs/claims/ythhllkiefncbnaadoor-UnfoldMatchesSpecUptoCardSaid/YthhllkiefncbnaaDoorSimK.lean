/- One operation that turns the state. -/
import Derived.Test.YthhllkiefncbnaaDoorSimJ
namespace Go.Proofs.YthhllkiefncbnaaDoorSim
open Go
set_option linter.unusedVariables false
set_option linter.unusedSimpArgs false

variable {P : Program} {g g' : Gh} {w w' : World} {st : St} {b : Nat → Bool} {m : Nat}

theorem StOk.mono_b {b' : Nat → Bool} {s : Sem Next} {pv : PV} {st' : St} (h : StOk P g b st w s pv st' b) (hb : ∀ t, b t = true → b' t = true) : StOk P g b st w s pv st' b' := by
  obtain ⟨n, w', g', v, h1, h2, h3, h4, h5, h6⟩ := h
  exact ⟨n, w', g', v, h1, h2, h3, belowPV.mono hb (Nat.le_refl _) h4, h5.mono_b hb, h6⟩

theorem StOk.same (hi : Inv g b st w) {s : Sem Value} {pv : PV} (h : ValOk P g b st.objs.length w s pv) : StOk P g b st w (do pure (.value (← s))) pv st b := by
  obtain ⟨v, h1, h2, h3⟩ := h
  exact ⟨.value v, w, g, v, by simp [h1], rfl, h2, h3, hi, Ext.refl _ _ _ _⟩

theorem toBA_bl (s : ByteArray) : toBA (bl s) = s := by
  unfold toBA bl
  rw [List.map_map]
  have : (s.data.toList.map ((fun n : Int => UInt8.ofNat n.toNat) ∘ fun b : UInt8 => (b.toNat : Int))) = s.data.toList := by
    conv => rhs; rw [← List.map_id s.data.toList]
    refine List.map_congr_left fun u _ => ?_
    simp
  rw [this]

theorem runes_cells {s : ByteArray} : ∀ (n i : Nat) (acc : Array Value), Conv.runesFrom s n i acc = acc ++ ((runesFrom (bl s) n i).map (Value.int .i32)).toArray
  | 0, i, acc => by simp [Conv.runesFrom, runesFrom]
  | n + 1, i, acc => by
    unfold Conv.runesFrom runesFrom
    rw [bl_length]
    split
    · have e : decRune (bl s) i = Utf8.decode s i := by unfold decRune; rw [toBA_bl]
      rw [e]
      generalize Utf8.decode s i = d
      obtain ⟨r, wd⟩ := d
      simp only
      rw [runes_cells n]
      apply Array.toList_inj.1
      simp
    · simp

theorem runesFrom_length (l : List Int) : ∀ (n i : Nat), (runesFrom l n i).length ≤ n
  | 0, i => by simp [runesFrom]
  | n + 1, i => by
    unfold runesFrom
    split
    · have := runesFrom_length l n (i + (decRune l i).2); simp; omega
    · simp

theorem decRune_wf (l : List Int) (i : Nat) : wf .i32 ((decRune l i).1 : Int) := by
  have e1 : IntKind.i32.min = -2147483648 := by decide
  have e2 : IntKind.i32.max = 2147483647 := by decide
  have h : (decRune l i).1 ≤ 2147483647 := by
    have l0 := UInt8.toNat_lt ((toBA l).get! (i + 0))
    have l1 := UInt8.toNat_lt ((toBA l).get! (i + 1))
    have l2 := UInt8.toNat_lt ((toBA l).get! (i + 2))
    have l3 := UInt8.toNat_lt ((toBA l).get! (i + 3))
    unfold decRune Utf8.decode
    dsimp only
    have er : Utf8.runeError = 65533 := rfl
    repeat' split
    all_goals (simp only []; omega)
  exact ⟨by rw [e1]; omega, by rw [e2]; omega⟩

theorem runesFrom_wf (l : List Int) : ∀ (n i : Nat), ∀ r ∈ runesFrom l n i, wf .i32 r
  | 0, i, r, h => by simp [runesFrom] at h
  | n + 1, i, r, h => by
    unfold runesFrom at h
    split at h
    · rcases List.mem_cons.1 h with rfl | h
      · exact decRune_wf l i
      · exact runesFrom_wf l n _ r h
    · cases h

theorem intsRow {k : IntKind} {l : List Int} {extra : List Value} (h : ∀ n ∈ l, wf k n) : RowR (RelD w g.prot (.int k)) 1 l (l.map (Value.int k) ++ extra) := by
  refine ⟨by simp, fun i x hx => ?_⟩
  have hlt := (List.getElem?_eq_some_iff.1 hx).1
  have e1 : ((l.map (Value.int k) ++ extra).drop (i * 1)).take 1 = [.int k x] := by
    rw [Nat.mul_one, List.take_one, List.head?_drop, List.getElem?_append_left (by simpa using hlt)]
    simp only [List.getElem?_map, hx]
    rfl
  rw [e1]
  exact ⟨rfl, h x (List.mem_of_getElem? hx)⟩

/-- A constant's bytes: never written again. -/
theorem convSame_ok (hi : Inv g b st w) {src e0 e : TypeId} {l : List Int} {t : Nat} {u : Value} (hs : P.underlying src = some (.slice e)) (he : P.underlying e = some (.int .u8)) (hu : RelPV g w (.c (.slice (.own t) (.int .u8) l)) u) (ht : t ∈ st.live) (hl : 0 < l.length) :
    StOk P g b st w (do pure (.value (← convert src src u))) (.c (.slice .ro (.int .u8) l)) { st with live := kill st.live (some t) } b := by
  obtain ⟨⟨a, cap, hv, hc1, hc2, hel⟩, htok⟩ := hu
  obtain ⟨r, hr, ok⟩ := hi.toks t ht
  obtain ⟨hur, hsz⟩ := htok t r rfl hr
  obtain ⟨x0, hx0⟩ : ∃ x0, l[0]? = some x0 := ⟨_, List.getElem?_eq_getElem hl⟩
  obtain ⟨bk0, off0, cs0, ha, _⟩ := hel 0 x0 hx0
  rcases ok with q | ⟨bk, n, cp, cur, hrv, hh, hcs, hn, hcm, hnh, hpr⟩
  · rw [hur, q] at hv
    injection hv with h1 h2 h3
    omega
  · have hblk : r.block = some bk := by simp [Row.block, hrv]
    have hv' : u = .slice (some ⟨bk, 0, none⟩) n cp := by rw [hur, hrv]
    obtain ⟨f1, f2, f3⟩ := freeze_heap (n := cur.size) hh
    obtain ⟨W, hW⟩ : ∃ W, W = w.freeze ⟨bk, cur.size, none⟩ 1 := ⟨_, rfl⟩
    rw [← hW] at f1 f2 f3
    have hshape : w.shape? bk = some (r.e, cur.size) := by unfold World.shape?; rw [hh]
    have hrun : (convert src src u).run P w = .ok u W := by
      rw [hv']
      simp only [convert, Sem.run_bind, run_underlying hs, Result.andThen_ok, run_underlying he, beq_self_eq_true, markStringish, run_shape, hshape, run_freeze, Sem.run_pure, hW]
    have o1 : W.os = w.os := by rw [hW]; unfold World.freeze; split <;> rfl
    have o2 : W.tape = w.tape := by rw [hW]; unfold World.freeze; split <;> rfl
    have o3 : W.output = w.output := by rw [hW]; unfold World.freeze; split <;> rfl
    have hcell : ∀ k off, W.cell? ⟨k, off, none⟩ = w.cell? ⟨k, off, none⟩ := fun k off => by
      by_cases e : k = bk
      · subst e; rw [cell_of_block f1, cell_of_block hh]
      · simp [World.cell?, f2 k e]
    obtain ⟨g', hg'⟩ : ∃ g' : Gh, g' = { g with tok := fun t' => if t' = t then none else g.tok t' } := ⟨_, rfl⟩
    have hex : Ext b st.objs.length g w g' W := by
      rw [hg']
      exact { os := o1, tape := o2, output := o3, size := by omega, hid := fun _ h => h, hidden := fun k hk => f2 k (fun e => hnh (e ▸ hk)), cells := fun k off _ => hcell k off, prot := fun _ _ h => h, newp := fun _ _ _ h => h,
              phi := fun _ _ => rfl, mrow := fun _ _ => rfl, tok := fun t' _ => by simp only; split; exact .inr rfl; exact .inl rfl }
    have hkill : ∀ t', t' ∈ kill st.live (some t) ↔ t' ∈ st.live ∧ t' ≠ t := fun t' => by simp [kill]
    refine ⟨.value u, W, g', u, by simp [hrun], rfl, RelC.mono hex rfl (show RelC g w (.slice .ro (.int .u8) l) u from ⟨⟨a, cap, hv, hc1, hc2, hel⟩, fun k r hk _ => by cases hk⟩), rfl, ?_, hex⟩
    refine Inv.step (ch := fun k => k = bk) (st' := { st with live := kill st.live (some t) }) hi hex (fun _ h => h) (fun k _ hk => ⟨f2 k hk, fun off h => by rw [hg'] at h; exact h⟩) (by rw [hg']) (fun k off hk => by rw [hg'] at hk; rw [f3]; exact hi.protEx k off hk) rfl ?_ ?_ ?_ ?_ ?_
    · intro o x hx
      exact .inl ⟨hx, fun hs => hi.sep t r bk o hr hblk ⟨_, hx, hs⟩⟩
    · intro t' ht'
      rw [hkill] at ht'
      obtain ⟨r', hr', _⟩ := hi.toks t' ht'.1
      refine ⟨r', by rw [hg']; simp only; rw [if_neg ht'.2]; exact hr', .inl ⟨hr', ht'.1, fun k hk e => ?_⟩⟩
      subst e
      exact ht'.2 (hi.dist t' t r' r k hr' hr hk hblk)
    · intro t' ht'
      rw [hkill] at ht'
      rw [hg']; simp only
      split
      · rfl
      · rename_i q
        exact hi.dead t' fun h => ht' ⟨h, q⟩
    · intro t' ht'
      rw [hkill] at ht'
      exact hi.lt t' ht'.1
    · intro t' r' h'
      rw [hg'] at h'; simp only at h'
      split at h'
      · cases h'
      · exact .inl h'

theorem convW_bytes (hi : Inv g b st w) {src dst e : TypeId} {l : List Int} {u : Value} (hs : P.underlying src = some .string) (hd : P.underlying dst = some (.slice e)) (he : P.underlying e = some (.int .u8)) (hu : RelPV g w (.c (.str l)) u) :
    StOk P g b st w (do pure (.value (← convert src dst u))) (.c (.slice .ro (.int .u8) l)) st b ∧
    StOk P g b st w (do pure (.value (← convert src dst u))) (.c (.mslice st.objs.length)) (addObj st (.row (.int .u8) l false)) b := by
  obtain ⟨s, rfl, rfl, hsz⟩ := hu
  obtain ⟨cap, extra, W, hrun, h1, h2, h3, h4, h5, h6, h7, h8, hWeq⟩ := stringToBytes_run (P := P) (w := w) (e := e) hsz
  have hconv : (convert src dst (.string s)).run P w = .ok (.slice (some ⟨w.heap.size, 0, none⟩) s.size cap) W := by
    simp only [convert, Sem.run_bind, run_underlying hs, run_underlying hd, Result.andThen_ok, run_underlying he]
    exact hrun
  have hrow : RowR (RelD w g.prot (.int .u8)) 1 (bl s) ((s.data.map fun b => Value.int .u8 b.toNat).toList ++ extra) := bytesRow
  have hbl : (bl s).length = s.size := bl_length s
  constructor
  · obtain ⟨g', r1, r2, r3⟩ := newRo_ok (τ := .int .u8) hi h1 h2 h3 h4 h5 h6 (by rw [hbl]; exact h7) h8 hrow
    rw [hbl] at r1
    exact ⟨.value (.slice (some ⟨w.heap.size, 0, none⟩) s.size cap), W, g', .slice (some ⟨w.heap.size, 0, none⟩) s.size cap, by simp [hconv], rfl, r1, rfl, r2, r3⟩
  · obtain ⟨r1, r2⟩ := newRow_ok (τ := .int .u8) (e := e) (fr := (s.size + extra.length, s.size + extra.length + 1)) hi (by simp) (by rw [hbl]; exact h7) h8 hrow
    have hheap : W.heap = (w.alloc (.cells ((s.data.map fun b => Value.int .u8 b.toNat).toList ++ extra).toArray e (s.size + extra.length, s.size + extra.length + 1))).heap := by
      apply Array.ext_getElem?
      intro k
      rcases Nat.lt_trichotomy k w.heap.size with hk | hk | hk
      · rw [h5 k hk, heap_alloc_old w _ k hk]
      · subst hk; rw [h6, heap_alloc_new]
      · rw [Array.getElem?_eq_none (by omega), Array.getElem?_eq_none (by simp; omega)]
    obtain ⟨q1, q2⟩ := r2.same_heap (w' := W) hheap h1 h2 h3
    rw [hbl] at r1 q1 q2
    have he := (ext_more hi (.cells ((s.data.map fun b => Value.int .u8 b.toNat).toList ++ extra).toArray e (s.size + extra.length, s.size + extra.length + 1)) (s.size, cap))
    refine ⟨.value (.slice (some ⟨w.heap.size, 0, none⟩) s.size cap), W, _, .slice (some ⟨w.heap.size, 0, none⟩) s.size cap, by simp [hconv], rfl, ?_, by simp [belowPV, belowC, addObj], q1, he.trans (q2.weaken (fun _ h => h) (by simp [addObj]))⟩
    exact r1

theorem convW_runes (hi : Inv g b st w) {src dst e : TypeId} {l : List Int} {u : Value} (hs : P.underlying src = some .string) (hd : P.underlying dst = some (.slice e)) (he : P.underlying e = some (.int .i32)) (hl : l.length ≤ 35184372088832) (hu : RelPV g w (.c (.str l)) u) :
    StOk P g b st w (do pure (.value (← convert src dst u))) (.c (.slice .ro (.int .i32) (runes l))) st b := by
  obtain ⟨s, rfl, rfl, hsz⟩ := hu
  have hlen : (runes (bl s)).length ≤ 35184372088832 := Nat.le_trans (runesFrom_length _ _ _) hl
  have hel : Conv.runesFrom s s.size 0 #[] = ((runes (bl s)).map (Value.int .i32)).toArray := by
    rw [runes_cells]; simp [runes, bl_length]
  obtain ⟨cap, hcap⟩ : ∃ cap, cap = grownCap w (runes (bl s)).length 0 e := ⟨_, rfl⟩
  have hge : (runes (bl s)).length ≤ cap := by rw [hcap]; exact grownCap_ge w _ 0 e
  have hle : cap ≤ maxL := by rw [hcap]; exact grownCap_le_maxLen w _ 0 e (by unfold maxLen; omega)
  have hrun : (convert src dst (.string s)).run P w = .ok (.slice (some ⟨w.heap.size, 0, none⟩) (runes (bl s)).length cap)
      (w.drew.alloc (.cells ((runes (bl s)).map (Value.int .i32) ++ List.replicate (cap - (runes (bl s)).length) (Value.int .i32 0)).toArray e)) := by
    simp only [convert, Sem.run_bind, run_underlying hs, run_underlying hd, Result.andThen_ok, run_underlying he]
    unfold Conv.stringToRunes
    rw [hel]
    have hch : (choose (.appendCap ((runes (bl s)).map (Value.int .i32)).toArray.size 0 e)).run P w = .ok cap w.drew := by simp [Question.forced, hcap, grownCap]
    simp only [Sem.run_bind, hch, Result.andThen_ok, newRow, run_newObj, Sem.run_pure, World.alloc_eq, World.size_drew]
    simp
    congr 2
    apply Array.toList_inj.1
    simp
  obtain ⟨g', r1, r2, r3⟩ := newRo_ok (τ := .int .i32) (W := w.drew.alloc (.cells ((runes (bl s)).map (Value.int .i32) ++ List.replicate (cap - (runes (bl s)).length) (Value.int .i32 0)).toArray e)) hi rfl rfl rfl (by simp) (fun k hk => heap_alloc_old w.drew _ k hk) (heap_alloc_new w.drew _)
    hge hle (intsRow (fun n hn => runesFrom_wf _ _ _ n hn))
  exact ⟨.value (.slice (some ⟨w.heap.size, 0, none⟩) (runes (bl s)).length cap), _, g', .slice (some ⟨w.heap.size, 0, none⟩) (runes (bl s)).length cap, by simp [hrun], rfl, r1, rfl, r2, r3⟩

theorem lenC_ok (hi : Inv g b st w) {t ty : TypeId} {x : PV} {u : Value} {v : C} (h : lenC P t st x = some v) (hx : RelPV g w x u) : ValOk P g b m w (Builtin.len_ #[t] ty #[u]) (.c v) := by
  unfold lenC at h
  have wfl : ∀ n : Nat, n ≤ 9223372036854775807 → wf .i64 (n : Int) := fun n hn => by
    have e1 : IntKind.i64.min = -9223372036854775808 := by decide
    have e2 : IntKind.i64.max = 9223372036854775807 := by decide
    exact ⟨by rw [e1]; omega, by rw [e2]; omega⟩
  split at h
  · rename_i l hu
    cases h
    obtain ⟨s, rfl, rfl, hs⟩ := hx
    refine ⟨.int .i64 ((bl s).length : Int), ?_, ⟨rfl, wfl _ (by rw [bl_length]; exact hs)⟩, rfl⟩
    rw [bl_length]
    simp [Builtin.len_, run_underlying hu, goInt]
  · rename_i e tk τ l hu
    cases h
    obtain ⟨⟨a, cap, rfl, h1, h2, _⟩, _⟩ := hx
    exact ⟨.int .i64 (l.length : Int), by simp [Builtin.len_, run_underlying hu, goInt], ⟨rfl, wfl _ (Nat.le_trans h1 h2)⟩, rfl⟩
  · rename_i e hu
    cases h
    rw [show u = _ from hx]
    exact ⟨.int .i64 0, by simp [Builtin.len_, run_underlying hu, goInt], ⟨rfl, wfl 0 (by omega)⟩, rfl⟩
  · rename_i e o hu
    split at h
    · rename_i τ l fz ho
      cases h
      obtain ⟨_, _, vs, ty', fr, cap, hh, _, hm, hc1, hc2, hrow⟩ := hi.objs o _ ho
      have hu' : u = .slice (some ⟨g.phi o, 0, none⟩) l.length cap := by
        have : u = .slice (some ⟨g.phi o, 0, none⟩) (g.mrow o).1 (g.mrow o).2 := hx
        rw [this, hm]
      subst hu'
      exact ⟨.int .i64 (l.length : Int), by simp [Builtin.len_, run_underlying hu, goInt], ⟨rfl, wfl _ (Nat.le_trans hc1 hc2)⟩, rfl⟩
    · cases h
  · rename_i e o hu
    split at h
    · rename_i τ l fz ho
      cases h
      obtain ⟨cap, hm, hob⟩ := hi.objs o _ ho
      have hu' : u = vecV (g.phi o) (l.length, cap) := by
        have : u = vecV (g.phi o) (g.mrow o) := hx
        rw [this, hm]
      have hln : l.length ≤ maxL := by
        by_cases hne : l = []
        · subst hne; simp [maxL]
        · obtain ⟨_, _, _, vs, ty', hh, _, hc1, hc2, hrow⟩ := hob hne
          exact Nat.le_trans hc1 hc2
      refine ⟨.int .i64 (l.length : Int), ?_, ⟨rfl, wfl _ hln⟩, rfl⟩
      rw [hu', vecV]
      split
      · rename_i h0
        simp only at h0
        simp [Builtin.len_, run_underlying hu, goInt, h0]
      · simp [Builtin.len_, run_underlying hu, goInt]
    · cases h
  · rename_i n e hu
    split at h
    · rename_i hn
      cases h
      exact ⟨.int .i64 (n : Int), by simp [Builtin.len_, run_underlying hu, goInt], ⟨rfl, wfl _ hn⟩, rfl⟩
    · cases h
  · cases h

theorem range_ok (hi : Inv g b st w) {t : TypeId} {l : List Int} {u : Value} (hu : P.underlying t = some .string) (hx : RelPV g w (.c (.str l)) u) :
    StOk P g b st w (do pure (.value (← Instr.range t u))) (.c (.ptr st.objs.length 0)) (addObj st (.siter l 0)) b := by
  obtain ⟨s, rfl, rfl, hs⟩ := hx
  refine ⟨.value (.pointer (some ⟨w.heap.size, 0, none⟩)), w.alloc (.stringIter s 0), _, _, ?_, rfl, ?_, ?_, hi.newObj _ _ (0, 0) ⟨fun off h => unprot_new hi off (by simpa [more_phi, Gh.more] using h), s, ?_, rfl, hs⟩ trivial, ext_more hi _ _⟩
  · simp [Instr.range, run_underlying hu]
  · simp [RelPV, RelC, more_phi]
  · simp [belowPV, belowC, addObj]
  · rw [more_phi]; exact heap_alloc_new w _

theorem mbytes_ok (hi : Inv g b st w) {o : Nat} {l : List Int} {fz : Bool} {src dst e : TypeId} {u : Value} (hs : P.underlying src = some (.slice e)) (hd : P.underlying dst = some .string) (he : P.underlying e = some (.int .u8))
    (ho : st.objs[o]? = some (.row (.int .u8) l fz)) (hx : RelPV g w (.c (.mslice o)) u) : ValOk P g b m w (convert src dst u) (.c (.str l)) := by
  obtain ⟨_, _, vs, ty, fr, cap, hh, _, hm, hc1, hc2, hrow⟩ := hi.objs o _ ho
  have hu' : u = .slice (some ⟨g.phi o, 0, none⟩) l.length cap := by
    have : u = .slice (some ⟨g.phi o, 0, none⟩) (g.mrow o).1 (g.mrow o).2 := hx
    rw [this, hm]
  have hsl : SliceR w (fun _ _ => True) (RelD w (fun _ _ => True) (.int .u8)) 1 l u := by
    rw [hu']
    exact RowR.slice (vs := vs) (hrow.mono fun x cs h => h) (fun x cs h => RelD.length (.int .u8) x cs h) hc1 hc2 (fun _ _ => trivial) (fun j _ => by rw [cell_of_block hh]; simp)
  obtain ⟨r, hr, hs'⟩ := bytesToString_ok (P := P) (g := { g with prot := fun _ _ => True }) hsl
  refine ⟨r, ?_, hs', rfl⟩
  rw [hu'] at hr ⊢
  simp only [convert, Sem.run_bind, run_underlying hs, run_underlying hd, Result.andThen_ok, run_underlying he]
  exact hr


theorem ret_eq (s : Sem Value) : (do pure (Next.value (← s)) : Sem Next) = (do let v ← s; pure (.value v)) := rfl

theorem extreme_ok {less : Bool} {x y : PV} {u u' : Value} {v : C} (h : extremeC less x y = some v) (hx : RelPV g w x u) (hy : RelPV g w y u') :
    (less = true → ValOk P g b m w (Builtin.min2 u u') (.c v)) ∧ (less = false → ValOk P g b m w (Builtin.max2 u u') (.c v)) := by
  unfold extremeC at h
  split at h
  · rename_i k a k' c
    split at h
    · rename_i e
      subst e
      cases h
      obtain ⟨rfl, h1⟩ := hx
      obtain ⟨rfl, h2⟩ := hy
      refine ⟨fun e => ?_, fun e => ?_⟩
      · subst e
        refine ⟨.int k (min a c), ?_, ⟨rfl, ?_⟩, rfl⟩
        · simp only [Builtin.min2, Sem.run_pure]
          congr 2
          rw [Int.min_def]; split <;> split <;> omega
        · rcases Int.le_total a c with q | q
          · rw [Int.min_eq_left q]; exact h1
          · rw [Int.min_eq_right q]; exact h2
      · subst e
        refine ⟨.int k (max a c), ?_, ⟨rfl, ?_⟩, rfl⟩
        · simp only [Builtin.max2, Sem.run_pure]
          congr 2
          rw [Int.max_def]; split <;> split <;> omega
        · rcases Int.le_total a c with q | q
          · rw [Int.max_eq_right q]; exact h2
          · rw [Int.max_eq_left q]; exact h1
    · cases h
  · cases h

theorem map_two {α β : Type} {f : α → β} {a : Array α} {x y : α} (h : a.toList = [x, y]) : a.map f = #[f x, f y] := by
  apply Array.toList_inj.1; simp [h]
theorem map_one {α β : Type} {f : α → β} {a : Array α} {x : α} (h : a.toList = [x]) : a.map f = #[f x] := by
  apply Array.toList_inj.1; simp [h]
theorem arr_two {α : Type} {a : Array α} {x y : α} (h : a.toList = [x, y]) : a = #[x, y] := by
  apply Array.toList_inj.1; simp [h]
theorem arr_one {α : Type} {a : Array α} {x : α} (h : a.toList = [x]) : a = #[x] := by
  apply Array.toList_inj.1; simp [h]

theorem valW_sound {cfg : Cfg} {fid c : Nat} {tmps : List PV} {o : Oper} {a : Act} {pv : PV} {st' : St} (h : valW P cfg fid o.dst (evalO tmps) st c o.op = some (true, pv, st')) (hs : RelSlots g w b st.objs.length tmps a.tmps)
    (hi : Inv g b st w) (hc : b c = false) : StOk P g b st w (execOp a.eval o) pv st' (fun t => b t || t == c) := by
  have E := fun x => evalO_rel hs x
  have hbb : ∀ t, b t = true → (b t || t == c) = true := fun t h => by simp [h]
  unfold valW at h
  unfold execOp
  split at h
  · rename_i t hop; rw [hop]
    simp only [Option.map_eq_some_iff, Prod.mk.injEq, true_and] at h
    obtain ⟨cs, hz, rfl, rfl⟩ := h
    exact (alloc_ok hi hz).mono_b hbb
  · rename_i t x hop; rw [hop]
    split at h
    · rename_i cs n hcs hn
      split at h
      · cases h
        exact (box_ok hi hcs hn (E x).1 (E x).2).mono_b hbb
      · cases h
    · cases h
  · rename_i t ad x hop; rw [hop]
    split at h
    · rename_i o' off xs n ha hx hn
      split at h
      · rename_i cs ho
        split at h
        · rename_i hcond
          cases h
          have ea := E ad
          rw [ha] at ea
          exact (storePtr_ok hi ho hx hn hcond.1 hcond.2 (E x).1 (E x).2 ea.1).mono_b hbb
        · cases h
      · rename_i τ l ho
        split at h
        · rename_i m e hu
          split at h
          · rename_i hcond
            obtain ⟨rfl, hxl⟩ := hcond
            split at h
            · rename_i l' hl'
              simp only [Option.some.injEq, Prod.mk.injEq, decide_eq_true_eq] at h
              obtain ⟨hlm, rfl, rfl⟩ := h
              have ea := E ad
              rw [ha] at ea
              exact (storeW_ok hi ho hx hn hxl hl' hlm (E x).1 (E x).2 ea.1).mono_b hbb
            · cases h
          · cases h
        · cases h
      · cases h
    · rename_i o' i z xs n ha hx hn
      split at h
      · rename_i τ l ho
        split at h
        · rename_i hcond
          obtain ⟨hn1, hn2, rfl⟩ := hcond
          split at h
          · rename_i y hy
            simp only [Option.some.injEq, Prod.mk.injEq, decide_eq_true_eq] at h
            obtain ⟨hlt, rfl, rfl⟩ := h
            have ea := E ad
            rw [ha] at ea
            exact (storeE_ok hi ho hx hn hn1 hy hlt (E x).1 (E x).2 ea.1).mono_b hbb
          · cases h
        · cases h
      · rename_i τ l ho
        split at h
        · rename_i hcond
          obtain ⟨hn1, hn2, rfl, hn3⟩ := hcond
          split at h
          · rename_i y hy
            simp only [Option.some.injEq, Prod.mk.injEq, decide_eq_true_eq] at h
            obtain ⟨hlt, rfl, rfl⟩ := h
            have ea := E ad
            rw [ha] at ea
            exact (storeVE_ok hi ho hx hn hn2 hn1 hy hlt (E x).1 (E x).2 ea.1).mono_b hbb
          · cases h
        · cases h
      · cases h
    · rename_i o' i z f xs n ha hx hn
      split at h
      · rename_i τ l ho
        split at h
        · rename_i hcond
          obtain ⟨hn1, rfl, hn3⟩ := hcond
          split at h
          · rename_i y hy
            simp only [Option.some.injEq, Prod.mk.injEq, decide_eq_true_eq] at h
            obtain ⟨hlt, rfl, rfl⟩ := h
            have ea := E ad
            rw [ha] at ea
            exact (storeF_ok hi ho hx hn hn1 hn3 hy hlt (E x).1 (E x).2 ea.1).mono_b hbb
          · cases h
        · cases h
      · rename_i τ l ho
        split at h
        · rename_i hcond
          obtain ⟨hn1, rfl, hn3, _⟩ := hcond
          split at h
          · rename_i y hy
            simp only [Option.some.injEq, Prod.mk.injEq, decide_eq_true_eq] at h
            obtain ⟨hlt, rfl, rfl⟩ := h
            have ea := E ad
            rw [ha] at ea
            exact (storeVF_ok hi ho hx hn hn1 hn3 hy hlt (E x).1 (E x).2 ea.1).mono_b hbb
          · cases h
        · cases h
      · cases h
    · rename_i o' off n i k xs s ha hx hn
      split at h
      · rename_i cs k' v ho hxe
        split at h
        · rename_i hcond
          obtain ⟨rfl, rfl, hle⟩ := hcond
          split at h
          · rename_i l hl
            simp only [Option.some.injEq, Prod.mk.injEq, decide_eq_true_eq] at h
            obtain ⟨hlt, rfl, rfl⟩ := h
            have ea := E ad
            rw [ha] at ea
            have ex := E x
            rw [hxe] at ex
            exact (storeA_ok hi ho hn hl hle hlt ex.1 ea.1).mono_b hbb
          · cases h
        · cases h
      · cases h
    · cases h
  · rename_i t n parts hop; rw [hop]
    split at h
    · rename_i e hu
      split at h
      · rename_i τ z hτ hz
        split at h
        · rename_i hle
          split at h
          · rename_i l hl
            split at h
            · cases h
            · rename_i hln
              have hln : l.length = n := Classical.byContradiction hln
              obtain ⟨cells, hrun, hcl, hrow⟩ := buildSlice_run (g := g) (w := w) hu hτ hz hle.1 hl hln (rel_parts hs parts.toList)
              have e1 : (parts.toList.map fun (i, x) => (i, a.eval x)).toArray = parts.map fun (i, x) => (i, a.eval x) := by
                apply Array.toList_inj.1; simp
              rw [e1] at hrun
              have hml : l.length ≤ maxL := by rw [hln]; unfold maxL; omega
              split at h
              · rename_i d hd
                split at h
                · cases h
                  obtain ⟨g', r1, r2, r3⟩ := newRo_ok (W := w.alloc (.cells cells.toArray e)) hi (e := e) (fr := (0, 0)) (cap := l.length) rfl rfl rfl (by simp) (fun k hk => heap_alloc_old w _ k hk) (heap_alloc_new w _) (Nat.le_refl _) hml hrow
                  exact ⟨.value (.slice (some ⟨w.heap.size, 0, none⟩) l.length l.length), _, g', _, by simp [hrun], rfl, r1, rfl, r2.mono_b hbb, r3⟩
                split at h
                · split at h
                  · cases h
                  · rename_i hq
                    cases h
                    have hq1 : l ≠ [] := fun q => hq (.inl (by simp [q]))
                    have hq2 : τ.size ≠ 0 := fun q => hq (.inr q)
                    have hln0 : l.length ≠ 0 := fun e => hq1 (List.eq_nil_of_length_eq_zero e)
                    obtain ⟨r1, r2⟩ := newVec_ok (e := e) (cap := l.length) hi hq2 hcl (Nat.le_refl _) hml hrow
                    rw [vecV, if_neg hln0] at r1
                    exact ⟨.value (.slice (some ⟨w.heap.size, 0, none⟩) l.length l.length), _, _, _, by simp [hrun], rfl, r1, by simp [belowPV, belowC, addObj], r2.mono_b hbb, ext_more hi _ _⟩
                · split at h
                  · cases h
                    obtain ⟨r1, r2⟩ := newRow_ok (e := e) (fr := (0, 0)) hi (by simp) (Nat.le_refl _) hml hrow
                    exact ⟨.value (.slice (some ⟨w.heap.size, 0, none⟩) l.length l.length), _, _, _, by simp [hrun], rfl, r1, by simp [belowPV, belowC, addObj], r2.mono_b hbb, ext_more hi _ _⟩
                  · cases h
                    obtain ⟨g', r1, r2, r3⟩ := newOwn_ok (W := w.alloc (.cells cells.toArray e)) hi (c := c) none hc (e := e) (cap := l.length) rfl rfl rfl (by simp) (fun k hk => heap_alloc_old w _ k hk) (heap_alloc_new w _) hcl (Nat.le_refl _) hml hrow
                    exact ⟨.value (.slice (some ⟨w.heap.size, 0, none⟩) l.length l.length), _, g', _, by simp [hrun], rfl, r1, by simp [belowPV, belowC], r2, r3⟩
              · cases h
          · cases h
        · cases h
      · cases h
    · cases h
  · rename_i t ln cp hop; rw [hop]
    split at h
    · rename_i e kn n kk k hu hln hcp
      split at h
      · rename_i τ z bt hτ hz hb
        split at h
        · rename_i x hx
          split at h
          · cases h
          · rename_i h0
            have el := E ln
            have ec := E cp
            rw [hln] at el
            rw [hcp] at ec
            split at h
            · rename_i d hd
              split at h
              · simp only [Option.some.injEq, Prod.mk.injEq, Bool.and_eq_true, decide_eq_true_eq] at h
                obtain ⟨⟨hg, hnk⟩, rfl, rfl⟩ := h
                obtain ⟨vs, hrun, hvl, hle, hcap, hrow⟩ := makeSlice_run (g := g) (w := w) (kn := kn) (kk := kk) hu hτ hz hb hx h0 hg
                rw [← el.1.1, ← ec.1.1] at hrun
                obtain ⟨r1, r2⟩ := newRow_ok (e := e) (cap := k.toNat) (fr := (0, 0)) hi (by simp) (by simpa using hle) hcap hrow
                simp only [List.length_replicate] at r1 r2
                exact ⟨.value (.slice (some ⟨w.heap.size, 0, none⟩) n.toNat k.toNat), _, _, _, by simp [hrun], rfl, r1, by simp [belowPV, belowC, addObj], r2.mono_b hbb, ext_more hi _ _⟩
              · simp only [Option.some.injEq, Prod.mk.injEq, decide_eq_true_eq] at h
                obtain ⟨hg, rfl, rfl⟩ := h
                obtain ⟨vs, hrun, hvl, hle, hcap, hrow⟩ := makeSlice_run (g := g) (w := w) (kn := kn) (kk := kk) hu hτ hz hb hx h0 hg
                rw [← el.1.1, ← ec.1.1] at hrun
                obtain ⟨g', r1, r2, r3⟩ := newOwn_ok (W := w.alloc (.cells vs.toArray e)) hi (c := c) none hc (e := e) (cap := k.toNat) rfl rfl rfl (by simp) (fun k hk => heap_alloc_old w _ k hk) (heap_alloc_new w _) hvl (by simpa using hle) hcap hrow
                simp only [List.length_replicate] at r1
                exact ⟨.value (.slice (some ⟨w.heap.size, 0, none⟩) n.toNat k.toNat), _, g', _, by simp [hrun], rfl, r1, by simp [belowPV, belowC], r2, r3⟩
            · cases h
        · cases h
      · cases h
    · cases h
  · rename_i src dstT x hop; rw [hop]
    split at h
    · rename_i e l d hsr hds hx hd
      have ex := E x
      rw [hx] at ex
      split at h
      · rename_i he
        obtain ⟨c1, c2⟩ := convW_bytes hi hsr hds he ex.1
        split at h
        · simp only [Option.some.injEq, Prod.mk.injEq, decide_eq_true_eq] at h
          obtain ⟨_, rfl, rfl⟩ := h
          exact c2.mono_b hbb
        · simp only [Option.some.injEq, Prod.mk.injEq, decide_eq_true_eq] at h
          obtain ⟨_, rfl, rfl⟩ := h
          exact c1.mono_b hbb
      · rename_i he
        simp only [Option.some.injEq, Prod.mk.injEq, decide_eq_true_eq] at h
        obtain ⟨hl, rfl, rfl⟩ := h
        exact (convW_runes hi hsr hds he hl ex.1).mono_b hbb
      · cases h
    · rename_i e o' d hsr hds hx
      split at h
      · rename_i l fz ho
        split at h
        · rename_i he
          cases h
          have ex := E x
          rw [hx] at ex
          exact (StOk.same hi (mbytes_ok hi hsr hds (undInt_eq he) ho ex.1)).mono_b hbb
        · cases h
      · cases h
    · rename_i e0 e t l hsr hds hx
      split at h
      · rename_i hcond
        simp only [Option.some.injEq, Prod.mk.injEq, decide_eq_true_eq] at h
        obtain ⟨hl, rfl, rfl⟩ := h
        obtain ⟨rfl, he, hlv⟩ := hcond
        have ex := E x
        rw [hx] at ex
        exact (convSame_ok (e0 := e0) hi hds (undInt_eq he) ex.1 (by simpa using hlv) hl).mono_b hbb
      · cases h
    · cases h
  · rename_i t x hop; rw [hop]
    split at h
    · rename_i l hu hx
      cases h
      have ex := E x
      rw [hx] at ex
      exact (range_ok hi hu ex.1).mono_b hbb
    · cases h
  · rename_i b' args argTypes hop; rw [hop]
    unfold builtinW at h
    split at h
    · split at h
      · rename_i s x t t' hargs hat
        split at h
        · rename_i e hu
          split at h
          · rename_i τ bt z hτ hb hz
            split at h
            · cases h
            · rename_i hcond
              split at h
              · split at h
                · cases h
                · rename_i hτ0
                  split at h
                  · rename_i l old l' hd hsr
                    simp only [Option.some.injEq, Prod.mk.injEq, decide_eq_true_eq] at h
                    obtain ⟨hg, rfl, rfl⟩ := h
                    have h0 : bt ≠ 0 := fun q => hcond (.inl q)
                    have hzl : z.length = τ.size := Classical.byContradiction fun q => hcond (.inr q)
                    have := (appendV_ok (ty := o.type) hi hu hτ hb h0 hz hzl hτ0 hd hsr hg (E s).1 (E x).1).mono_b hbb
                    simp only [resolve, builtin, invoke, Sem.run_bind, map_two hargs, arr_two hat]
                    simpa [StOk, resolve, invoke, builtin, map_two hargs, arr_two hat] using this
                  · cases h
              split at h
              · rename_i l old l' hd hsr
                simp only [Option.some.injEq, Prod.mk.injEq, decide_eq_true_eq] at h
                obtain ⟨hg, rfl, rfl⟩ := h
                have h0 : bt ≠ 0 := fun q => hcond (.inl q)
                have hzl : z.length = τ.size := Classical.byContradiction fun q => hcond (.inr q)
                have := append_ok (ty := o.type) hi hc hu hτ hb h0 hz hzl hd hsr hg (E s).1 (E x).1
                simp only [resolve, builtin, invoke, Sem.run_bind, map_two hargs, arr_two hat]
                simpa [StOk, resolve, invoke, builtin, map_two hargs, arr_two hat] using this
              · cases h
          · cases h
        · cases h
      · cases h
    · split at h
      · rename_i x t hargs hat
        simp only [Option.map_eq_some_iff, Prod.mk.injEq, true_and] at h
        obtain ⟨v, hv, rfl, rfl⟩ := h
        have := (StOk.same hi (lenC_ok (ty := o.type) hi hv (E x).1)).mono_b hbb
        simpa [StOk, resolve, invoke, builtin, map_one hargs, arr_one hat] using this
      · cases h
    · split at h
      · rename_i x y hargs
        simp only [Option.map_eq_some_iff, Prod.mk.injEq, true_and] at h
        obtain ⟨v, hv, rfl, rfl⟩ := h
        have := (StOk.same hi ((extreme_ok (P := P) (b := b) (m := st.objs.length) hv (E x).1 (E y).1).1 rfl)).mono_b hbb
        simpa [StOk, resolve, invoke, builtin, map_two hargs, Builtin.min_] using this
      · cases h
    · split at h
      · rename_i x y hargs
        simp only [Option.map_eq_some_iff, Prod.mk.injEq, true_and] at h
        obtain ⟨v, hv, rfl, rfl⟩ := h
        have := (StOk.same hi ((extreme_ok (P := P) (b := b) (m := st.objs.length) hv (E x).1 (E y).1).2 rfl)).mono_b hbb
        simpa [StOk, resolve, invoke, builtin, map_two hargs, Builtin.max_] using this
      · cases h
    · cases h
  · cases h

end Go.Proofs.YthhllkiefncbnaaDoorSim
