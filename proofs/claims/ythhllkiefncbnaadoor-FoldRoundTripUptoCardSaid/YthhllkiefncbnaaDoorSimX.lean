/- Runs: whenever the interpreter answers, so does the machine. -/
import Derived.Test.YthhllkiefncbnaaDoorSimW
namespace Go.Proofs.YthhllkiefncbnaaDoorSim
open Go
set_option linter.unusedVariables false
set_option linter.unusedSimpArgs false

variable {P : Program} {cfg : Cfg} {rn : Run} {g g' : Gh} {w w' : World} {st st' : St} {b : Nat → Bool} {m base : Nat}

/-- Fewer blocks are hidden. -/
theorem Inv.unhide {h0 : Nat → Prop} (hi : Inv g b st w) (h : ∀ k, h0 k → g.hid k) : Inv { g with hid := h0 } b st w :=
  { objs := fun o x hx => hi.objs o x hx
    ohid := fun o ho q => hi.ohid o ho (h _ q)
    inj := hi.inj
    below := hi.below
    toks := fun t ht => by
      obtain ⟨r, hr, ok⟩ := hi.toks t ht
      refine ⟨r, hr, ?_⟩
      rcases ok with q | ⟨bk, n, cap, cur, hv, h1, h2, h3, h4, h5, h6⟩
      · exact .inl q
      · exact .inr ⟨bk, n, cap, cur, hv, h1, h2, h3, h4, fun q => h5 (h _ q), h6⟩
    dead := hi.dead
    lt := hi.lt
    dist := hi.dist
    sep := hi.sep
    hidLt := fun k hk => hi.hidLt k (h k hk)
    protEx := hi.protEx
    glob := fun n cs h => GlobAt.mono (g := g) (g' := { g with hid := h0 }) (fun _ _ h => h) (fun _ _ _ => rfl) (hi.glob n cs h) }

/-- A mark is taken. -/
theorem Inv.take (hi : Inv g b st w) {D : Nat} {ds : List Deferred} (hD : w.heap[D]? = some (.deferred (some ds))) (h1 : ¬ g.hid D) (h2 : ∀ o, Sol st.objs o → g.phi o ≠ D) (h3 : ∀ t r, g.tok t = some r → r.block ≠ some D) :
    Inv g b st (w.putObj D (.deferred none)) ∧ Ext b st.objs.length g w g (w.putObj D (.deferred none)) := by
  have hlt := block_lt hD
  have he : Ext b st.objs.length g w g (w.putObj D (.deferred none)) :=
    { os := rfl, tape := rfl, output := rfl, size := by simp, hid := fun _ h => h, hidden := fun k hk => World.putObj_heap_other (fun e => h1 (e ▸ hk)),
      cells := fun k off hk => by
        by_cases e : k = D
        · subst e
          simp [World.cell?, World.putObj_heap_same hlt, hD]
        · simp [World.cell?, World.putObj_heap_other (w := w) (o := .deferred none) e],
      prot := fun _ _ h => h, newp := fun _ _ _ h => h, phi := fun _ _ => rfl, mrow := fun _ _ => rfl, tok := fun _ _ => .inl rfl }
  refine ⟨?_, he⟩
  refine Inv.step (ch := fun k => k = D) (st' := st) hi he (fun _ h => h) (fun k _ hk => ⟨World.putObj_heap_other hk, fun _ h => h⟩) rfl (fun k off hk => by simp; exact hi.protEx k off hk) rfl ?_ ?_ hi.dead hi.lt (fun t r h => .inl h)
  · intro o x hx
    exact .inl ⟨hx, fun hs q => h2 o ⟨_, hx, hs⟩ q⟩
  · intro t ht
    obtain ⟨r, hr, ok⟩ := hi.toks t ht
    exact ⟨r, hr, .inl ⟨hr, ht, fun k hk e => h3 t r hr (e ▸ hk)⟩⟩

theorem leaves_ok {R : Type} {K : PV → St → Option R} {r : R} {fn : Func} {fr : Fr} {tmps : Array Value} {pv : PV} {n : Nat} {g0 : Gh} {w0 : World} {st0 : St} (hn : st0.next ≤ st.next) (ho : st0.objs.length ≤ st.objs.length) (hkr : ∀ rv ∈ fn.results.toList, ResRow P fr st rv) (hpv : resultPV P fn fr st = some pv) (hK : K pv st = some r) :
    ∀ (Ds : List Nat) (w : World), Inv g (tk b st0.next st.next) st w → RelSlots g w (tk b st0.next st.next) st.objs.length fr.tmps tmps → Ext b st0.objs.length g0 w0 g w → Ds.Nodup →
      (∀ D ∈ Ds, w.heap[D]? = some (.deferred (some [])) ∧ ¬ g.hid D ∧ (∀ o, Sol st.objs o → g.phi o ≠ D) ∧ (∀ t r, g.tok t = some r → r.block ≠ some D)) →
      LeavesInM (FW none) n P fn tmps (CallPost K r b b st0 g0 w0) (Ds.map fun D => ({ target := .collected D, args := #[] } : Deferred)) .returning w
  | [], w, hi, hs, he, _, _ => by
    obtain ⟨v, h1, h2, h3⟩ := results_ok (a := { tmps := tmps, defers := [] }) hs hi hkr hpv
    exact ⟨v, h1, v, pv, st, g, rfl, hK, h2, h3, hi, he, hn, ho⟩
  | D :: Ds, w, hi, hs, he, hnd, hD => by
    obtain ⟨d1, d2, d3, d4⟩ := hD D (by simp)
    obtain ⟨i1, e1⟩ := hi.take d1 d2 d3 d4
    have hnd' := List.nodup_cons.1 hnd
    refine ⟨by simp, .inl ⟨D, _, rfl, run_takeDeferred d1, ?_⟩⟩
    refine leaves_ok hn ho hkr hpv hK Ds _ i1 (hs.step e1 (fun _ h => h) (Nat.le_refl _)) (he.trans (e1.weaken (fun t h => tk_of h) ho)) hnd'.2 fun D' hD' => ?_
    obtain ⟨q1, q2⟩ := hD D' (by simp [hD'])
    have hne : D' ≠ D := fun e => hnd'.1 (e ▸ hD')
    exact ⟨by rw [World.putObj_heap_other hne]; exact q1, q2⟩

theorem setParams_rel : ∀ {tmps : List PV} {tm : Array Value} (ps : List Nat) {args : List PV} {vals : List Value}, All2 (RelPV g w) tmps tm.toList → All2 (RelPV g w) args vals →
    All2 (RelPV g w) (setParams tmps ps args) ((ps.zip vals).foldl (fun tmps (t, a) => tmps.setIfInBounds t a) tm).toList
  | tmps, tm, [], args, vals, h, _ => by simpa [setParams] using h
  | tmps, tm, p :: ps, [], [], h, _ => by simpa [setParams] using h
  | tmps, tm, p :: ps, a :: args, v :: vals, h, ha => by
    simp only [setParams, List.zip_cons_cons, List.foldl_cons]
    refine setParams_rel ps ?_ ha.2
    rw [Array.toList_setIfInBounds]
    exact h.set p ha.1
  | _, _, _ :: _, [], _ :: _, _, h => h.elim
  | _, _, _ :: _, _ :: _, [], _, h => h.elim

theorem setParams_mem : ∀ {tmps : List PV} (ps : List Nat) {args : List PV} {x : PV}, x ∈ setParams tmps ps args → x ∈ tmps ∨ x ∈ args
  | tmps, [], args, x, h => .inl (by simpa [setParams] using h)
  | tmps, p :: ps, [], x, h => .inl (by simpa [setParams] using h)
  | tmps, p :: ps, a :: args, x, h => by
    simp only [setParams] at h
    rcases setParams_mem ps h with h | h
    · rcases List.mem_or_eq_of_mem_set h with h | h
      · exact .inl h
      · exact .inr (by simp [h])
    · exact .inr (by simp [h])

theorem inv_tk (hi : Inv g b st w) (n : Nat) : Inv g (tk b n st.next) st w := hi.mono_b fun t h => tk_of h

theorem runK_fn (hlp : cfg.lp = none) (hP : ProgOk P) {n : Nat} (ih : RunOk P (runK P cfg n)) {R : Type} {f : Nat} {args : List PV} {K : PV → St → Option R} {r : R} (h : runK P cfg (n + 1) R (.fn f) args st K = some r) {vals : List Value} (ha : All2 (RelPV g w) args vals)
    (hbl : ∀ x ∈ args, belowPV b st.objs.length x = true) (hi : Inv g b st w) (hlt : ∀ t, b t = true → t < st.next) :
    (P.funcs[f]?.bind (·.body)).isSome = true ∧ ∀ k, CallsIn (FW none) k P f vals.toArray w (CallPost K r b b st g w) := by
  simp only [runK, runStep] at h
  split at h
  · rename_i fn hf
    split at h
    · rename_i c hbody
      refine ⟨by rw [hf]; simp [hbody], fun k => callsIn_of_wp_marks hf hbody (FW_fn _ _) ?_⟩
      have hslots : RelSlots g w (tk b st.next st.next) st.objs.length (args ++ List.replicate (fn.ntmps - args.length) (.tup [])) (vals.toArray ++ Array.replicate (fn.ntmps - vals.toArray.size) undef) := by
        refine ⟨?_, fun x hx => ?_⟩
        · simp only [Array.toList_append, Array.toList_replicate, List.size_toArray]
          rw [← ha.length]
          refine ha.append (All2.of_get (by simp) fun i x v hx hv => ?_)
          rw [List.getElem?_replicate] at hx hv
          split at hx
          · rename_i hl
            rw [if_pos hl] at hv
            cases hx; cases hv
            exact ⟨[], rfl, trivial⟩
          · cases hx
        · rcases List.mem_append.1 hx with hx | hx
          · exact belowPV.mono (fun t h => tk_of h) (Nat.le_refl _) (hbl x hx)
          · rw [(List.mem_replicate.1 hx).2]; rfl
      have hc : CSt b g.hid { tmps := args ++ List.replicate (fn.ntmps - args.length) (.tup []), fid := f, base := st.next, obase := st.objs.length, round := none } st g w { tmps := vals.toArray ++ Array.replicate (fn.ntmps - vals.toArray.size) undef, defers := [] } :=
        { slots := hslots, inv := inv_tk hi _, next := Nat.le_refl _, objs := Nat.le_refl _, old := fun _ h => h, defs := fun _ => ⟨[], rfl, List.nodup_nil, by simp⟩ }
      refine codeK_sound hlp hP ih (runK_nat (lpNat_none hlp) n) c h hlt hc (fun _ => rfl) fun ex fr' st' g' w' a' h1 h2 h3 h4 => ?_
      have fin : (match resultPV P fn fr' st' with
          | some v => resChk P fr' st' fn.results.toList (K v st')
          | none => none) = some r → LeavesInM (FW none) k P fn a'.tmps (CallPost K r b b st g w) a'.defers .returning w' := fun h1 => by
        split at h1
        · rename_i pv hpv
          obtain ⟨h1, hkr⟩ := resChk_some _ h1
          obtain ⟨Ds, d1, d2, d3⟩ := h2.defs h4.2.2.2
          rw [d1]
          have hbase : fr'.base = st.next := h4.2.1
          have hobase : fr'.obase = st.objs.length := h4.2.2.1
          have hsl := h2.slots
          have hin := h2.inv
          rw [hbase] at hsl hin
          have hnx := h2.next
          have hob := h2.objs
          rw [hbase] at hnx
          rw [hobase] at hob
          have eu : Ext b st.objs.length g w { g' with hid := g.hid } w' := { h3 with hid := fun _ h => h }
          have hsl' : RelSlots { g' with hid := g.hid } w' (tk b st.next st'.next) st'.objs.length fr'.tmps a'.tmps := hsl
          exact leaves_ok hnx hob hkr hpv h1 Ds w' (hin.unhide h2.old) hsl' eu d2 fun D hD => by
            obtain ⟨p1, p2, p3⟩ := d3 D hD
            refine ⟨p3, p2, fun o ho e => hin.ohid o ho (e ▸ p1), fun t r ht hk => ?_⟩
            obtain ⟨_, ok⟩ := live_of_tok hin ht
            exact (ok.block_lt hk).2 p1
        · cases h1
      cases ex with
      | normal => exact fin h1
      | ret => exact fin h1
      | exit id => cases h1
    · cases h
  · cases h

/-- The record of a loop, told anew. -/
theorem loop_put (hi : Inv g b st w) {o : Nat} {rec : ALoop} (ho : st.objs[o]? = some (.loop rec)) (q : LoopState) (pd : Option Code) :
    ∃ L : Loop, w.heap[g.phi o]? = some (.loop L) ∧ L.state = rec.state ∧ L.pending = rec.pending ∧ L.params = rec.params.toArray ∧ L.assign = rec.assign ∧ L.body = rec.body ∧ All2 (RelPV g w) rec.tmps L.tmps.toList ∧
      Inv g b (setObj st o (.loop { rec with state := q, pending := pd })) (w.putObj (g.phi o) (.loop { L with state := q, pending := pd })) ∧ Ext b st.objs.length g w g (w.putObj (g.phi o) (.loop { L with state := q, pending := pd })) := by
  have holt := (List.getElem?_eq_some_iff.1 ho).1
  obtain ⟨hnp, fid, tm, D, hh, hr⟩ := hi.objs o _ ho
  refine ⟨_, hh, rfl, rfl, rfl, rfl, rfl, hr, ?_⟩
  have he : Ext b st.objs.length g w g (w.putObj (g.phi o) (.loop { state := q, pending := pd, fn := fid, tmps := tm, params := rec.params.toArray, assign := rec.assign, body := rec.body, defers := D })) :=
    Ext.putObj hi ⟨_, ho, trivial⟩ hnp rfl rfl rfl (by simp) (fun k hk => World.putObj_heap_other hk)
  exact hi.putObj (x := .loop { rec with state := q, pending := pd }) ⟨_, ho, trivial⟩ rfl rfl rfl (by simp) (fun k hk => World.putObj_heap_other hk)
    ⟨hnp, fid, tm, D, World.putObj_heap_same (block_lt hh), All2.mono_mem (fun z hz v hr => RelPV.mono he (hi.below _ _ ho z hz) hr) hr⟩ (fun z hz => hi.below _ _ ho z hz) hnp

theorem runK_round (hlp : cfg.lp = none) (hP : ProgOk P) {n : Nat} (ih : RunOk P (runK P cfg n)) {R : Type} {o : Nat} {args : List PV} {K : PV → St → Option R} {r : R} (h : runK P cfg (n + 1) R (.round o) args st K = some r) {vals : List Value} (ha : All2 (RelPV g w) args vals)
    (hbl : ∀ x ∈ args, belowPV b st.objs.length x = true) (hi : Inv g b st w) (hlt : ∀ t, b t = true → t < st.next) :
    ∃ fn tmps assign body, (Instr.yield (g.phi o) vals.toArray).run P w = .ok (.round (g.phi o) fn tmps assign body) w ∧ ∀ k, RoundIn (FW none) k P (g.phi o) fn tmps assign body w (CallPost K r b b st g w) := by
  simp only [runK, runStep] at h
  split at h
  · rename_i rec ho
    split at h
    · rename_i hcond
      obtain ⟨hready, hpar⟩ := hcond
      have holt := (List.getElem?_eq_some_iff.1 ho).1
      obtain ⟨L, hL, l1, l2, l3, l4, l5, lr, _, _⟩ := loop_put hi ho .ready none
      refine ⟨L.fn, _, L.assign, L.body, run_yield hL (by rw [l3]; simp [hpar, ha.length]), fun k => roundIn_of_wpIn (FW_fn _ _) ?_⟩
      rw [l4, l5]
      have hzip : (L.params.zip vals.toArray).foldl (fun tmps (t, a) => tmps.setIfInBounds t a) L.tmps = (rec.params.zip vals).foldl (fun tmps (t, a) => tmps.setIfInBounds t a) L.tmps := by
        rw [l3, ← Array.foldl_toList]
        simp
      rw [hzip]
      have hslots : RelSlots g w (tk b st.next st.next) st.objs.length (setParams rec.tmps rec.params args) ((rec.params.zip vals).foldl (fun tmps (t, a) => tmps.setIfInBounds t a) L.tmps) := by
        refine ⟨setParams_rel rec.params lr ha, fun x hx => ?_⟩
        rcases setParams_mem rec.params hx with hx | hx
        · exact belowPV.mono (fun t h => tk_of h) (Nat.le_refl _) (hi.below o _ ho x hx)
        · exact belowPV.mono (fun t h => tk_of h) (Nat.le_refl _) (hbl x hx)
      obtain ⟨fr0, hfr0⟩ : ∃ fr0 : Fr, fr0 = { tmps := setParams rec.tmps rec.params args, fid := rec.fid, base := st.next, obase := st.objs.length, round := some o } := ⟨_, rfl⟩
      rw [← hfr0] at h
      have hb0 : fr0.base = st.next := by rw [hfr0]
      have ho0 : fr0.obase = st.objs.length := by rw [hfr0]
      have hr0 : fr0.round = some o := by rw [hfr0]
      have hc : CSt b g.hid fr0 st g w { tmps := (rec.params.zip vals).foldl (fun tmps (t, a) => tmps.setIfInBounds t a) L.tmps, defers := [] } :=
        { slots := by rw [hb0, hfr0]; exact hslots
          inv := by rw [hb0]; exact inv_tk hi _
          next := Nat.le_of_eq hb0, objs := Nat.le_of_eq ho0, old := fun _ h => h, defs := fun q => by rw [hr0] at q; cases q }
      have hlt0 : ∀ t, b t = true → t < fr0.base := by rw [hb0]; exact hlt
      refine codeK_sound (ro := some (g.phi o)) hlp hP ih (runK_nat (lpNat_none hlp) n) rec.assign h hlt0 hc (fun q => by rw [hr0] at q; cases q) fun ex fr1 st1 g1 w1 a1 h1 h2 h3 h4 => ?_
      cases ex with
      | exit id => cases h1
      | ret => cases h1
      | normal =>
        dsimp only at h1
        split at h1
        · rename_i r1 ho1
          split at h1
          · rename_i hready1
            rw [ho0] at h3
            have hphi1 : g1.phi o = g.phi o := h3.phi o holt
            obtain ⟨L1, hL1, m1, m2, m3, m4, m5, mr, i2, e2⟩ := loop_put h2.inv ho1 .busy r1.pending
            have hL1' := hL1
            rw [hphi1] at hL1'
            have hset : ({ L1 with state := .busy, pending := r1.pending } : Loop) = { L1 with state := .busy } := by rw [← m2]
            rw [hset, hphi1] at i2 e2
            refine ⟨_, run_beginRound hL1' (by rw [m1]; exact hready1), ?_⟩
            have hc2 : CSt b g.hid fr1 (setObj st1 o (.loop { r1 with state := .busy })) g1 (w1.putObj (g.phi o) (.loop { L1 with state := .busy })) a1 :=
              { slots := h2.slots.step e2 (fun _ h => h) (by simp [setObj])
                inv := i2
                next := h2.next
                objs := by have := h2.objs; simpa [setObj] using this
                old := fun k hk => e2.hid k (h2.old k hk)
                defs := fun q => by rw [h4.2.2.2, hr0] at q; cases q }
            have hb1 : fr1.base = st.next := h4.2.1.trans hb0
            have ho1' : fr1.obase = st.objs.length := h4.2.2.1.trans ho0
            have hr1 : fr1.round = some o := h4.2.2.2.trans hr0
            have hol1 : st.objs.length ≤ st1.objs.length := by have := h2.objs; omega
            refine codeK_sound (ro := some (g.phi o)) hlp hP ih (runK_nat (lpNat_none hlp) n) rec.body h1 (by rw [hb1]; exact hlt) hc2 (fun q => by rw [hr1] at q; cases q) fun ex fr2 st2 g2 w2 a2 k1 k2 k3 k4 => ?_
            split at k1
            · rename_i r2 ho2
              rw [ho1'] at k3
              have eAll : Ext b st.objs.length g w g2 w2 := (h3.trans (e2.weaken (fun t h => tk_of h) hol1)).trans k3
              have hphi2 : g2.phi o = g.phi o := eAll.phi o holt
              have hb2 : fr2.base = st.next := k4.2.1.trans hb1
              have hob2 : st.objs.length ≤ st2.objs.length := by have := k2.objs; have := k4.2.2.1; omega
              have hnx2 : st.next ≤ st2.next := by have := k2.next; omega
              have fin : ∀ (jump : Option Code) (q : LoopState), q = (if jump.isNone then .ready else .done) → K (.c (.bool jump.isNone)) (setObj st2 o (.loop { r2 with state := q, pending := jump })) = some r →
                  ∃ v w', (Instr.endRound (g.phi o) jump).run P w2 = .ok v w' ∧ CallPost K r b b st g w (.returned v) w' := fun jump q hq hK => by
                obtain ⟨L2, hL2, _, _, _, _, _, _, i3, e3⟩ := loop_put k2.inv ho2 q jump
                rw [hphi2] at hL2
                have hrun := run_endRound (P := P) jump hL2
                rw [← hq, ← hphi2] at hrun
                have hnx3 : st2.next = (setObj st2 o (.loop { r2 with state := q, pending := jump })).next := rfl
                refine ⟨_, _, by rw [← hphi2]; exact hrun, _, _, _, g2, rfl, hK, rfl, rfl, ?_, eAll.trans (e3.weaken (fun t h => tk_of h) hob2), hnx2, by simpa [setObj] using hob2⟩
                rw [hb2] at i3
                exact i3
              cases ex with
              | normal => exact fin none .ready rfl k1
              | ret => exact fin (some .ret) .done rfl k1
              | exit id => exact fin (some (.exit id)) .done rfl k1
            · cases k1
          · cases h1
        · cases h1
    · cases h
  · cases h

/-- **Whenever the interpreter answers, so does the machine.** -/
theorem runK_ok (hlp : cfg.lp = none) (hP : ProgOk P) : ∀ (n : Nat), RunOk P (runK P cfg n)
  | 0 => fun R tgt args st K r h => by cases h
  | n + 1 => fun R tgt args st K r h g b w vals ha hbl hi hlt => by
    cases tgt with
    | fn f => exact runK_fn hlp hP (runK_ok hlp hP n) h ha hbl hi hlt
    | round o => exact runK_round hlp hP (runK_ok hlp hP n) h ha hbl hi hlt

end Go.Proofs.YthhllkiefncbnaaDoorSim
