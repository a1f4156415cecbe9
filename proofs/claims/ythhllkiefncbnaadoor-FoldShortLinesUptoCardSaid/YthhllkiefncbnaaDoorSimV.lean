/- Code: whatever the interpreter answers, the machine comes to. -/
import Derived.Test.YthhllkiefncbnaaDoorSimU
namespace Go.Proofs.YthhllkiefncbnaaDoorSim
open Go
set_option linter.unusedVariables false
set_option linter.unusedSimpArgs false

variable {P : Program} {cfg : Cfg} {rn : Run} {g g' : Gh} {w w' : World} {st st' : St} {b : Nat → Bool} {m base : Nat}

theorem CSt.lt {h0 : Nat → Prop} {fr : Fr} {a : Act} (hc : CSt b h0 fr st g w a) (hb : ∀ t, b t = true → t < fr.base) : ∀ t, tk b fr.base st.next t = true → t < st.next := fun t ht => by
  have := hc.next
  rw [tk_iff] at ht
  rcases ht with h | h
  · have := hb t h; omega
  · omega

theorem Ext.putObj (hi : Inv g b st w) {o : Nat} (ho : Sol st.objs o) (hnp : ∀ off, ¬ g.prot (g.phi o) off) (hos : w'.os = w.os) (htp : w'.tape = w.tape) (hou : w'.output = w.output) (hsz : w'.heap.size = w.heap.size)
    (hun : ∀ k, k ≠ g.phi o → w'.heap[k]? = w.heap[k]?) : Ext b st.objs.length g w g w' :=
  { os := hos, tape := htp, output := hou, size := by omega, hid := fun _ h => h, hidden := fun k hk => hun k (fun e => hi.ohid o ho (e ▸ hk)),
    cells := fun k off hk => by
      have : k ≠ g.phi o := fun e => hnp off (e ▸ hk)
      simp [World.cell?, hun k this],
    prot := fun _ _ h => h, newp := fun _ _ _ h => h, phi := fun _ _ => rfl, mrow := fun _ _ => rfl, tok := fun _ _ => .inl rfl }

theorem stepR_scope {P : Program} {b : Frame} {a : Act} {k : List Item} {cs : List Frame} {w : World} {c : Code} :
    step P (lone (b.atR a (.code (.scope c) :: k)) cs w) = .next (lone (b.atR a (.code c :: .inScope c :: k)) cs w) :=
  step_lone_go (by simp [stepG, stepG.exec, Frame.atR])
theorem stepR_inScope {P : Program} {b : Frame} {a : Act} {k : List Item} {cs : List Frame} {w : World} {c : Code} :
    step P (lone (b.atR a (.inScope c :: k)) cs w) = .next (lone (b.atR a k) cs w) :=
  step_lone_go (by simp [stepG, stepG.exec, Frame.atR])
def noJump (Q : Exit → Act → World → Prop) : Exit → Act → World → Prop
  | .goto _, _, _ => False
  | e, a, w => Q e a w
/-- A scope through which the run goes without a jump. -/
theorem wpIn_scope_straight {F : Fence} {n : Nat} {P : Program} {Q : Exit → Act → World → Prop} {a : Act} {w : World} {c : Code}
    (h : c.wpIn F n P (noJump Q) a w) : (Code.scope c).wpIn F n P Q a w := by
  intro b k cs hro hb hr
  have h0 : (lone (b.atR a (.code (.scope c) :: k)) cs w).fenced P F := fenced_calm hb hr rfl
  obtain ⟨e, a₁, w₁, hq, harr⟩ := h b (.inScope c :: k) cs hro hb hr
  cases e with
  | normal => exact ⟨.normal, a₁, w₁, hq, .head h0 stepR_scope (StepsIn.trans harr (.one (fenced_calm hb hr rfl) stepR_inScope))⟩
  | exit id =>
    have hx : exitTo id (.inScope c :: k) = exitTo id k := by simp [exitTo]
    exact ⟨.exit id, a₁, w₁, hq, fun k' hk => .head h0 stepR_scope (harr.1 k' (by rw [hx]; exact hk)),
      fun hr' hk => let ⟨k₁, h1, h2⟩ := harr.2 hr' (by rw [hx]; exact hk); ⟨k₁, h1, .head h0 stepR_scope h2⟩⟩
  | goto l => exact hq.elim
  | ret => exact ⟨_, a₁, w₁, hq, .of_steps (.one h0 stepR_scope) harr⟩
  | panic ch => exact ⟨_, a₁, w₁, hq, .of_steps (.one h0 stepR_scope) harr⟩
  | outgrown => exact ⟨_, a₁, w₁, hq, .of_steps (.one h0 stepR_scope) harr⟩

/-- What is asked of the code's end. -/
def Meets {R : Type} (K : Ex → Fr → St → Option R) (r : R) (b : Nat → Bool) (h0 : Nat → Prop) (fr : Fr) (g : Gh) (w : World) (Q : Exit → Act → World → Prop) : Prop :=
  ∀ ex fr' st' g' w' a', K ex fr' st' = some r → CSt b h0 fr' st' g' w' a' → Ext b fr.obase g w g' w' → SameFr fr fr' → Q (exitOf ex) a' w'

theorem Meets.next {R : Type} {K : Ex → Fr → St → Option R} {r : R} {h0 : Nat → Prop} {fr fr' : Fr} {Q : Exit → Act → World → Prop} (h : Meets K r b h0 fr g w Q) (he : Ext b fr.obase g w g' w') (hf : SameFr fr fr') : Meets K r b h0 fr' g' w' Q :=
  fun ex fr2 st2 g2 w2 a2 h1 h2 h3 h4 => h ex fr2 st2 g2 w2 a2 h1 h2 (he.trans (by rw [← hf.2.2.1]; exact h3)) (hf.trans h4)

theorem maskT_rel {keep : List Nat} : ∀ {tmps : List PV} {i : Nat} {vs : List Value}, All2 (RelPV g w) tmps vs → All2 (RelPV g w) (maskT keep i tmps) vs
  | [], _, [], _ => trivial
  | v :: r, i, u :: us, h => by
    refine ⟨?_, maskT_rel h.2⟩
    split
    · exact h.1
    · trivial
  | [], _, _ :: _, h => h.elim
  | _ :: _, _, [], h => h.elim

theorem maskT_mem {keep : List Nat} {x : PV} : ∀ {tmps : List PV} {i : Nat}, x ∈ maskT keep i tmps → x = .any ∨ x ∈ tmps
  | [], _, h => by simp [maskT] at h
  | v :: r, i, h => by
    simp only [maskT, List.mem_cons] at h
    rcases h with h | h
    · split at h
      · exact .inr (by simp [h])
      · exact .inl h
    · exact (maskT_mem h).imp id (fun q => by simp [q])

theorem keepT_rel {fid p : Nat} {tmps : List PV} {vs : List Value} (h : All2 (RelPV g w) tmps vs) : All2 (RelPV g w) (keepT cfg fid p tmps) vs := by
  unfold keepT
  split
  · exact maskT_rel h
  · exact h

theorem keepT_mem {fid p : Nat} {tmps : List PV} {x : PV} (h : x ∈ keepT cfg fid p tmps) : x = .any ∨ x ∈ tmps := by
  unfold keepT at h
  split at h
  · exact maskT_mem h
  · exact .inr h

/-- The statement over an iterator. -/
theorem rangeFunc_sound (hP : ProgOk P) (hrn : RunOk P rn) {R : Type} {K : Ex → Fr → St → Option R} {r : R} {p n N : Nat} {fr : Fr} {a : Act} {ro : Option Nat} {Q : Exit → Act → World → Prop} {h0 : Nat → Prop} {x : Operand} {ps : Array Tmp} {assign body : Code}
    (h : codeK P cfg rn N (.rangeFunc x ps assign body) p fr st K = some r) (hb : ∀ t, b t = true → t < fr.base) (hc : CSt b h0 fr st g w a) (hro : fr.round = none → ro = none) (hQ : Meets K r b h0 fr g w Q) :
    (Code.rangeFunc x ps assign body).wpIn (FW ro) n P Q a w := by
  simp only [codeK] at h
  split at h
  · rename_i f caps hx
    split at h
    · cases h
    · rename_i hrd
      have hrd' : fr.round = none := by cases hh : fr.round with
        | none => rfl
        | some _ => rw [hh] at hrd; exact absurd rfl hrd
      have := hro hrd'
      subst this
      split at h
      · cases h
      · have ex := evalO_rel hc.slots x
        rw [hx] at ex
        have hev : a.eval x = .func (.func f) #[] (caps.map (ptrV g)).toArray := ex.1
        have hcb : ∀ q ∈ caps, q.1 < st.objs.length := by simpa [belowPV, belowC] using ex.2
        refine wpIn_rangeFunc fun fn _ => ?_
        obtain ⟨w0, hw0⟩ : ∃ w0, w0 = w.alloc (.deferred (some [])) := ⟨_, rfl⟩
        obtain ⟨L, hL⟩ : ∃ L : Loop, L = { state := .ready, pending := none, fn := fn, tmps := a.tmps, params := ps, assign := assign, body := body, defers := w.heap.size } := ⟨_, rfl⟩
        obtain ⟨w1, hw1⟩ : ∃ w1, w1 = w0.alloc (.loop L) := ⟨_, rfl⟩
        obtain ⟨rec, hrec⟩ : ∃ rec : ALoop, rec = { state := .ready, pending := none, fid := fr.fid, tmps := keepT cfg fr.fid p fr.tmps, params := ps.toList, assign, body, path := p } := ⟨_, rfl⟩
        rw [← hrec] at h
        have hs0 : w0.heap.size = w.heap.size + 1 := by rw [hw0]; simp
        obtain ⟨i0, e0⟩ := hc.inv.newHid (.deferred (some []))
        rw [← hw0] at i0 e0
        obtain ⟨g0, hg0⟩ : ∃ g0 : Gh, g0 = { g with hid := fun k => g.hid k ∨ k = w.heap.size } := ⟨_, rfl⟩
        rw [← hg0] at i0 e0
        have hlt := hc.lt hb
        have e1 := ext_more i0 (.loop L) (0, 0)
        rw [← hw1] at e1
        have hs1 : RelSlots (g0.more st.objs.length w0.heap.size (0, 0)) w1 (tk b fr.base st.next) st.objs.length fr.tmps a.tmps := (hc.slots.step e0 (fun _ h => h) (Nat.le_refl _)).step e1 (fun _ h => h) (Nat.le_refl _)
        have hphi : (g0.more st.objs.length w0.heap.size (0, 0)).phi st.objs.length = w0.heap.size := by simp [Gh.more]
        have i1 : Inv (g0.more st.objs.length w0.heap.size (0, 0)) (tk b fr.base st.next) (addObj st (.loop rec)) w1 := by
          rw [hw1]
          refine i0.newObj (.loop rec) (.loop L) (0, 0) ⟨fun off hp => ?_, fn, a.tmps, w.heap.size, ?_, ?_⟩ ?_
          · rw [hphi] at hp
            have := i0.protEx _ off hp
            omega
          · rw [hphi, World.alloc_heap_new, hL, hrec]
          · rw [hrec, ← hw1]; exact keepT_rel hs1.1
          · intro z hz
            rw [hrec] at hz
            rcases keepT_mem hz with rfl | hz
            · rfl
            · exact belowPV.mono (fun _ h => h) (by omega) (hc.slots.2 z hz)
        obtain ⟨g1, hg1⟩ : ∃ g1, g1 = g0.more st.objs.length w0.heap.size (0, 0) := ⟨_, rfl⟩
        rw [← hg1] at i1 e1 hs1 hphi
        have e01 := e0.trans e1
        have hcr : All2 (RelPV g1 w1) (ptrsOf caps) (caps.map (ptrV g)) := by
          have : caps.map (ptrV g) = caps.map (ptrV g1) := List.map_congr_left fun q hq => (ptrV_ext e01 (hcb q hq)).symm
          rw [this]
          exact ptrsOf_rel caps
        have hl1 : (addObj st (.loop rec)).objs.length = st.objs.length + 1 := by simp [addObj]
        have hy : RelPV g1 w1 (.c (.yield st.objs.length)) (.func (.yield w0.heap.size) #[] #[]) := by
          show _ = _
          rw [hphi]
        obtain ⟨hbody, hcall⟩ := hrn R (.fn f) _ _ _ r h g1 (tk b fr.base st.next) w1 (.func (.yield w0.heap.size) #[] #[] :: caps.map (ptrV g)) ⟨hy, hcr⟩ (fun z hz => by
          rw [hl1]
          rcases List.mem_cons.1 hz with rfl | hz
          · simp [belowPV, belowC]
          · exact ptrsOf_below (fun q hq => by have := hcb q hq; omega) z hz) i1 hlt
        cases hf : P.funcs[f]? with
        | none => rw [hf] at hbody; cases hbody
        | some fd =>
          rw [hf] at hbody
          have henter := callFunc_enter (w := w1) hP hf hbody (.func (.yield w0.heap.size) #[] #[] :: caps.map (ptrV g)).toArray
          have hrun := run_enterLoop_outer (P := P) (w := w) fn a.tmps ps assign body
          rw [← hw0, ← hL, ← hw1, ← hs0] at hrun
          refine ⟨w0.heap.size, _, w1, { target := .fn (.func f) (caps.map (ptrV g)).toArray, args := #[] ++ #[.func (.yield w0.heap.size) #[] #[]] }, w1, f, _, w1, hrun, ?_, fun _ _ => FW_fn _ _, ?_, (fun h => by cases h), (hcall (n - 1)).mono ?_⟩
          · simp only [resolve, hev, Deferred.ofValue, Sem.run_bind, Sem.run_pure, Result.andThen_ok]
            simp [Act.eval]
          · simp only [invoke]
            rw [show (#[] ++ #[Value.func (.yield w0.heap.size) #[] #[]] ++ (caps.map (ptrV g)).toArray) = (Value.func (.yield w0.heap.size) #[] #[] :: caps.map (ptrV g)).toArray by apply Array.toList_inj.1; simp]
            exact henter
          · rintro e w2 ⟨v, pv, st2, g2, rfl, hK, -, -, i2, e2, n2, o2⟩
            simp only [addObj] at n2
            rw [hl1] at o2
            have e02 : Ext (tk b fr.base st.next) st.objs.length g w g2 w2 := e01.trans (e2.weaken (fun _ h => h) (by rw [hl1]; omega))
            dsimp only at hK
            split at hK
            · rename_i r2 ho2
              split at hK
              · cases hK
              · rename_i hbusy
                have hlt2 := (List.getElem?_eq_some_iff.1 ho2).1
                obtain ⟨hnp, fid2, tm2, D2, hh2, hr2⟩ := i2.objs _ _ ho2
                have hphi2 : g2.phi st.objs.length = w0.heap.size := by rw [e2.phi _ (by rw [hl1]; omega), hphi]
                rw [hphi2] at hh2
                have hend := run_endLoop (P := P) hh2 hbusy
                obtain ⟨w3, hw3⟩ : ∃ w3, w3 = w2.putObj w0.heap.size (.loop { state := .exhausted, pending := r2.pending, fn := fid2, tmps := tm2, params := r2.params.toArray, assign := r2.assign, body := r2.body, defers := D2 }) := ⟨_, rfl⟩
                obtain ⟨i3, e3⟩ := i2.putObj (w' := w3) (x := .loop { r2 with state := .exhausted }) ⟨_, ho2, trivial⟩ (by rw [hw3]; rfl) (by rw [hw3]; rfl) (by rw [hw3]; rfl) (by rw [hw3]; simp)
                  (fun k hk => by rw [hw3]; exact World.putObj_heap_other (by rw [← hphi2]; exact hk))
                  ⟨hnp, fid2, tm2, D2, by rw [hw3, hphi2]; exact World.putObj_heap_same (block_lt hh2),
                    All2.mono_mem (fun z hz v hr => RelPV.mono (Ext.putObj i2 ⟨_, ho2, trivial⟩ hnp (by rw [hw3]; rfl) (by rw [hw3]; rfl) (by rw [hw3]; rfl) (by rw [hw3]; simp) (fun k hk => by rw [hw3]; exact World.putObj_heap_other (by rw [← hphi2]; exact hk))) (i2.below _ _ ho2 z hz) hr) hr2⟩
                  (fun z hz => i2.below _ _ ho2 z hz) hnp
                have e03 : Ext (tk b fr.base st.next) st.objs.length g w g2 w3 := e02.trans (e3.weaken (fun t h => by simp only [Bool.or_eq_true]; exact .inl h) (by omega))
                have hD : g2.hid w.heap.size := by
                  have q0 : g0.hid w.heap.size := by rw [hg0]; exact .inr rfl
                  exact e2.hid _ (e1.hid _ q0)
                have hD0 : w3.heap[w.heap.size]? = some (.deferred (some [])) := by
                  have q0 : g0.hid w.heap.size := by rw [hg0]; exact .inr rfl
                  have q1 := e1.hid _ q0
                  rw [e3.hidden _ hD, e2.hidden _ q1, e1.hidden _ q0, hw0]
                  exact World.alloc_heap_new _ _
                have hc3 : CSt b h0 fr (setObj st2 st.objs.length (.loop { r2 with state := .exhausted })) g2 w3 { a with defers := [{ target := .collected w.heap.size, args := #[] }] ++ a.defers } :=
                  { slots := hc.slots.step e03 (fun t ht => tk_mono n2 ht) (by simp [setObj]; omega)
                    inv := i3.mono_b fun t ht => by
                      simp only [Bool.or_eq_true, Bool.and_eq_true, decide_eq_true_eq, addObj] at ht
                      rcases ht with ht | ht
                      · exact tk_mono n2 ht
                      · have q0 := hc.next
                        obtain ⟨q1, q2⟩ := ht
                        have q1 : st.next ≤ t := of_decide_eq_true q1
                        rw [tk_iff]; right
                        exact ⟨Nat.le_trans q0 q1, q2⟩
                    next := by have := hc.next; show fr.base ≤ st2.next; omega
                    objs := by have := hc.objs; simp [setObj]; omega
                    old := fun k hk => e03.hid k (hc.old k hk)
                    defs := fun _ => by
                      obtain ⟨Ds, d1, d2, d3⟩ := (hc.defs hrd').step e03
                      obtain ⟨Ds', d1', d2', d3'⟩ := hc.defs hrd'
                      have hDs : Ds = Ds' := by
                        have := d1.symm.trans d1'
                        exact List.map_inj_right (by intro x y h; cases h; rfl) |>.1 this
                      subst hDs
                      refine ⟨w.heap.size :: Ds, by simp [d1], List.nodup_cons.2 ⟨fun q => ?_, d2⟩, fun D hDm => ?_⟩
                      · have := hc.inv.hidLt _ (d3' _ q).1
                        omega
                      · rcases List.mem_cons.1 hDm with rfl | hDm
                        · exact ⟨hD, fun q => by have := hc.inv.hidLt _ (hc.old _ q); omega, hD0⟩
                        · exact d3 D hDm }
                have eb : Ext b fr.obase g w g2 w3 := e03.weaken (fun t h => tk_of h) hc.objs
                refine ⟨r2.pending, w3, by rw [hw3]; exact hend, ?_⟩
                split at hK
                · rename_i hp
                  rw [hp]
                  exact hQ .normal fr _ g2 w3 _ hK hc3 eb ⟨rfl, rfl, rfl, rfl⟩
                · rename_i hp
                  rw [hp]
                  exact wpIn_ret (hQ .ret fr _ g2 w3 _ hK hc3 eb ⟨rfl, rfl, rfl, rfl⟩)
                · rename_i id hp
                  rw [hp]
                  exact wpIn_exit (hQ (.exit id) fr _ g2 w3 _ hK hc3 eb ⟨rfl, rfl, rfl, rfl⟩)
                · cases hK
            · cases hK
  · cases h

theorem codeK_sound (hlp : cfg.lp = none) (hP : ProgOk P) (hrn : RunOk P rn) (hnat : RunNat rn) {R : Type} {r : R} {n N : Nat} {h0 : Nat → Prop} : ∀ (c : Code) {K : Ex → Fr → St → Option R} {p : Nat} {fr : Fr} {st : St} {g : Gh} {w : World} {a : Act} {ro : Option Nat} {Q : Exit → Act → World → Prop},
    codeK P cfg rn N c p fr st K = some r → (∀ t, b t = true → t < fr.base) → CSt b h0 fr st g w a → (fr.round = none → ro = none) → Meets K r b h0 fr g w Q → c.wpIn (FW ro) n P Q a w
  | .skip, K, p, fr, st, g, w, a, ro, Q, h, hb, hc, hro, hQ => wpIn_skip (hQ .normal fr st g w a h hc (Ext.refl _ _ _ _) ⟨rfl, rfl, rfl, rfl⟩)
  | .label _, K, p, fr, st, g, w, a, ro, Q, h, hb, hc, hro, hQ => wpIn_label (hQ .normal fr st g w a h hc (Ext.refl _ _ _ _) ⟨rfl, rfl, rfl, rfl⟩)
  | .exit id, K, p, fr, st, g, w, a, ro, Q, h, hb, hc, hro, hQ => wpIn_exit (hQ (.exit id) fr st g w a h hc (Ext.refl _ _ _ _) ⟨rfl, rfl, rfl, rfl⟩)
  | .ret, K, p, fr, st, g, w, a, ro, Q, h, hb, hc, hro, hQ => wpIn_ret (hQ .ret fr st g w a h hc (Ext.refl _ _ _ _) ⟨rfl, rfl, rfl, rfl⟩)
  | .region id ops draw, K, p, fr, st, g, w, a, ro, Q, h, hb, hc, hro, hQ => by
    simp only [codeK] at h
    refine regionK_sound hP hrn hnat h (hc.lt hb) hc.slots hc.inv fun a' w' hp => ?_
    obtain ⟨fr', st', g', h1, h2, h3, h4, h5, h6, h7, h8⟩ := hp
    exact hQ .normal fr' st' g' w' a' h1 (hc.region h2 h3 h4 h5 h6 (by omega) h8) (h4.weaken (fun t h => tk_of h) hc.objs) h5
  | .seq x y, K, p, fr, st, g, w, a, ro, Q, h, hb, hc, hro, hQ => by
    simp only [codeK, hlp] at h
    split at h
    · obtain ⟨fr0, st0, g0, q0, s0, i0, e0, f0, n0, o0⟩ := normK_ok h hb hc.next hc.objs hc.slots hc.inv
      have hc0 : CSt b h0 fr0 st0 g0 w a :=
        { slots := by rw [f0.2.1]; exact s0
          inv := by rw [f0.2.1]; exact i0
          next := by rw [f0.2.1]; exact n0
          objs := by rw [f0.2.2.1]; exact o0
          old := fun k hk => e0.hid k (hc.old k hk)
          defs := fun q => (hc.defs (f0.2.2.2 ▸ q)).step e0 }
      have hQ0 := hQ.next e0 f0
      refine wpIn_seq (codeK_sound hlp hP hrn hnat x q0 (by rw [f0.2.1]; exact hb) hc0 (by rw [f0.2.2.2]; exact hro) fun ex fr' st' g' w' a' k1 k2 k3 k4 => ?_)
      have hf4 := f0.trans k4
      obtain ⟨fr3, st3, g3, q1, s3, i3, e3, f3, n3, o3⟩ := normK_ok k1 (by rw [hf4.2.1]; exact hb) k2.next k2.objs k2.slots k2.inv
      have hc3 : CSt b h0 fr3 st3 g3 w' a' :=
        { slots := by rw [f3.2.1]; exact s3
          inv := by rw [f3.2.1]; exact i3
          next := by rw [f3.2.1]; exact n3
          objs := by rw [f3.2.2.1]; exact o3
          old := fun k hk => e3.hid k (k2.old k hk)
          defs := fun q => (k2.defs (f3.2.2.2 ▸ q)).step e3 }
      have hQ3 := hQ0.next k3 k4
      have hf43 := hf4.trans f3
      cases ex with
      | normal => exact codeK_sound hlp hP hrn hnat y q1 (by rw [hf43.2.1]; exact hb) hc3 (by rw [hf43.2.2.2]; exact hro) (hQ3.next e3 f3)
      | exit id => exact hQ3 (.exit id) fr3 st3 g3 w' a' q1 hc3 e3 f3
      | ret => exact hQ3 .ret fr3 st3 g3 w' a' q1 hc3 e3 f3
    · refine wpIn_seq (codeK_sound hlp hP hrn hnat x h hb hc hro fun ex fr' st' g' w' a' h1 h2 h3 h4 => ?_)
      cases ex with
      | normal => exact codeK_sound hlp hP hrn hnat y h1 (by rw [h4.2.1]; exact hb) h2 (by rw [h4.2.2.2]; exact hro) (hQ.next h3 h4)
      | exit id => exact hQ (.exit id) fr' st' g' w' a' h1 h2 h3 h4
      | ret => exact hQ .ret fr' st' g' w' a' h1 h2 h3 h4
  | .cond x y z, K, p, fr, st, g, w, a, ro, Q, h, hb, hc, hro, hQ => by
    simp only [codeK] at h
    split at h
    · rename_i t hx
      have ex := evalO_rel hc.slots x
      rw [hx] at ex
      have hev : a.eval x = .bool t := ex.1
      refine wpIn_cond hev ?_
      cases t with
      | true => exact codeK_sound hlp hP hrn hnat y (by simpa using h) hb hc hro hQ
      | false => exact codeK_sound hlp hP hrn hnat z (by simpa using h) hb hc hro hQ
    · cases h
  | .block id x, K, p, fr, st, g, w, a, ro, Q, h, hb, hc, hro, hQ => by
    simp only [codeK] at h
    refine wpIn_block (codeK_sound hlp hP hrn hnat x h hb hc hro fun ex fr' st' g' w' a' h1 h2 h3 h4 => ?_)
    cases ex with
    | normal => exact hQ .normal fr' st' g' w' a' h1 h2 h3 h4
    | exit id' =>
      simp only at h1
      show (if id' = id then _ else _)
      split at h1
      · rename_i e; rw [if_pos e]; exact hQ .normal fr' st' g' w' a' h1 h2 h3 h4
      · rename_i e; rw [if_neg e]; exact hQ (.exit id') fr' st' g' w' a' h1 h2 h3 h4
    | ret => exact hQ .ret fr' st' g' w' a' h1 h2 h3 h4
  | .loop x, K, p, fr, st, g, w, a, ro, Q, h, hb, hc, hro, hQ => by
    simp only [codeK, hlp] at h
    obtain ⟨fr0, st0, g0, q0, s0, i0, e0, f0, n0, o0⟩ := normK_ok h hb hc.next hc.objs hc.slots hc.inv
    have hc0 : CSt b h0 fr0 st0 g0 w a :=
      { slots := by rw [f0.2.1]; exact s0
        inv := by rw [f0.2.1]; exact i0
        next := by rw [f0.2.1]; exact n0
        objs := by rw [f0.2.2.1]; exact o0
        old := fun k hk => e0.hid k (hc.old k hk)
        defs := fun q => (hc.defs (f0.2.2.2 ▸ q)).step e0 }
    refine wpIn_loop_nat (fun j a w => ∃ fr' st' g', loopK (fun fr st K' => codeK P cfg rn N x (2 * p) fr st fun e fr st => normK cfg p e.tag fr st (K' e)) K j fr' st' = some r ∧ CSt b h0 fr' st' g' w a ∧ SameFr fr fr' ∧ Meets K r b h0 fr' g' w Q) N
      ⟨fr0, st0, g0, q0, hc0, f0, hQ.next e0 f0⟩ ?_
    rintro j a1 w1 ⟨fr1, st1, g1, h1, hc1, hf1, hQ1⟩
    cases j with
    | zero => simp [loopK] at h1
    | succ j =>
      simp only [loopK] at h1
      refine codeK_sound hlp hP hrn hnat x h1 (by rw [hf1.2.1]; exact hb) hc1 (by rw [hf1.2.2.2]; exact hro) fun ex fr' st' g' w' a' k1 k2 k3 k4 => ?_
      have hf14 := hf1.trans k4
      obtain ⟨fr3, st3, g3, q1, s3, i3, e3, f3, n3, o3⟩ := normK_ok k1 (by rw [hf14.2.1]; exact hb) k2.next k2.objs k2.slots k2.inv
      have hc3 : CSt b h0 fr3 st3 g3 w' a' :=
        { slots := by rw [f3.2.1]; exact s3
          inv := by rw [f3.2.1]; exact i3
          next := by rw [f3.2.1]; exact n3
          objs := by rw [f3.2.2.1]; exact o3
          old := fun k hk => e3.hid k (k2.old k hk)
          defs := fun q => (k2.defs (f3.2.2.2 ▸ q)).step e3 }
      have hQ3 := hQ1.next k3 k4
      cases ex with
      | normal => exact ⟨j, Nat.lt_succ_self j, fr3, st3, g3, q1, hc3, hf14.trans f3, hQ3.next e3 f3⟩
      | exit id => exact hQ3 (.exit id) fr3 st3 g3 w' a' q1 hc3 e3 f3
      | ret => exact hQ3 .ret fr3 st3 g3 w' a' q1 hc3 e3 f3
  | .rangeFunc x ps assign body, K, p, fr, st, g, w, a, ro, Q, h, hb, hc, hro, hQ => rangeFunc_sound hP hrn h hb hc hro hQ
  | .goto _, K, p, fr, st, g, w, a, ro, Q, h, hb, hc, hro, hQ => by simp [codeK] at h
  | .scope x, K, p, fr, st, g, w, a, ro, Q, h, hb, hc, hro, hQ => by
    simp only [codeK] at h
    refine wpIn_scope_straight (codeK_sound hlp hP hrn hnat x h hb hc hro fun ex fr' st' g' w' a' h1 h2 h3 h4 => ?_)
    have := hQ ex fr' st' g' w' a' h1 h2 h3 h4
    cases ex <;> exact this
  | .refuse _, K, p, fr, st, g, w, a, ro, Q, h, hb, hc, hro, hQ => by simp [codeK] at h

end Go.Proofs.YthhllkiefncbnaaDoorSim
