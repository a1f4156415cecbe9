/- Any operation, with calls; regions. -/
import Derived.Test.YthhllkiefncbnaaDoorSimQ
namespace Go.Proofs.YthhllkiefncbnaaDoorSim
open Go
set_option linter.unusedVariables false
set_option linter.unusedSimpArgs false

variable {P : Program} {cfg : Cfg} {rn : Run} {g g' : Gh} {w w' : World} {st st' : St} {b : Nat → Bool} {m : Nat}

theorem uponIn_enter_ok {o : Oper} {a : Act} {ro : Option Nat} {n : Nat} {next : Act → World → Prop} {Q : Exit → Act → World → Prop} {f : FuncId} {args : Array Value} (hd : ∀ c, o.op ≠ .defer c)
    (h : (execOp a.eval o).run P w = .ok (.enter f args) w) {R : Ending → World → Prop} (hc : ∀ n, CallsIn (FW none) n P f args w R) (hR : ∀ e w', R e w' → ∃ v, e = .returned v ∧ next (a.put o.dst v) w') : o.wpIn (FW ro) n P a w next Q := by
  refine ⟨fun f _ => FW_fn ro f, ?_⟩
  rw [Oper.semAt_eq _ _ _ hd, h]
  refine ⟨(fun h => by cases h), ?_⟩
  have h1 : CallsIn (FW ro) (n - 1) P f args w R := hc (n - 1)
  refine h1.mono fun e w' hr => ?_
  obtain ⟨v, rfl, hv⟩ := hR e w' hr
  exact hv

theorem uponIn_round_ok {o : Oper} {a : Act} {ro : Option Nat} {n : Nat} {next : Act → World → Prop} {Q : Exit → Act → World → Prop} {l : Nat} {f : FuncId} {tmps : Array Value} {assign body : Code} (hd : ∀ c, o.op ≠ .defer c)
    (h : (execOp a.eval o).run P w = .ok (.round l f tmps assign body) w) {R : Ending → World → Prop} (hc : ∀ n, RoundIn (FW none) n P l f tmps assign body w R) (hR : ∀ e w', R e w' → ∃ v, e = .returned v ∧ next (a.put o.dst v) w') : o.wpIn (FW ro) n P a w next Q := by
  refine ⟨fun f _ => FW_fn ro f, ?_⟩
  rw [Oper.semAt_eq _ _ _ hd, h]
  refine ⟨(fun h => by cases h), ?_⟩
  have h1 : RoundIn (FW ro) (n - 1) P l f tmps assign body w R := hc (n - 1)
  refine h1.mono fun e w' hr => ?_
  obtain ⟨v, rfl, hv⟩ := hR e w' hr
  exact hv

theorem ptrsOf_rel : ∀ (l : List (Nat × Nat)), All2 (RelPV g w) (ptrsOf l) (l.map (ptrV g))
  | [] => trivial
  | p :: l => ⟨by obtain ⟨o, off⟩ := p; exact rfl, ptrsOf_rel l⟩

theorem ptrsOf_below {l : List (Nat × Nat)} (h : ∀ p ∈ l, p.1 < m) : ∀ x ∈ ptrsOf l, belowPV b m x = true := fun x hx => by
  unfold ptrsOf at hx
  rw [List.mem_map] at hx
  obtain ⟨p, hp, rfl⟩ := hx
  simpa [belowPV, belowC] using h p hp

theorem opK_sound (hP : ProgOk P) (hrn : RunOk P rn) {R : Type} {K : Fr → St → Option R} {r : R} {o : Oper} {c : Nat} {fr : Fr} {a : Act} {ro : Option Nat} {n : Nat} {next : Act → World → Prop} {Q : Exit → Act → World → Prop}
    (h : opK P cfg rn o c fr st K = some r) (hs : RelSlots g w b st.objs.length fr.tmps a.tmps) (hi : Inv g b st w) (hc : b c = false) (hlt : ∀ t, b t = true → t < st.next) (hn : Leads K r o c fr a b st g w next) : o.wpIn (FW ro) n P a w next Q := by
  have E := fun x => evalO_rel hs x
  have hcall : ∀ v pv st' g' w', K (fr.put o.dst pv) st' = some r → RelPV g' w' pv v → belowPV (fun t => (b t || t == c) || (decide (st.next ≤ t) && decide (t < st'.next))) st'.objs.length pv = true →
      Inv g' (fun t => (b t || t == c) || (decide (st.next ≤ t) && decide (t < st'.next))) st' w' → Ext b st.objs.length g w g' w' → st.next ≤ st'.next → st.objs.length ≤ st'.objs.length → next (a.put o.dst v) w' := fun v pv st' g' w' h1 h2 h3 h4 h5 h6 h7 => by
    have hm : ∀ t, ((b t || t == c) || (decide (st.next ≤ t) && decide (t < st'.next))) = true → opB b c st st' t = true := fun t h => h
    exact hn v pv st' g' w' h1 h2 (belowPV.mono hm (Nat.le_refl _) h3) (h4.mono_b hm) h5 h6 h7
  have here : ∀ v pv, K (fr.put o.dst pv) st = some r → RelPV g w pv v → belowPV b st.objs.length pv = true → next (a.put o.dst v) w := fun v pv h1 h2 h3 =>
    hn v pv st g w h1 h2 (belowPV.mono (fun t h => opB_of h) (Nat.le_refl _) h3) (hi.mono_b fun t h => opB_of h) (Ext.refl _ _ _ _) (Nat.le_refl _) (Nat.le_refl _)
  unfold opK at h
  split at h
  · rename_i x y z hop
    split at h
    · rename_i t hx
      have ex := E x
      rw [hx] at ex
      have hrun : ∀ q, t = q → (execOp a.eval o).run P w = .ok (.value (if q then a.eval y else a.eval z)) w := fun q e => by
        subst e
        unfold execOp
        rw [hop]
        simp [show a.eval x = .bool t from ex.1, asBool]
      split at h
      · rename_i ht
        exact wpIn_value (by rw [hop]; simp) (hrun true ht) rfl (here _ _ h (E y).1 (E y).2)
      · rename_i ht
        exact wpIn_value (by rw [hop]; simp) (hrun false (by simpa using ht)) rfl (here _ _ h (E z).1 (E z).2)
    · cases h
  · rename_i it hop
    split at h
    · rename_i l off hx
      split at h
      · cases h
      · rename_i h0
        have h0 : off = 0 := Classical.byContradiction h0
        subst h0
        have ex := E it
        rw [hx] at ex
        split at h
        · rename_i s pos ho
          have holt := (List.getElem?_eq_some_iff.1 ho).1
          obtain ⟨hnp, s', hh, hbl, hsz⟩ := hi.objs l _ ho
          subst hbl
          have hev : a.eval it = .pointer (some ⟨g.phi l, 0, none⟩) := ex.1
          have hget : (getObj (g.phi l)).run P w = .ok (.stringIter s' pos) w := by simp [getObj, Sem.run, hh]
          rw [bl_length] at h
          split at h
          · rename_i hlt'
            obtain ⟨W, hW⟩ : ∃ W, W = w.putObj (g.phi l) (.stringIter s' (pos + (decRune (bl s') pos).2)) := ⟨_, rfl⟩
            have hdec : Utf8.decode s' pos = decRune (bl s') pos := by unfold decRune; rw [toBA_bl]
            have hset : (Go.setObj (g.phi l) (.stringIter s' (pos + (decRune (bl s') pos).2))).run P w = .ok () W := by simp [Go.setObj, Sem.run, hh, hW, World.putObj]
            have hrun : (execOp a.eval o).run P w = .ok (.value (.tuple #[.bool true, .int .i64 pos, .int .i32 (decRune (bl s') pos).1])) W := by
              unfold execOp
              rw [hop]
              simp only [Instr.next, hev, Sem.run_bind, hget, Result.andThen_ok]
              rw [if_pos hlt', hdec]
              simp only [Sem.run_bind, hset, Result.andThen_ok, Sem.run_pure, goInt]
            obtain ⟨i1, e1⟩ := hi.putObj (w' := W) (x := .siter (bl s') (pos + (decRune (bl s') pos).2)) ⟨_, ho, trivial⟩ (by rw [hW]; rfl) (by rw [hW]; rfl) (by rw [hW]; rfl) (by rw [hW]; simp)
              (fun k hk => by rw [hW]; exact World.putObj_heap_other hk) ⟨hnp, s', by rw [hW]; exact World.putObj_heap_same (block_lt hh), rfl, hsz⟩ trivial hnp
            have wfl : wf .i64 (pos : Int) := by
              have e1 : IntKind.i64.min = -9223372036854775808 := by decide
              have e2 : IntKind.i64.max = 9223372036854775807 := by decide
              unfold maxL at hsz
              exact ⟨by rw [e1]; omega, by rw [e2]; omega⟩
            refine wpIn_value (by rw [hop]; simp) hrun rfl (hn _ _ _ g W h ⟨[_, _, _], rfl, rfl, ⟨rfl, wfl⟩, ⟨rfl, decRune_wf _ _⟩, trivial⟩ (by simp [belowPV, partCells, belowC]) (i1.mono_b fun t h => opB_of h) e1 (Nat.le_refl _) (by simp [setObj]))
          · rename_i hge
            have hrun : (execOp a.eval o).run P w = .ok (.value (.tuple #[.bool false])) w := by
              unfold execOp
              rw [hop]
              simp only [Instr.next, hev, Sem.run_bind, hget, Result.andThen_ok]
              rw [if_neg hge]
              rfl
            exact wpIn_value (by rw [hop]; simp) hrun rfl (here _ _ h ⟨[_], rfl, rfl, trivial⟩ rfl)
        · cases h
    · cases h
  · rename_i f args ats hop
    have hargs := rel_map hs args.toList
    have hmap : (args.toList.map a.eval).toArray = args.map a.eval := by apply Array.toList_inj.1; simp
    split at h
    · rename_i q caps hx
      have ex := E f
      rw [hx] at ex
      have hev : a.eval f = .func (.func q) #[] (caps.map (ptrV g)).toArray := ex.1
      have hcb : ∀ p ∈ caps, p.1 < st.objs.length := by simpa [belowPV, belowC] using ex.2
      have hexec : ∀ nx, (callFunc q (args.toList.map a.eval ++ caps.map (ptrV g)).toArray).run P w = .ok nx w → (execOp a.eval o).run P w = .ok nx w := fun nx hq => by
        unfold execOp
        rw [hop]
        simp only [resolve, hev, Deferred.ofValue, Sem.run_bind, Sem.run_pure, Result.andThen_ok, invoke]
        rw [show (#[] ++ args.map a.eval ++ (caps.map (ptrV g)).toArray) = (args.toList.map a.eval ++ caps.map (ptrV g)).toArray by apply Array.toList_inj.1; simp]
        exact hq
      rcases callC_ok hP hrn h (hargs.1.append (ptrsOf_rel caps)) (fun y hy => by
        rcases List.mem_append.1 hy with hy | hy
        · exact hargs.2 y hy
        · exact ptrsOf_below hcb y hy) hi hlt hc with ⟨u, pv, h1, h2, h3, h4⟩ | ⟨h1, h2⟩
      · exact wpIn_value (by rw [hop]; simp) (hexec _ h1) rfl (here u pv h4 h2 h3)
      · refine uponIn_enter_ok (by rw [hop]; simp) (hexec _ h1) h2 ?_
        rintro e w' ⟨v, pv, st', g', rfl, h3, h4, h5, h6, h7, h8, h9⟩
        exact ⟨v, rfl, hcall v pv st' g' w' h3 h4 h5 h6 h7 h8 h9⟩
    · rename_i l hx
      have ex := E f
      rw [hx] at ex
      have hev : a.eval f = .func (.yield (g.phi l)) #[] #[] := ex.1
      obtain ⟨fn, tmps, assign, body, hy, hround⟩ := hrn R (.round l) _ st _ r h g b w _ hargs.1 hargs.2 hi hlt
      have hexec : (execOp a.eval o).run P w = .ok (.round (g.phi l) fn tmps assign body) w := by
        unfold execOp
        rw [hop]
        simp only [resolve, hev, Deferred.ofValue, Sem.run_bind, Sem.run_pure, Result.andThen_ok, invoke]
        rw [show (#[] ++ args.map a.eval) = (args.toList.map a.eval).toArray by apply Array.toList_inj.1; simp]
        exact hy
      refine uponIn_round_ok (by rw [hop]; simp) hexec (fun n => (hround n).mono fun e w' h => h.mono_b (b2' := fun t => b t || t == c) fun t h => by simp [h]) ?_
      rintro e w' ⟨v, pv, st', g', rfl, h3, h4, h5, h6, h7, h8, h9⟩
      exact ⟨v, rfl, hcall v pv st' g' w' h3 h4 h5 h6 h7 h8 h9⟩
    · cases h
  · by_cases hd : ∃ cc, o.op = .defer cc
    · obtain ⟨cc, hd⟩ := hd
      rw [hd] at h
      simp [stepK, valA, valW] at h
    · exact step_sound h (fun cc q => hd ⟨cc, q⟩) hs hi hc hn valW_next

end Go.Proofs.YthhllkiefncbnaaDoorSim
