/- Any call; any operation; any region. -/
import Derived.Test.YthhllkiefncbnaaDoorSimP
namespace Go.Proofs.YthhllkiefncbnaaDoorSim
open Go
set_option linter.unusedVariables false
set_option linter.unusedSimpArgs false

variable {P : Program} {cfg : Cfg} {rn : Run} {g g' : Gh} {w w' : World} {st st' : St} {b : Nat → Bool} {m : Nat}

theorem encRes_below {f : Nat} {cs : List C} (h : ∀ x ∈ cs, belowC b m x = true) : belowPV b m (encRes P f cs) = true := by
  have hd : belowC b m (cs.headD .nilptr) = true := by
    cases cs with
    | nil => rfl
    | cons c cs => exact h c (by simp)
  have hsp : ∀ (l : List (Ty × Bool)) (cs : List C), (∀ x ∈ cs, belowC b m x = true) → ∀ p ∈ splitParts l cs, ∀ x ∈ partCells p, belowC b m x = true := by
    intro l
    induction l with
    | nil => intro cs _ p hp; simp [splitParts] at hp
    | cons q l ih =>
      intro cs hcs p hp x hx
      obtain ⟨τ, ag⟩ := q
      simp only [splitParts, List.mem_cons] at hp
      rcases hp with rfl | hp
      · cases ag with
        | true => exact hcs x (List.mem_of_mem_take (by simpa [partCells] using hx))
        | false =>
          simp [partCells] at hx
          subst hx
          cases cs with
          | nil => rfl
          | cons c cs => exact hcs c (by simp)
      · exact ih _ (fun y hy => hcs y (List.mem_of_mem_drop hy)) p hp x hx
  unfold encRes
  split
  · rename_i ag _
    cases ag with
    | true => exact belowPV_agg h
    | false => exact hd
  · simp only [belowPV, List.all_eq_true]
    exact fun p hp x hx => hsp _ _ h p hp x hx
  · rfl

/-- A call in a world of its own. -/
theorem pcall_ok (hrn : RunOk P rn) {f : Nat} {args : List PV} {vals : List Value} {x : (RTy P f).den} {c : Nat} (hcb : b c = false) (h : pcall P rn f args = some x) (hr : All2 (RelPV g w) args vals) (hb : ∀ y ∈ args, belowPV (fun _ => false) 0 y = true)
    (hi : Inv g b st w) (n : Nat) : (P.funcs[f]?.bind (·.body)).isSome = true ∧ CallsIn (FW none) n P f vals.toArray w fun e w' => ∃ v g', e = .returned v ∧ RelPV g' w' (retPV P f x c st).1 v ∧ Inv g' (fun t => b t || t == c) (retPV P f x c st).2 w' ∧ Ext b st.objs.length g w g' w' := by
  unfold pcall at h
  have hin := inner_inv hi
  obtain ⟨hbody, hc⟩ := hrn _ (.fn f) args .empty _ x h (g.inner st.objs) (fun _ => false) w vals (All2.mono_mem (R := RelPV g w) (S := RelPV (g.inner st.objs) w) (fun y hy v h => RelPV.plain (g := g) (g' := g.inner st.objs) (hb y hy) rfl h) hr) hb hin (fun t h => by cases h)
  refine ⟨hbody, (hc n).mono ?_⟩
  rintro e w' ⟨v, pv, st2, g2, rfl, hdec, hrel, hbel, hinv, hext, _, _⟩
  unfold decRes at hdec
  dsimp only at hdec
  split at hdec
  · rename_i cs hcs
    have hshape' : (resShape P f pv && ownOk f pv st2) = true := Classical.byContradiction fun q => by rw [if_neg q] at hcs; cases hcs
    rw [if_pos hshape'] at hcs
    rw [Bool.and_eq_true] at hshape'
    obtain ⟨hshape, hown⟩ := hshape'
    split at hdec
    · rename_i l st3 hl
      split at hdec
      · rename_i y hy
        cases hdec
        obtain ⟨vs, h1, h2, h3⟩ := resCells_rel hcs hrel hbel
        obtain ⟨g3, r3, b3, i3, e3, l3, n3⟩ := settleCs_ok hinv hl h1 h2
        obtain ⟨v1, v2, ev, hxd, hnil⟩ := ofCells_rel (RTy P f) l x [] vs hy r3
        have hv2 : v2 = [] := by cases v2 with
          | nil => rfl
          | cons => exact hnil.elim
        subst hv2
        simp only [List.append_nil] at ev
        have e03 := hext.trans (e3.weaken (fun t h => by cases h) (Nat.zero_le _))
        obtain ⟨ib, eb⟩ := inner_back hi e03 i3.protEx
        have hxc := toCells_rel (g := { g with prot := g3.prot }) (RTy P f) x v1 hxd
        rw [← ev] at hxc
        have hfin := encRes_rel (g := g2) (w := w') (g' := { g with prot := g3.prot }) (w' := w') hshape hrel (by
          cases pv with
          | any => exact h3
          | rptr => exact h3
          | c y => exact h3
          | agg y => exact h3
          | tup ps => obtain ⟨us, e1, e2, e3⟩ := h3; exact ⟨us, e1, e2, e3⟩) hxc
        have hm : ∀ t, b t = true → (b t || t == c) = true := fun t h => by simp [h]
        unfold retPV
        split
        · rename_i hor
          unfold ownOk at hown
          simp only [hor, Bool.not_true, Bool.false_or] at hown
          have hsl : ∃ y, pv = .c y := by
            cases pv <;> first | exact ⟨_, rfl⟩ | cases hown
          obtain ⟨y, rfl⟩ := hsl
          have hvs : vs = [v] := h3
          have hrow : ∀ τ1, RTy P f = .slice τ1 → ∃ r : Row, v = r.v ∧ r.sz = τ1.size ∧ RowOk { g with prot := g3.prot } w' r ∧ (∀ t r' k, g.tok t = some r' → r'.block = some k → r.block = some k → False) ∧ ∀ o k, Sol st.objs o → r.block = some k → g.phi o ≠ k := fun τ1 e => by
            simp only [resCells, Option.some.injEq] at hcs
            subst hcs
            cases y with
            | nils =>
              have hv : v = .slice none 0 0 := hrel
              exact ⟨⟨v, τ1.size, 0⟩, rfl, rfl, .inl hv, fun t r' k _ _ h => by simp [Row.block, hv] at h, fun o k _ h => by simp [Row.block, hv] at h⟩
            | slice tk τ' l' =>
              cases tk with
              | ro => cases hown
              | own t =>
                have htl : t ∈ st2.live := by simpa using hown
                simp only [settleCs, settleC, Option.some.injEq, Prod.mk.injEq] at hl
                obtain ⟨rfl, rfl⟩ := hl
                have key : ∀ (τ : Ty) (y : τ.den), τ = .slice τ1 → ofCells τ [.slice .ro τ' l'] = some (y, []) → τ' = τ1 := fun τ y e hy => by
                  subst e
                  simp only [ofCells] at hy
                  split at hy
                  · rename_i q hq; obtain ⟨e, _⟩ := castL_eq hq; exact e
                  · cases hy
                have hτ : τ' = τ1 := key _ x e hy
                obtain ⟨r, hrt, hro⟩ := i3.toks t htl
                have htk : g2.tok t = some r := by
                  rcases e3.tok t (hinv.lt t htl) with q | q
                  · rw [← q]; exact hrt
                  · rw [q] at hrt; cases hrt
                obtain ⟨e1, e2⟩ := hrel.2 t r rfl htk
                have hnh : ∀ k, r.block = some k → ¬ (g.inner st.objs).hid k := fun k hk q => (hro.block_lt hk).2 (e03.hid k q)
                refine ⟨r, e1, by rw [e2, hτ], ?_, fun t' r' k h1 h2 h3 => hnh k h3 (.inr (.inr ⟨t', r', h1, h2⟩)), fun o k ho hk q => hnh k hk (.inr (.inl ⟨o, ho, q⟩))⟩
                rcases hro with q | ⟨bk, n, cap, cur, hv, a1, a2, a3, a4, a5, a6⟩
                · exact .inl q
                · exact .inr ⟨bk, n, cap, cur, hv, a1, a2, a3, a4, fun q => hnh bk (by simp [Row.block, hv]) (.inl q), a6⟩
            | _ => cases hown
          obtain ⟨g4, q1, q2, q3⟩ := retOwn_ok (c := c) (x := x) hcb ib hfin (fun τ1 x' e he => by
            have key : ∀ (τ : Ty) (y : τ.den) (x' : List τ1.den), τ = .slice τ1 → HEq y x' → All2 (RelC { g with prot := g3.prot } w') (toCells τ y) [v] → RelC { g with prot := g3.prot } w' (.slice .ro τ1 x') v := fun τ y x' e1 e2 h => by
              subst e1
              cases e2
              exact h.1
            exact key _ x x' e he (hvs ▸ hxc)) hrow
          exact ⟨v, g4, rfl, q1, q2, eb.trans q3⟩
        · exact ⟨v, _, rfl, hfin, ib.mono_b hm, eb⟩
      · cases hdec
    · cases hdec
  · cases hdec

theorem retPV_st {f : Nat} {x : (RTy P f).den} {c : Nat} : (retPV P f x c st).2.next = st.next ∧ (retPV P f x c st).2.objs = st.objs := by
  unfold retPV
  split
  · generalize hd : encRes P f (toCells (RTy P f) x) = d
    clear hd
    revert x
    generalize RTy P f = τ
    intro x
    cases τ <;> exact ⟨rfl, rfl⟩
  · exact ⟨rfl, rfl⟩

theorem retPV_below {f : Nat} {x : (RTy P f).den} {c : Nat} : belowPV (fun t => b t || t == c) m (retPV P f x c st).1 = true := by
  have hd : belowPV (fun t => b t || t == c) m (encRes P f (toCells (RTy P f) x)) = true := encRes_below fun y hy => toCells_below _ _ y hy
  unfold retPV
  split
  · revert hd
    generalize encRes P f (toCells (RTy P f) x) = d
    revert x
    generalize RTy P f = τ
    intro x hd
    cases τ <;> first | exact hd | simp [retOwn, belowPV, belowC]
  · exact hd

theorem callFunc_enter (hP : ProgOk P) {f : Nat} {fn : Func} (hf : P.funcs[f]? = some fn) (hb : fn.body.isSome = true) (args : Array Value) : (callFunc f args).run P w = .ok (.enter f args) w := by
  have hn := hP.names f fn hf
  have hb' : fn.body.isNone = false := by cases h : fn.body <;> simp_all
  unfold callFunc
  simp only [Sem.run_bind, run_program, Result.andThen_ok, hf, hn, hb', Bool.false_eq_true, if_false]
  rfl

/-- Any call: either a value at once, or a function that is entered. -/
theorem callC_ok (hP : ProgOk P) (hrn : RunOk P rn) {R : Type} {f : Nat} {args : List PV} {vals : List Value} {c : Nat} {K : PV → St → Option R} {r : R} (h : callC P rn f args st c K = some r)
    (hr : All2 (RelPV g w) args vals) (hb : ∀ y ∈ args, belowPV b st.objs.length y = true) (hi : Inv g b st w) (hlt : ∀ t, b t = true → t < st.next) (hcb : b c = false) :
    (∃ u pv, (callFunc f vals.toArray).run P w = .ok (.value u) w ∧ RelPV g w pv u ∧ belowPV b st.objs.length pv = true ∧ K pv st = some r) ∨
    ((callFunc f vals.toArray).run P w = .ok (.enter f vals.toArray) w ∧ ∀ n, CallsIn (FW none) n P f vals.toArray w (CallPost K r b (fun t => b t || t == c) st g w)) := by
  unfold callC at h
  split at h
  · rename_i k hk
    right
    unfold shelfC at h
    split at h
    · rename_i args' st' hs
      split at h
      · rename_i q v hv
        split at h
        · rename_i hq
          subst hq
          obtain ⟨g1, r1, b1, i1, e1, l1, n1⟩ := settlePVs_ok hi hs hr hb
          obtain ⟨hbv, hbody, hcl⟩ := hP.shelf f k args' v hk hv
          have hc := hcl g1 w vals r1
          cases hf : P.funcs[f]? with
          | none => rw [hf] at hbody; cases hbody
          | some fn =>
            rw [hf] at hbody
            refine ⟨callFunc_enter hP hf hbody _, fun n => ((callsIn_wide (n := n)).2 hc).mono ?_⟩
            rintro e w' ⟨u, pr, rfl, hB, hpr, hrel⟩
            have hlt : ∀ k off, g.prot k off → k < w.heap.size := hi.protEx
            obtain ⟨j1, j2⟩ := inner_back (g2 := { g.inner st.objs with prot := fun k off => g.prot k off ∨ pr k off }) hi
              { os := hB.os, tape := hB.tape, output := hB.output, size := hB.size, hid := fun _ h => h, hidden := fun k hk => hB.block k ((inner_inv hi).hidLt k hk),
                cells := fun k off hk => World.cell?_of_block (hB.block k (hlt k off hk)), prot := fun _ _ h => .inl h,
                newp := fun k off hk h => h.elim id fun q => absurd ((inner_inv hi).hidLt k hk) (by have := (hpr k off q).1; omega),
                phi := fun _ _ => rfl, mrow := fun _ _ => rfl, tok := fun _ h => by cases h }
              (fun k off h => h.elim (fun q => Nat.lt_of_lt_of_le (hlt k off q) hB.size) fun q => (hpr k off q).2)
            have hm : ∀ t, b t = true → (b t || t == c) = true := fun t h => by simp [h]
            have hm2 : ∀ t, b t = true → ((b t || t == c) || (decide (st.next ≤ t) && decide (t < st.next))) = true := fun t h => by simp [h]
            exact ⟨u, v, st, { g with prot := fun k off => g.prot k off ∨ pr k off }, rfl, h, hrel { g with prot := fun k off => g.prot k off ∨ pr k off } (fun k off h => .inr h), hbv _ _, j1.mono_b hm2, j2, Nat.le_refl _, Nat.le_refl _⟩
        · cases h
      · cases h
    · cases h
  split at h
  · rename_i name hname
    split at h
    · rename_i args' st' hs
      split at h
      · rename_i v hv
        left
        obtain ⟨g1, r1, b1, i1, e1, l1, n1⟩ := settlePVs_ok hi hs hr hb
        obtain ⟨u, hu, hru, hbu⟩ := hP.ext f name args' v hname hv g1 w vals r1
        exact ⟨u, v, hu, hru _ _, hbu _ _, h⟩
      · cases h
    · cases h
  · rename_i hname
    right
    have inline : ∀ r, rn R (.fn f) args st K = some r → (callFunc f vals.toArray).run P w = .ok (.enter f vals.toArray) w ∧ ∀ n, CallsIn (FW none) n P f vals.toArray w (CallPost K r b (fun t => b t || t == c) st g w) := fun r h => by
      obtain ⟨hbody, hc⟩ := hrn R (.fn f) args st K r h g b w vals hr hb hi hlt
      cases hf : P.funcs[f]? with
      | none => rw [hf] at hbody; cases hbody
      | some fn =>
        rw [hf] at hbody
        exact ⟨callFunc_enter hP hf hbody _, fun n => (hc n).mono fun e w' h => h.mono_b fun t h => by simp [h]⟩
    split at h
    · rename_i args' st' tys hs ht
      split at h
      · rename_i hall
        rw [Option.bind_eq_some_iff] at h
        obtain ⟨x, hx, hK⟩ := h
        obtain ⟨g1, r1, b1, i1, e1, l1, n1⟩ := settlePVs_ok hi hs hr hb
        simp only [List.all_eq_true] at hall
        have hpc := fun n => pcall_ok (c := c) hrn hcb hx r1 hall i1 n
        obtain ⟨hbody, _⟩ := hpc 0
        cases hf : P.funcs[f]? with
        | none => rw [hf] at hbody; cases hbody
        | some fn =>
          rw [hf] at hbody
          refine ⟨callFunc_enter hP hf hbody _, fun n => ((hpc n).2).mono ?_⟩
          rintro e w' ⟨v, g', rfl, h1, h2, h3⟩
          rw [l1] at h3
          obtain ⟨q1, q2⟩ := retPV_st (P := P) (f := f) (x := x) (c := c) (st := st')
          have hmono : ∀ t, (b t || t == c) = true → ((b t || t == c) || (decide (st.next ≤ t) && decide (t < (retPV P f x c st').2.next))) = true := fun t h => by rw [h]; rfl
          exact ⟨v, _, _, g', rfl, hK, h1, belowPV.mono hmono (Nat.le_refl _) retPV_below, h2.mono_b hmono, e1.trans h3, by omega, by rw [q2]; omega⟩
      · exact inline r h
    · exact inline r h


/-- The tokens behind an operation. -/
def opB (b : Nat → Bool) (c : Nat) (st st' : St) : Nat → Bool := fun t => (b t || t == c) || (decide (st.next ≤ t) && decide (t < st'.next))

theorem opB_of {c t : Nat} (h : b t = true) : opB b c st st' t = true := by simp [opB, h]

/-- The operation leads on. -/
def Leads {R : Type} (K : Fr → St → Option R) (r : R) (o : Oper) (c : Nat) (fr : Fr) (a : Act) (b : Nat → Bool) (st : St) (g : Gh) (w : World) (next : Act → World → Prop) : Prop :=
  ∀ (v : Value) (pv : PV) (st' : St) (g' : Gh) (w' : World), K (fr.put o.dst pv) st' = some r → RelPV g' w' pv v → belowPV (opB b c st st') st'.objs.length pv = true → Inv g' (opB b c st st') st' w' →
    Ext b st.objs.length g w g' w' → st.next ≤ st'.next → st.objs.length ≤ st'.objs.length → next (a.put o.dst v) w'

theorem wpIn_value {o : Oper} {a : Act} {ro : Option Nat} {n : Nat} {next : Act → World → Prop} {Q : Exit → Act → World → Prop} {nx : Next} {v : Value} (hd : ∀ c, o.op ≠ .defer c) (h : (execOp a.eval o).run P w = .ok nx w') (hv : nextVal nx = some v)
    (hn : next (a.put o.dst v) w') : o.wpIn (FW ro) n P a w next Q := by
  refine ⟨fun f _ => FW_fn ro f, ?_⟩
  rw [Oper.semAt_eq _ _ _ hd, h]
  cases nx <;> simp only [nextVal, Option.some.injEq, reduceCtorEq] at hv
  · subst hv; exact hn
  · subst hv; exact hn

theorem stepK_some {R : Type} {va : Option (Bool × PV)} {vw : Option (Bool × PV × St)} {K : PV → St → Option R} {r : R} (h : stepK va vw st K = some r) :
    (∃ v, va = some (true, v) ∧ K v st = some r) ∨ ∃ v st', vw = some (true, v, st') ∧ K v st' = some r := by
  unfold stepK at h
  split at h
  · rename_i q v
    cases q with
    | true => exact .inl ⟨v, rfl, by simpa using h⟩
    | false => simp at h
  · split at h
    · rename_i q v st'
      cases q with
      | true => exact .inr ⟨v, st', rfl, by simpa using h⟩
      | false => simp at h
    · cases h

theorem step_sound {R : Type} {K : Fr → St → Option R} {r : R} {o : Oper} {c : Nat} {fr : Fr} {a : Act} {ro : Option Nat} {n : Nat} {next : Act → World → Prop} {Q : Exit → Act → World → Prop}
    (h : stepK (valA P (evalO fr.tmps) st o.op) (valW P cfg fr.fid o.dst (evalO fr.tmps) st c o.op) st (fun v st' => K (fr.put o.dst v) st') = some r) (hd : ∀ c, o.op ≠ .defer c)
    (hs : RelSlots g w b st.objs.length fr.tmps a.tmps) (hi : Inv g b st w) (hc : b c = false) (hn : Leads K r o c fr a b st g w next) (hnx : ∀ {v st'}, valW P cfg fr.fid o.dst (evalO fr.tmps) st c o.op = some (true, v, st') → st'.next = st.next ∧ st.objs.length ≤ st'.objs.length) :
    o.wpIn (FW ro) n P a w next Q := by
  rcases stepK_some h with ⟨v, hA, hK⟩ | ⟨v, st', hW, hK⟩
  · obtain ⟨u, h1, h2, h3⟩ := valA_sound hA hs hi
    exact wpIn_value hd h1 rfl (hn u v st g w hK h2 (belowPV.mono (fun t h => opB_of h) (Nat.le_refl _) h3) (hi.mono_b fun t h => opB_of h) (Ext.refl _ _ _ _) (Nat.le_refl _) (Nat.le_refl _))
  · obtain ⟨nx, w', g', u, h1, h2, h3, h4, h5, h6⟩ := valW_sound hW hs hi hc
    obtain ⟨e1, e2⟩ := hnx hW
    have hm : ∀ t, (b t || t == c) = true → opB b c st st' t = true := fun t h => by simp only [opB, h, Bool.true_or]
    exact wpIn_value hd h1 h2 (hn u v st' g' w' hK h3 (belowPV.mono hm (Nat.le_refl _) h4) (h5.mono_b hm) h6 (by omega) e2)

theorem valW_next {fid c : Nat} {dst : Option Nat} {ρ : Operand → PV} {op : Op} {q : Bool} {v : PV} {st' : St} (h : valW P cfg fid dst ρ st c op = some (q, v, st')) : st'.next = st.next ∧ st.objs.length ≤ st'.objs.length := by
  unfold valW at h
  repeat' split at h
  all_goals try unfold builtinW at h
  all_goals try (repeat' split at h)
  all_goals first
    | (cases h; done)
    | (simp only [Option.map_eq_some_iff, Prod.mk.injEq] at h; obtain ⟨_, _, _, _, rfl⟩ := h; simp [addObj]; done)
    | (simp only [Option.some.injEq, Prod.mk.injEq] at h; obtain ⟨_, _, rfl⟩ := h; simp [addObj, setObj, dieO_length]; done)

end Go.Proofs.YthhllkiefncbnaaDoorSim
