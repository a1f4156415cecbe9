/- Runs: naturality; results. -/
import Derived.Test.YthhllkiefncbnaaDoorSimV
namespace Go.Proofs.YthhllkiefncbnaaDoorSim
open Go
set_option linter.unusedVariables false
set_option linter.unusedSimpArgs false

variable {P : Program} {cfg : Cfg} {rn : Run} {g g' : Gh} {w w' : World} {st st' : St} {b : Nat → Bool} {m base : Nat}

/-! ### Whatever is done with code's answer is done behind the code -/
theorem regionK_nat (hn : RunNat rn) {R : Type} (ops : Array Oper) (draw : Bool) (fr : Fr) (st : St) (K : Fr → St → Option R) :
    regionK P cfg rn ops draw fr st K = (regionK P cfg rn ops draw fr st fun f s => some (f, s)).bind fun q => K q.1 q.2 := by
  have none_ok : ∀ fr : Fr, ModeOk ops none fr := fun fr g run e => by cases e
  have key : ∀ rn', RunNat rn' → opsG P cfg rn' ops st.next none (List.range ops.size) fr { st with next := st.next + 8 * ops.size } K = (opsG P cfg rn' ops st.next none (List.range ops.size) fr { st with next := st.next + 8 * ops.size } fun f s => some (f, s)).bind fun q => K q.1 q.2 := fun rn' hn => by
    rw [opsG_eq hn _ _ _ _ _ _ _ (none_ok _), opsG_eq hn _ _ _ _ _ _ _ (none_ok _), opsK_eq hn, opsK_eq hn _ _ _ _ _ (fun f s => some (f, s)), Option.bind_assoc]
    rfl
  unfold regionK
  split
  · split
    · exact key rn hn
    · split
      · exact key _ (rnPure_nat hn)
      · rfl
  · exact key rn hn

theorem normK_nat {R : Type} (p tag : Nat) (fr : Fr) (st : St) (K : Fr → St → Option R) :
    normK cfg p tag fr st K = (normK cfg p tag fr st fun f s => some (f, s)).bind fun q => K q.1 q.2 := rfl

theorem loopK_nat {R : Type} (step : (R' : Type) → Fr → St → (Ex → Fr → St → Option R') → Option R') (hs : ∀ (R' : Type) (fr : Fr) (st : St) (K : Ex → Fr → St → Option R'), step R' fr st K = (step _ fr st fun e f s => some (e, f, s)).bind fun q => K q.1 q.2.1 q.2.2)
    (K : Ex → Fr → St → Option R) : ∀ (j : Nat) (fr : Fr) (st : St), loopK (step R) K j fr st = (loopK (step (Ex × Fr × St)) (fun e f s => some (e, f, s)) j fr st).bind fun q => K q.1 q.2.1 q.2.2
  | 0, fr, st => rfl
  | j + 1, fr, st => by
    simp only [loopK]
    refine (hs R _ _ _).trans (Eq.trans ?_ (congrArg (fun z => Option.bind z fun q : Ex × Fr × St => K q.1 q.2.1 q.2.2) (hs (Ex × Fr × St) _ _ _)).symm)
    rw [Option.bind_assoc]
    congr 1
    funext q
    obtain ⟨e, f, s⟩ := q
    cases e with
    | normal => exact loopK_nat step hs K j f s
    | exit id => rfl
    | ret => rfl

/-- Whatever is done with what is known of loops is done behind it. -/
def LpNat (cfg : Cfg) : Prop := ∀ h, cfg.lp = some h → ∀ (R : Type) (a : Code) (fid p : Nat) (fr : Fr) (st : St) (K : Ex → Fr → St → Option R), h R a fid p fr st K = (h _ a fid p fr st fun e f s => some (e, f, s)).bind fun q => K q.1 q.2.1 q.2.2

theorem lpNat_none (h : cfg.lp = none) : LpNat cfg := fun h' e => by rw [h] at e; cases e

theorem codeK_nat (hl : LpNat cfg) (hn : RunNat rn) {N : Nat} : ∀ (c : Code) {R : Type} (p : Nat) (fr : Fr) (st : St) (K : Ex → Fr → St → Option R),
    codeK P cfg rn N c p fr st K = (codeK P cfg rn N c p fr st fun e f s => some (e, f, s)).bind fun q => K q.1 q.2.1 q.2.2
  | .skip, R, p, fr, st, K => rfl
  | .label _, R, p, fr, st, K => rfl
  | .exit _, R, p, fr, st, K => rfl
  | .ret, R, p, fr, st, K => rfl
  | .goto _, R, p, fr, st, K => rfl
  | .scope x, R, p, fr, st, K => by
    simp only [codeK]
    exact codeK_nat hl hn x _ _ _ _
  | .refuse _, R, p, fr, st, K => rfl
  | .region _ ops draw, R, p, fr, st, K => by
    simp only [codeK]
    rw [regionK_nat hn, regionK_nat hn _ _ _ _ (fun f s => some (Ex.normal, f, s)), Option.bind_assoc]
    rfl
  | .seq x y, R, p, fr, st, K => by
    simp only [codeK]
    split
    · unfold normK
      cases hlp : cfg.lp with
      | some h =>
        dsimp only
        refine (hl h hlp _ _ _ _ _ _ _).trans (Eq.trans ?_ (congrArg (fun z => Option.bind z fun q : Ex × Fr × St => K q.1 q.2.1 q.2.2) (hl h hlp _ _ _ _ _ _ _)).symm)
        rw [Option.bind_assoc]
        congr 1
        funext q
        obtain ⟨e, f, s⟩ := q
        cases e with
        | normal => exact codeK_nat hl hn y _ _ _ _
        | exit id => rfl
        | ret => rfl
      | none =>
        dsimp only
        refine (codeK_nat hl hn x _ _ _ _).trans (Eq.trans ?_ (congrArg (fun z => Option.bind z fun q : Ex × Fr × St => K q.1 q.2.1 q.2.2) (codeK_nat hl hn x _ _ _ _)).symm)
        rw [Option.bind_assoc]
        congr 1
        funext q
        obtain ⟨e, f, s⟩ := q
        cases e with
        | normal => exact codeK_nat hl hn y _ _ _ _
        | exit id => rfl
        | ret => rfl
    · refine (codeK_nat hl hn x _ _ _ _).trans (Eq.trans ?_ (congrArg (fun z => Option.bind z fun q : Ex × Fr × St => K q.1 q.2.1 q.2.2) (codeK_nat hl hn x _ _ _ _)).symm)
      rw [Option.bind_assoc]
      congr 1
      funext q
      obtain ⟨e, f, s⟩ := q
      cases e with
      | normal => exact codeK_nat hl hn y _ _ _ _
      | exit id => rfl
      | ret => rfl
  | .cond x y z, R, p, fr, st, K => by
    simp only [codeK]
    split
    · split
      · exact codeK_nat hl hn y _ _ _ _
      · exact codeK_nat hl hn z _ _ _ _
    · rfl
  | .block id x, R, p, fr, st, K => by
    simp only [codeK]
    refine (codeK_nat hl hn x _ _ _ _).trans (Eq.trans ?_ (congrArg (fun z => Option.bind z fun q : Ex × Fr × St => K q.1 q.2.1 q.2.2) (codeK_nat hl hn x _ _ _ _)).symm)
    rw [Option.bind_assoc]
    congr 1
    funext q
    obtain ⟨e, f, s⟩ := q
    cases e with
    | normal => rfl
    | exit id' => dsimp only; split <;> rfl
    | ret => rfl
  | .loop x, R, p, fr, st, K => by
    simp only [codeK, normK]
    cases hlp : cfg.lp with
    | some h => exact hl h hlp _ _ _ _ _ _ _
    | none =>
      exact loopK_nat (fun R' fr st K' => codeK P cfg rn N x (2 * p) fr st fun e fr st => K' e (normH p e.tag fr st cfg.hints).1 (normH p e.tag fr st cfg.hints).2) (fun R' fr st K => by
        refine (codeK_nat hl hn x _ _ _ _).trans (Eq.trans ?_ (congrArg (fun z => Option.bind z fun q : Ex × Fr × St => K q.1 q.2.1 q.2.2) (codeK_nat hl hn x _ _ _ _)).symm)
        rw [Option.bind_assoc]
        rfl) K N _ _
  | .rangeFunc x ps assign body, R, p, fr, st, K => by
    simp only [codeK]
    split
    · split
      · rfl
      · split
        · rfl
        · refine (hn _ _ _ _ _).trans (Eq.trans ?_ (congrArg (fun z => Option.bind z fun q : Ex × Fr × St => K q.1 q.2.1 q.2.2) (hn _ _ _ _ _)).symm)
          rw [Option.bind_assoc]
          congr 1
          funext q
          split
          · split
            · rfl
            · split <;> rfl
          · rfl
    · rfl

/-- A row that is a result has its type's length. -/
def ResRow (P : Program) (fr : Fr) (st : St) (rv : ResultVar) : Prop := ∀ a t o off τ l fz n v, rv = .cell a t → fr.tmps.getD a .any = .c (.ptr o off) → st.objs[o]? = some (.row τ l fz) → wholeRow P t τ l = some (n, v) → l.length = n

theorem resChk_some {R : Type} {fr : Fr} {r : R} {k : Option R} : ∀ (rs : List ResultVar), resChk P fr st rs k = some r → k = some r ∧ ∀ rv ∈ rs, ResRow P fr st rv
  | [], h => ⟨h, by simp⟩
  | .tmp u :: rs, h => by
    have ih := resChk_some rs h
    refine ⟨ih.1, fun rv hrv => ?_⟩
    rcases List.mem_cons.1 hrv with rfl | hrv
    · intro a t o off τ l fz n v h1; cases h1
    · exact ih.2 rv hrv
  | .cell x t :: rs, h => by
    have fin : resChk P fr st rs k = some r → ResRow P fr st (.cell x t) → k = some r ∧ ∀ rv ∈ ResultVar.cell x t :: rs, ResRow P fr st rv := fun h1 h2 => by
      have ih := resChk_some rs h1
      refine ⟨ih.1, fun rv hrv => ?_⟩
      rcases List.mem_cons.1 hrv with rfl | hrv
      · exact h2
      · exact ih.2 rv hrv
    simp only [resChk] at h
    split at h
    · rename_i o off hx
      split at h
      · rename_i τ l fz ho
        split at h
        · rename_i n v hw
          split at h
          · rename_i hn
            refine fin h ?_
            intro a' t' o' off' τ' l' fz' n' v' h1 h2 h3 h4
            cases h1
            rw [hx] at h2; cases h2
            rw [ho] at h3; cases h3
            rw [hw] at h4; cases h4
            exact hn
          · cases h
        · cases h
      · rename_i hno
        refine fin h ?_
        intro a' t' o' off' τ' l' fz' n' v' h1 h2 h3 h4
        cases h1
        rw [hx] at h2; cases h2
        exact (hno _ _ _ h3).elim
    · rename_i hno
      refine fin h ?_
      intro a' t' o' off' τ' l' fz' n' v' h1 h2 h3 h4
      cases h1
      exact (hno _ _ h2).elim

theorem resChk_of {R : Type} {fr : Fr} {k : Option R} : ∀ (rs : List ResultVar), resChk P fr st rs k = (resChk P fr st rs (some ())).bind fun _ => k
  | [] => rfl
  | .tmp u :: rs => resChk_of rs
  | .cell x t :: rs => by
    simp only [resChk]
    split
    · split
      · split
        · split
          · exact resChk_of rs
          · rfl
        · rfl
      · exact resChk_of rs
    · exact resChk_of rs

theorem runStep_nat (hl : LpNat cfg) (ih : RunNat rn) (n : Nat) : RunNat (runStep P cfg rn n) := fun R tgt args st K => by
    cases tgt with
    | fn f =>
      simp only [runStep]
      split
      · split
        · refine (codeK_nat hl ih _ _ _ _ _).trans (Eq.trans ?_ (congrArg (fun z => Option.bind z fun q : PV × St => K q.1 q.2) (codeK_nat hl ih _ _ _ _ _)).symm)
          rw [Option.bind_assoc]
          congr 1
          funext q
          obtain ⟨e, f, s⟩ := q
          cases e with
          | normal =>
            dsimp only
            split
            · exact (resChk_of _).trans (Eq.trans (by rw [Option.bind_assoc]; rfl) (congrArg (fun z => Option.bind z fun q : PV × St => K q.1 q.2) (resChk_of _)).symm)
            · rfl
          | exit id => rfl
          | ret =>
            dsimp only
            split
            · exact (resChk_of _).trans (Eq.trans (by rw [Option.bind_assoc]; rfl) (congrArg (fun z => Option.bind z fun q : PV × St => K q.1 q.2) (resChk_of _)).symm)
            · rfl
        · rfl
      · rfl
    | round o =>
      simp only [runStep]
      split
      · split
        · refine (codeK_nat hl ih _ _ _ _ _).trans (Eq.trans ?_ (congrArg (fun z => Option.bind z fun q : PV × St => K q.1 q.2) (codeK_nat hl ih _ _ _ _ _)).symm)
          rw [Option.bind_assoc]
          congr 1
          funext q
          obtain ⟨e, f, s⟩ := q
          cases e with
          | normal =>
            dsimp only
            split
            · split
              · refine (codeK_nat hl ih _ _ _ _ _).trans (Eq.trans ?_ (congrArg (fun z => Option.bind z fun q : PV × St => K q.1 q.2) (codeK_nat hl ih _ _ _ _ _)).symm)
                rw [Option.bind_assoc]
                congr 1
                funext q
                obtain ⟨e, f, s⟩ := q
                dsimp only
                split
                · cases e <;> rfl
                · rfl
              · rfl
            · rfl
          | exit id => rfl
          | ret => rfl
        · rfl
      · rfl

theorem runK_nat (hl : LpNat cfg) : ∀ (n : Nat), RunNat (runK P cfg n)
  | 0 => fun R tgt args st K => rfl
  | n + 1 => runStep_nat hl (runK_nat hl n) n

/-! ### Results -/
theorem resultPart_ok {tmps : List PV} {fr : Fr} {a : Act} {pv : PV} (hs : RelSlots g w b st.objs.length fr.tmps a.tmps) (hi : Inv g b st w) (f : ResultVar → Sem Value) (hf : ∀ u, f (.tmp u) = pure (a.tmps.getD u undef)) (hc : ∀ x t, f (.cell x t) = (do loadVar t (← asAddr (a.tmps.getD x undef))))
    (rv : ResultVar) (hk : ResRow P fr st rv) (h : resultPart P fr st rv = some pv) : ∃ v, (f rv).run P w = .ok v w ∧ RelPV g w pv v ∧ belowPV b st.objs.length pv = true := by
  cases rv with
  | tmp t =>
    simp only [resultPart, Option.some.injEq] at h
    subst h
    have ex := evalO_rel hs (.tmp t)
    exact ⟨_, by rw [hf]; rfl, ex.1, ex.2⟩
  | cell x t =>
    have ex := evalO_rel hs (.tmp x)
    simp only [resultPart] at h
    split at h
    · rename_i o off hx
      have hx' : evalO fr.tmps (.tmp x) = .c (.ptr o off) := hx
      rw [hx'] at ex
      have hev : a.tmps.getD x undef = .pointer (some ⟨g.phi o, off, none⟩) := ex.1
      split at h
      · rename_i cs ho
        obtain ⟨hp, vs, ty, hh, hr⟩ := hi.objs o _ ho
        have hbl := hi.below o _ ho
        obtain ⟨v, h1, h2, h3⟩ := loadVar_ok (P := P) (k := g.phi o) (o := 0) (b := b) (m := st.objs.length) h hr hbl (fun j u hu => by rw [cell_of_block hh]; simpa using hu)
        rw [Nat.zero_add] at h1
        refine ⟨v, ?_, h2, h3⟩
        rw [hc, hev]
        simp only [asAddr, Sem.run_bind, Sem.run_pure, Result.andThen_ok]
        exact h1
      · rename_i τ l fz ho
        split at h
        · rename_i hoff
          subst hoff
          rw [Option.map_eq_some_iff] at h
          obtain ⟨⟨n, v'⟩, hv, h⟩ := h
          simp only at h
          subst h
          have hn := hk _ _ _ _ _ _ _ _ _ rfl hx ho hv
          obtain ⟨_, _, vs, ty, fr', cap, hh, _, _, _, _, hrow⟩ := hi.objs o _ ho
          obtain ⟨v, h1, h2, h3⟩ := wholeRow_ok (P := P) (b := b) (m := st.objs.length) (k := g.phi o) hv hn hrow (fun j u hj => by simp [World.cell?, hh, hj])
          refine ⟨v, ?_, h2, h3⟩
          rw [hc, hev]
          simp only [asAddr, Sem.run_bind, Sem.run_pure, Result.andThen_ok]
          exact h1
        · cases h
      · cases h
    · cases h

theorem resultParts_ok {fr : Fr} {a : Act} (hs : RelSlots g w b st.objs.length fr.tmps a.tmps) (hi : Inv g b st w) (f : ResultVar → Sem Value) (hf : ∀ u, f (.tmp u) = pure (a.tmps.getD u undef)) (hc : ∀ x t, f (.cell x t) = (do loadVar t (← asAddr (a.tmps.getD x undef)))) :
    ∀ (rs : List ResultVar) (ps : List (C ⊕ List C)), (∀ rv ∈ rs, ResRow P fr st rv) → resultParts P fr st rs = some ps → ∃ vs, (rs.mapM f).run P w = .ok vs w ∧ All2 (RelPart g w) ps vs ∧ ps.all (fun p => (partCells p).all (belowC b st.objs.length)) = true ∧ vs.length = rs.length
  | [], ps, _, h => by
    simp only [resultParts, Option.some.injEq] at h
    subst h
    exact ⟨[], by simp, trivial, rfl, rfl⟩
  | rv :: rs, ps, hk, h => by
    simp only [resultParts] at h
    split at h
    · rename_i v hv
      split at h
      · rename_i p l hp hl
        simp only [Option.some.injEq] at h
        subst h
        obtain ⟨u, h1, h2, h3⟩ := resultPart_ok (tmps := []) hs hi f hf hc rv (hk rv (by simp)) hv
        obtain ⟨us, k1, k2, k3, k4⟩ := resultParts_ok hs hi f hf hc rs l (fun x hx => hk x (by simp [hx])) hl
        refine ⟨u :: us, by rw [List.mapM_cons]; simp [h1, k1], ⟨?_, k2⟩, ?_, by simp [k4]⟩
        · cases v <;> simp only [partOf, Option.some.injEq, reduceCtorEq] at hp
          · subst hp; exact h2
          · subst hp; exact h2
        · simp only [List.all_cons, Bool.and_eq_true]
          refine ⟨?_, k3⟩
          cases v <;> simp only [partOf, Option.some.injEq, reduceCtorEq] at hp
          · subst hp; simpa [partCells, belowPV] using h3
          · subst hp; simpa [partCells, belowPV] using h3
      · cases h
    · cases h

theorem results_gen {rs : List ResultVar} {fr : Fr} {a : Act} {pv : PV} (hs : RelSlots g w b st.objs.length fr.tmps a.tmps) (hi : Inv g b st w) (f : ResultVar → Sem Value) (hf : ∀ u, f (.tmp u) = pure (a.tmps.getD u undef)) (hc : ∀ x t, f (.cell x t) = (do loadVar t (← asAddr (a.tmps.getD x undef))))
    (h : (match rs with
  | [r] => match resultPart P fr st r with
    | some (.tup _) => none
    | some (.rptr _) => none
    | v => v
  | rs => (resultParts P fr st rs).map .tup) = some pv) (hk : ∀ rv ∈ rs, ResRow P fr st rv) :
    ∃ v, (do let vs ← rs.toArray.mapM f
             pure (if h : vs.size = 1 then vs[0] else .tuple vs) : Sem Value).run P w = .ok v w ∧ RelPV g w pv v ∧ belowPV b st.objs.length pv = true := by
  rw [List.mapM_toArray]
  split at h
  · rename_i rv
    have hpv : resultPart P fr st rv = some pv := by
      cases hq : resultPart P fr st rv with
      | none => rw [hq] at h; simp at h
      | some q => rw [hq] at h; cases q <;> simp_all
    obtain ⟨v, h1, h2, h3⟩ := resultPart_ok (tmps := []) hs hi f hf hc rv (hk rv (by simp)) hpv
    refine ⟨v, ?_, h2, h3⟩
    simp only [Sem.run_bind, Sem.run_map]
    simp [List.mapM_cons, h1]
  · rename_i rs' hne
    simp only [Option.map_eq_some_iff] at h
    obtain ⟨ps, hps, rfl⟩ := h
    obtain ⟨vs, h1, h2, h3, h4⟩ := resultParts_ok hs hi f hf hc rs ps hk hps
    have hl : vs.length ≠ 1 := fun e => by
      rw [h4] at e
      match rs, e with
      | [x], _ => exact hne x rfl
    refine ⟨.tuple vs.toArray, ?_, ⟨vs, rfl, h2⟩, h3⟩
    simp only [Sem.run_bind, Sem.run_map]
    rw [h1]
    simp [hl]

theorem results_ok {fn : Func} {fr : Fr} {a : Act} {pv : PV} (hs : RelSlots g w b st.objs.length fr.tmps a.tmps) (hi : Inv g b st w) (hk : ∀ rv ∈ fn.results.toList, ResRow P fr st rv) (h : resultPV P fn fr st = some pv) :
    ∃ v, (results fn a.tmps).run P w = .ok v w ∧ RelPV g w pv v ∧ belowPV b st.objs.length pv = true := by
  unfold resultPV at h
  have hfr : fn.results = fn.results.toList.toArray := by simp
  unfold results
  rw [hfr]
  exact results_gen hs hi _ (fun u => rfl) (fun x t => rfl) h hk

end Go.Proofs.YthhllkiefncbnaaDoorSim
