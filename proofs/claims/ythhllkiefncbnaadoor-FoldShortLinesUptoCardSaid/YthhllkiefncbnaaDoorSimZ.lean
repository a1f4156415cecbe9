/- What is known of calls and loops stands for them: through code. -/
import Derived.Test.YthhllkiefncbnaaDoorSimY
namespace Go.Proofs.YthhllkiefncbnaaDoorSim
open Go
set_option linter.unusedVariables false
set_option linter.unusedSimpArgs false

variable {P : Program} {cfg : Cfg} {rn rn1 rn2 : Run} {st st' : St}

abbrev Handler := (R : Type) → Code → Nat → Nat → Fr → St → (Ex → Fr → St → Option R) → Option R
def Cfg.knows (cfg : Cfg) (h : Handler) : Cfg := { cfg with lp := some h }

theorem valOper_le {lp : Option Handler} (h : CallLe P rn1 rn2) {o : Oper} {c fid : Nat} {ρ : Operand → PV} {gv : PV} {x : PV × St} (hx : valOper P { cfg with lp := lp } rn1 o c ρ gv fid st = some x) : valOper P cfg rn2 o c ρ gv fid st = some x := by
  unfold valOper at hx ⊢
  split at hx
  · exact valOp_le h hx
  · split at hx
    · split at hx
      · split at hx
        · rename_i hb; rw [if_pos hb]; exact valOp_le h hx
        · rename_i hb; rw [if_neg hb]; exact hx
      · split at hx
        · rename_i hb; rw [if_pos hb]; exact hx
        · rename_i hb; rw [if_neg hb]; exact valOp_le h hx
    · exact hx
    · cases hx

theorem opP_le {lp : Option Handler} (h : CallLe P rn1 rn2) {ops : Array Oper} {c0 i : Nat} {s x : Fr × St} (hx : opP P { cfg with lp := lp } rn1 ops c0 i s = some x) : opP P cfg rn2 ops c0 i s = some x := by
  unfold opP at hx ⊢
  split at hx
  · exact hx
  · rw [Option.map_eq_some_iff] at hx ⊢
    obtain ⟨y, hy, e⟩ := hx
    exact ⟨y, valOper_le h hy, e⟩

theorem opsP_le {lp : Option Handler} (h : CallLe P rn1 rn2) {ops : Array Oper} {c0 : Nat} : ∀ (l : List Nat) (s x : Fr × St), opsP P { cfg with lp := lp } rn1 ops c0 l s = some x → opsP P cfg rn2 ops c0 l s = some x
  | [], s, x, hx => hx
  | i :: l, s, x, hx => by
    simp only [opsP, Option.bind_eq_some_iff] at hx ⊢
    obtain ⟨y, hy, hx⟩ := hx
    exact ⟨y, opP_le h hy, opsP_le h l y x hx⟩

theorem regionK_le {lp : Option Handler} (h : CallLe P rn1 rn2) (n1 : RunNat rn1) (n2 : RunNat rn2) {R1 R2 : Type} {F : R1 → R2} {ops : Array Oper} {draw : Bool} {fr : Fr} {K1 : Fr → St → Option R1} {K2 : Fr → St → Option R2} (hK : ∀ f s x, K1 f s = some x → K2 f s = some (F x))
    {x : R1} (hx : regionK P { cfg with lp := lp } rn1 ops draw fr st K1 = some x) : regionK P cfg rn2 ops draw fr st K2 = some (F x) := by
  have none_ok : ∀ fr : Fr, ModeOk ops none fr := fun fr g run e => by cases e
  have key : ∀ (r1 r2 : Run), CallLe P r1 r2 → RunNat r1 → RunNat r2 → opsG P { cfg with lp := lp } r1 ops st.next none (List.range ops.size) fr { st with next := st.next + 8 * ops.size } K1 = some x → opsG P cfg r2 ops st.next none (List.range ops.size) fr { st with next := st.next + 8 * ops.size } K2 = some (F x) := fun r1 r2 h n1 n2 hx => by
    rw [opsG_eq n1 _ _ _ _ _ _ _ (none_ok _), opsK_eq n1, Option.bind_eq_some_iff] at hx
    rw [opsG_eq n2 _ _ _ _ _ _ _ (none_ok _), opsK_eq n2, Option.bind_eq_some_iff]
    obtain ⟨y, hy, hx⟩ := hx
    exact ⟨y, opsP_le h _ _ _ hy, hK _ _ _ hx⟩
  unfold regionK at hx ⊢
  rw [show roOf { cfg with lp := lp } fr.fid = roOf cfg fr.fid from rfl] at hx
  split at hx
  · rename_i hd
    rw [if_pos hd]
    split at hx
    · rename_i h1
      rw [if_pos h1]
      exact key rn1 rn2 h n1 n2 hx
    · rename_i h1
      rw [if_neg h1]
      split at hx
      · rename_i h2
        rw [if_pos h2]
        exact key _ _ h.pure (rnPure_nat n1) (rnPure_nat n2) hx
      · cases hx
  · rename_i hd
    rw [if_neg hd]
    exact key rn1 rn2 h n1 n2 hx

/-- A loop as it runs: its one round. -/
def stepL (P : Program) (cfg : Cfg) (rn : Run) (N : Nat) (a : Code) (p : Nat) (R : Type) (fr : Fr) (st : St) (K' : Ex → Fr → St → Option R) : Option R :=
  codeK P cfg rn N a (2 * p) fr st fun e fr st => normK cfg p e.tag fr st (K' e)

def some3 : Ex → Fr → St → Option (Ex × Fr × St) := fun e f s => some (e, f, s)

/-- What is known of loops, and of parts of code taken by themselves, is so. -/
structure HandOk (P : Program) (cfg : Cfg) (rn : Run) (N : Nat) (h : Handler) : Prop where
  loop : ∀ (R1 R2 : Type) (F : R1 → R2) (a : Code) (p : Nat) (fr : Fr) (st : St) (K1 : Ex → Fr → St → Option R1) (K2 : Ex → Fr → St → Option R2), (∀ e f s x, K1 e f s = some x → K2 e f s = some (F x)) →
    ∀ x, h R1 a fr.fid (2 * p) fr st K1 = some x → loopK (stepL P cfg rn N a p R2) K2 N fr st = some (F x)
  cut : ∀ (R1 R2 : Type) (F : R1 → R2) (a : Code) (p : Nat) (fr : Fr) (st : St) (K1 : Ex → Fr → St → Option R1) (K2 : Ex → Fr → St → Option R2), (∀ e f s x, K1 e f s = some x → K2 e f s = some (F x)) →
    ∀ x, h R1 a fr.fid (2 * p + 1) fr st K1 = some x → codeK P cfg rn N a (2 * p) fr st (fun e f s => normK cfg p e.ctag f s (K2 e)) = some (F x)

def HandNat (h : Handler) : Prop := ∀ (R : Type) (a : Code) (fid p : Nat) (fr : Fr) (st : St) (K : Ex → Fr → St → Option R), h R a fid p fr st K = (h _ a fid p fr st some3).bind fun q => K q.1 q.2.1 q.2.2

theorem HandNat.lp {h : Handler} (hn : HandNat h) : LpNat (cfg.knows h) := fun h' e => by cases e; exact hn

theorem stepL_nat (hlp : cfg.lp = none) (hn : RunNat rn) {N : Nat} {a : Code} {p : Nat} : ∀ (R' : Type) (fr : Fr) (st : St) (K : Ex → Fr → St → Option R'), stepL P cfg rn N a p R' fr st K = (stepL P cfg rn N a p _ fr st fun e f s => some (e, f, s)).bind fun q => K q.1 q.2.1 q.2.2 := fun R' fr st K => by
  unfold stepL
  refine (codeK_nat (lpNat_none hlp) hn a _ _ _ _).trans (Eq.trans ?_ (congrArg (fun z => Option.bind z fun q : Ex × Fr × St => K q.1 q.2.1 q.2.2) (codeK_nat (lpNat_none hlp) hn a _ _ _ _)).symm)
  rw [Option.bind_assoc]
  rfl

theorem codeK_le (hlp : cfg.lp = none) {h : Handler} {N : Nat} (hh : HandOk P cfg rn2 N h) (hr : CallLe P rn1 rn2) (n1 : RunNat rn1) (n2 : RunNat rn2) {N1 : Nat} : ∀ (c : Code) {R1 R2 : Type} (F : R1 → R2) (p : Nat) (fr : Fr) (st : St) (K1 : Ex → Fr → St → Option R1) (K2 : Ex → Fr → St → Option R2),
    (∀ e f s x, K1 e f s = some x → K2 e f s = some (F x)) → ∀ x, codeK P (cfg.knows h) rn1 N1 c p fr st K1 = some x → codeK P cfg rn2 N c p fr st K2 = some (F x)
  | .skip, R1, R2, F, p, fr, st, K1, K2, hK, x, hx => hK _ _ _ _ hx
  | .label _, R1, R2, F, p, fr, st, K1, K2, hK, x, hx => hK _ _ _ _ hx
  | .exit _, R1, R2, F, p, fr, st, K1, K2, hK, x, hx => hK _ _ _ _ hx
  | .ret, R1, R2, F, p, fr, st, K1, K2, hK, x, hx => hK _ _ _ _ hx
  | .goto _, R1, R2, F, p, fr, st, K1, K2, hK, x, hx => by simp [codeK] at hx
  | .scope a, R1, R2, F, p, fr, st, K1, K2, hK, x, hx => by
    simp only [codeK] at hx ⊢
    exact codeK_le hlp hh hr n1 n2 a F _ _ _ _ _ hK x hx
  | .refuse _, R1, R2, F, p, fr, st, K1, K2, hK, x, hx => by simp [codeK] at hx
  | .region _ ops draw, R1, R2, F, p, fr, st, K1, K2, hK, x, hx => by
    simp only [codeK] at hx ⊢
    exact regionK_le hr n1 n2 (fun f s x h => hK _ _ _ _ h) hx
  | .seq a b, R1, R2, F, p, fr, st, K1, K2, hK, x, hx => by
    simp only [codeK, hlp] at hx ⊢
    split at hx
    · rename_i hc
      rw [if_pos (show cfg.cuts.contains (fr.fid, p) = true from hc)]
      exact hh.cut _ _ F a p _ _ _ (fun e f s => match e with
        | .normal => codeK P cfg rn2 N b (2 * p + 1) f s K2
        | e => K2 e f s) (fun e f s x hx => by
        cases e with
        | normal => exact codeK_le hlp hh hr n1 n2 b F _ _ _ _ _ hK x hx
        | exit id => exact hK _ _ _ _ hx
        | ret => exact hK _ _ _ _ hx) x hx
    · rename_i hc
      rw [if_neg (show ¬ cfg.cuts.contains (fr.fid, p) = true from hc)]
      refine codeK_le hlp hh hr n1 n2 a F _ _ _ _ _ (fun e f s x hx => ?_) x hx
      cases e with
      | normal => exact codeK_le hlp hh hr n1 n2 b F _ _ _ _ _ hK x hx
      | exit id => exact hK _ _ _ _ hx
      | ret => exact hK _ _ _ _ hx
  | .cond y a b, R1, R2, F, p, fr, st, K1, K2, hK, x, hx => by
    simp only [codeK] at hx ⊢
    split at hx
    · split at hx
      · rename_i hb; rw [if_pos hb]; exact codeK_le hlp hh hr n1 n2 a F _ _ _ _ _ hK x hx
      · rename_i hb; rw [if_neg hb]; exact codeK_le hlp hh hr n1 n2 b F _ _ _ _ _ hK x hx
    · cases hx
  | .block id a, R1, R2, F, p, fr, st, K1, K2, hK, x, hx => by
    simp only [codeK] at hx ⊢
    refine codeK_le hlp hh hr n1 n2 a F _ _ _ _ _ (fun e f s x hx => ?_) x hx
    cases e with
    | normal => exact hK _ _ _ _ hx
    | exit id' =>
      dsimp only at hx ⊢
      split at hx
      · rename_i hi; rw [if_pos hi]; exact hK _ _ _ _ hx
      · rename_i hi; rw [if_neg hi]; exact hK _ _ _ _ hx
    | ret => exact hK _ _ _ _ hx
  | .loop a, R1, R2, F, p, fr, st, K1, K2, hK, x, hx => by
    simp only [codeK, Cfg.knows, normK, hlp] at hx ⊢
    exact hh.loop _ _ F _ _ _ _ _ _ hK x hx
  | .rangeFunc y ps assign body, R1, R2, F, p, fr, st, K1, K2, hK, x, hx => by
    simp only [codeK] at hx ⊢
    split at hx
    · split at hx
      · cases hx
      · rename_i h1
        rw [if_neg h1]
        split at hx
        · cases hx
        · rename_i h2
          rw [if_neg h2]
          refine hr.far _ _ F _ _ _ _ _ (fun f hf => ?_) (fun pv s x hx => ?_) x hx
          · cases hf
            unfold pureArgs
            split
            · rename_i a' s' t hs ht
              simp only [settlePVs, settlePV, settleC, Option.map_some] at hs
              split at hs
              · cases hs; simp [belowPV, belowC]
              · cases hs
            · rfl
          · skip
            split at hx
            · split at hx
              · cases hx
              · rename_i h3
                rw [if_neg h3]
                split at hx
                · exact hK _ _ _ _ hx
                · exact hK _ _ _ _ hx
                · exact hK _ _ _ _ hx
                · cases hx
            · cases hx
    · cases hx

theorem runStep_le (hlp : cfg.lp = none) {h : Handler} {N N1 : Nat} (hh : HandOk P cfg rn2 N h) (hr : CallLe P rn1 rn2) (n1 : RunNat rn1) (n2 : RunNat rn2) : Le (runStep P (cfg.knows h) rn1 N1) (runStep P cfg rn2 N) := fun R1 R2 F tgt args st K1 K2 hK x hx => by
  have cl := fun c {R1 R2 : Type} F p fr st K1 K2 => codeK_le hlp hh hr n1 n2 (N1 := N1) c (R1 := R1) (R2 := R2) F p fr st K1 K2
  cases tgt with
  | fn f =>
    simp only [runStep] at hx ⊢
    split at hx
    · split at hx
      · refine cl _ F _ _ _ _ _ (fun e f s x hx => ?_) x hx
        cases e with
        | exit id => cases hx
        | normal =>
          dsimp only at hx ⊢
          split at hx
          · rw [resChk_of] at hx ⊢
            cases hc : resChk P f s _ (some ()) with
            | none => rw [hc] at hx; cases hx
            | some u => rw [hc] at hx; exact hK _ _ _ hx
          · cases hx
        | ret =>
          dsimp only at hx ⊢
          split at hx
          · rw [resChk_of] at hx ⊢
            cases hc : resChk P f s _ (some ()) with
            | none => rw [hc] at hx; cases hx
            | some u => rw [hc] at hx; exact hK _ _ _ hx
          · cases hx
      · cases hx
    · cases hx
  | round o =>
    simp only [runStep] at hx ⊢
    split at hx
    · split at hx
      · rename_i hc
        rw [if_pos hc]
        refine cl _ F _ _ _ _ _ (fun e f s x hx => ?_) x hx
        cases e with
        | exit id => cases hx
        | ret => cases hx
        | normal =>
          dsimp only at hx ⊢
          split at hx
          · split at hx
            · rename_i hc2
              rw [if_pos hc2]
              refine cl _ F _ _ _ _ _ (fun e f s x hx => ?_) x hx
              split at hx
              · cases e with
                | normal => exact hK _ _ _ hx
                | ret => exact hK _ _ _ hx
                | exit id => exact hK _ _ _ hx
              · cases hx
            · cases hx
          · cases hx
      · cases hx
    · cases hx

/-- A run in which what is known of calls and loops stands for them; d: how deep what is not known is followed. -/
def runO (P : Program) (cfg : Cfg) (h : Handler) (pc : (f : Nat) → List PV → Option (RTy P f).den) : Nat → Run
  | 0 => fun _ _ _ _ _ => none
  | d + 1 => runStep P (cfg.knows h) (rnO P pc (runO P cfg h pc d)) 0

theorem runO_nat {h : Handler} (hn : HandNat h) {pc : (f : Nat) → List PV → Option (RTy P f).den} : ∀ d, RunNat (runO P cfg h pc d)
  | 0 => fun _ _ _ _ _ => rfl
  | d + 1 => runStep_nat hn.lp (rnO_nat (runO_nat hn d)) 0

/-- What is known is so, at every measure from N on. -/
structure Known (P : Program) (cfg : Cfg) (h : Handler) (pc : (f : Nat) → List PV → Option (RTy P f).den) (N : Nat) : Prop where
  calls : ∀ m, N ≤ m → ∀ f args x, pc f args = some x → pcall P (runK P cfg m) f args = some x
  loops : ∀ m, N ≤ m → HandOk P cfg (runK P cfg m) m h

theorem runO_le (hlp : cfg.lp = none) {h : Handler} (hnt : HandNat h) {pc : (f : Nat) → List PV → Option (RTy P f).den} {N : Nat} (hk : Known P cfg h pc N) : ∀ d n, N + d ≤ n → Le (runO P cfg h pc d) (runK P cfg n)
  | 0, n, _ => fun R1 R2 F tgt args st K1 K2 hK x hx => by cases hx
  | d + 1, n + 1, hn => runStep_le hlp (hk.loops n (by omega)) (rnO_le (runO_le hlp hnt hk d n (by omega)) (hk.calls n (by omega))) (rnO_nat (runO_nat hnt d)) (runK_nat (lpNat_none hlp) n)
  | d + 1, 0, hn => by omega

end Go.Proofs.YthhllkiefncbnaaDoorSim
