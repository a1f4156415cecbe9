/- What is known of calls and loops stands for them. -/
import Derived.Test.YthhllkiefncbnaaDoorSimX
namespace Go.Proofs.YthhllkiefncbnaaDoorSim
open Go
set_option linter.unusedVariables false
set_option linter.unusedSimpArgs false

variable {P : Program} {cfg : Cfg} {rn rn1 rn2 : Run} {st st' : St}

/-! ### Known calls -/
/-- A run in which what is known of calls stands for them. -/
def rnO (P : Program) (pc : (f : Nat) → List PV → Option (RTy P f).den) (rn : Run) : Run := fun R tgt args st K => match tgt with
  | .fn f => if pureArgs P f args st then (pc f args).bind fun x => K (retPV P f x 0 .empty).1 (retPV P f x 0 .empty).2 else rn R (.fn f) args st K
  | .round o => rn R (.round o) args st K

theorem rnO_nat {pc : (f : Nat) → List PV → Option (RTy P f).den} (hn : RunNat rn) : RunNat (rnO P pc rn) := fun R tgt args st K => by
  cases tgt with
  | fn f =>
    simp only [rnO]
    split
    · rw [Option.bind_assoc]; rfl
    · exact hn _ _ _ _ _
  | round o => exact hn _ _ _ _ _

theorem toCells_settle : ∀ (τ : Ty) (x : τ.den) (st : St), settleCs st (toCells τ x) = some (toCells τ x, st)
  | .int k, x, st => rfl
  | .bool, x, st => rfl
  | .str, x, st => rfl
  | .unit, x, st => rfl
  | .slice τ, x, st => rfl
  | .pair a b, x, st => by
    have app : ∀ (l r : List C) (st : St), settleCs st l = some (l, st) → settleCs st r = some (r, st) → settleCs st (l ++ r) = some (l ++ r, st) := by
      intro l
      induction l with
      | nil => intro r st _ h; exact h
      | cons c l ih =>
        intro r st h1 h2
        simp only [settleCs] at h1
        split at h1
        · rename_i y s1 e1
          split at h1
          · rename_i l' s2 e2
            simp only [Option.some.injEq, Prod.mk.injEq, List.cons.injEq] at h1
            obtain ⟨⟨rfl, rfl⟩, rfl⟩ := h1
            have hs : s1 = s2 := by
              cases y with
              | mslice o => simp only [settleC] at e1; split at e1 <;> cases e1
              | vslice o => simp only [settleC] at e1; split at e1 <;> cases e1
              | _ => simp only [settleC, Option.some.injEq, Prod.mk.injEq] at e1; first | exact e1.2.symm | skip
            subst hs
            simp only [List.cons_append, settleCs, e1, ih r s1 e2 h2]
          · cases h1
        · cases h1
    exact app _ _ st (toCells_settle a x.1 st) (toCells_settle b x.2 st)

theorem castL_self {τ : Ty} (l : List τ.den) : castL τ τ l = some l := by simp [castL]

theorem ofCells_toCells : ∀ (τ : Ty) (x : τ.den) (r : List C), ofCells τ (toCells τ x ++ r) = some (x, r)
  | .int k, x, r => by simp [toCells, ofCells]
  | .bool, x, r => rfl
  | .str, x, r => rfl
  | .unit, x, r => rfl
  | .slice τ, x, r => by simp [toCells, ofCells, castL_self]
  | .pair a b, x, r => by
    simp only [toCells, List.append_assoc, ofCells, ofCells_toCells a]
    rw [ofCells_toCells b]

theorem resTys_one : ∀ {ts : List TypeId} {l : List (Ty × Bool)}, resTys P ts = some l → ∀ q ∈ l, q.2 = false → q.1.size = 1
  | [], l, h, q, hq, _ => by simp only [resTys, Option.some.injEq] at h; subst h; cases hq
  | t :: ts, l, h, q, hq, hf => by
    simp only [resTys] at h
    split at h
    · rename_i τ agg l' h1 h2 h3
      split at h
      · rename_i hs
        simp only [Option.some.injEq] at h
        subst h
        rcases List.mem_cons.1 hq with rfl | hq
        · exact hs.2 hf
        · exact resTys_one h3 q hq hf
      · cases h
    · cases h

theorem splitParts_cells : ∀ (l : List (Ty × Bool)) (cs : List C), (∀ q ∈ l, q.2 = false → q.1.size = 1) → cs.length = (l.foldr (fun p r => Ty.pair p.1 r) .unit).size → (splitParts l cs).flatMap partCells = cs
  | [], cs, _, h => by
    have : cs = [] := List.eq_nil_of_length_eq_zero h
    subst this; rfl
  | (τ, agg) :: l, cs, hl, h => by
    simp only [List.foldr_cons, Ty.size] at h
    have ih := splitParts_cells l (cs.drop τ.size) (fun q hq => hl q (by simp [hq])) (by simp; omega)
    simp only [splitParts, List.flatMap_cons, ih]
    cases agg with
    | true => simp [partCells]
    | false =>
      have h1 := hl (τ, false) (by simp) rfl
      simp only at h1
      rw [h1] at h ⊢
      cases cs with
      | nil => simp at h; omega
      | cons c cs => simp [partCells]

theorem resCells_enc {f : Nat} (ht : (resTysF P f).isSome = true) (y : (RTy P f).den) (cs : List C) (hcs : cs = toCells (RTy P f) y) : resCells (encRes P f cs) = some cs := by
  have hlen : cs.length = (RTy P f).size := by rw [hcs]; exact toCells_length _ _
  clear hcs y
  unfold RTy at hlen
  unfold encRes
  have hone : ∀ l, resTysF P f = some l → ∀ q ∈ l, q.2 = false → q.1.size = 1 := fun l h => by
    unfold resTysF at h
    split at h
    · exact resTys_one h
    · cases h
  cases h : resTysF P f with
  | none => rw [h] at ht; cases ht
  | some tys =>
    have h1 := hone tys h
    rw [h] at hlen
    match tys with
    | [] => simp only [resCells]; rw [splitParts_cells _ _ h1 hlen]
    | [(τ, ag)] =>
      cases ag with
      | true => rfl
      | false =>
        have := h1 (τ, false) (by simp) rfl
        simp only at this hlen
        match cs, hlen with
        | [c], _ => rfl
        | [], hl => simp at hl; omega
        | _ :: _ :: _, hl => simp at hl; omega
    | q1 :: q2 :: r => simp only [resCells]; rw [splitParts_cells _ _ h1 hlen]

theorem retOwn_dec : ∀ (τ : Ty) (y x : τ.den) (d : PV) (s s2 : St) (cs l : List C), resCells d = some (toCells τ y) → resCells (retOwn 0 s d τ y).1 = some cs → settleCs (retOwn 0 s d τ y).2 cs = some (l, s2) → ofCells τ l = some (x, []) → x = y := fun τ y x d s s2 cs l hd h1 h2 h3 => by
  have plain : resCells d = some cs → (∃ s1, settleCs s1 cs = some (l, s2)) → x = y := fun h1 h2 => by
    obtain ⟨s1, h2⟩ := h2
    rw [hd] at h1
    cases h1
    rw [toCells_settle] at h2
    cases h2
    have := ofCells_toCells τ y []
    rw [List.append_nil] at this
    rw [this] at h3
    simpa using h3.symm
  cases τ with
  | slice τ1 =>
    simp only [retOwn, resCells, Option.some.injEq] at h1
    subst h1
    simp only [retOwn, settleCs, settleC, Option.some.injEq, Prod.mk.injEq] at h2
    obtain ⟨rfl, rfl⟩ := h2
    simp only [ofCells, castL_self, Option.some.injEq, Prod.mk.injEq, and_true] at h3
    exact h3.symm
  | _ => exact plain h1 ⟨_, h2⟩

theorem decRes_ret {f : Nat} (ht : (resTysF P f).isSome = true) {x y : (RTy P f).den} {s : St} (h : decRes P f (retPV P f y 0 s).1 (retPV P f y 0 s).2 = some x) : x = y := by
  have hd := resCells_enc ht y _ rfl
  unfold decRes at h
  split at h
  · rename_i cs hcs
    split at hcs
    · split at h
      · rename_i l s2 hl
        split at h
        · rename_i z hz
          cases h
          unfold retPV at hcs hl
          split at hcs
          · rename_i ho
            rw [if_pos ho] at hl
            exact retOwn_dec _ y x _ s s2 cs l hd hcs hl hz
          · rename_i ho
            rw [if_neg ho] at hl
            dsimp only at hcs hl
            rw [hd] at hcs
            cases hcs
            rw [toCells_settle] at hl
            cases hl
            have := ofCells_toCells (RTy P f) y []
            rw [List.append_nil] at this
            rw [this] at hz
            simpa using hz.symm
        · cases h
      · cases h
    · cases hcs
  · cases h

/-! ### More is known -/
/-- Whatever the first run answers, so does the second. -/
def Le (rn1 rn2 : Run) : Prop := ∀ (R1 R2 : Type) (F : R1 → R2) (tgt : Tgt) (args : List PV) (st : St) (K1 : PV → St → Option R1) (K2 : PV → St → Option R2), (∀ pv s x, K1 pv s = some x → K2 pv s = some (F x)) →
  ∀ x, rn1 R1 tgt args st K1 = some x → rn2 R2 tgt args st K2 = some (F x)

/-- As the interpreter asks: calls that see nothing of the caller's; all others. -/
structure CallLe (P : Program) (rn1 rn2 : Run) : Prop where
  own : ∀ f args st args' st', settlePVs st args = some (args', st') → (resTysF P f).isSome = true → args'.all (belowPV (fun _ => false) 0) = true → ∀ x, pcall P rn1 f args' = some x → pcall P rn2 f args' = some x
  far : ∀ (R1 R2 : Type) (F : R1 → R2) (tgt : Tgt) (args : List PV) (st : St) (K1 : PV → St → Option R1) (K2 : PV → St → Option R2), (∀ f, tgt = .fn f → pureArgs P f args st = false) → (∀ pv s x, K1 pv s = some x → K2 pv s = some (F x)) →
    ∀ x, rn1 R1 tgt args st K1 = some x → rn2 R2 tgt args st K2 = some (F x)

theorem Le.pcall (h : Le rn1 rn2) {f : Nat} {args : List PV} {x : (RTy P f).den} (hx : pcall P rn1 f args = some x) : pcall P rn2 f args = some x :=
  h _ _ id (.fn f) args .empty _ _ (fun _ _ _ h => h) x hx

/-- Known calls in the place of calls. -/
theorem rnO_le {pc : (f : Nat) → List PV → Option (RTy P f).den} (h : Le rn1 rn2) (hpc : ∀ f args x, pc f args = some x → pcall P rn2 f args = some x) : CallLe P (rnO P pc rn1) rn2 where
  own := fun f args st args' st' hs ht hall x hx => by
    unfold Go.Proofs.YthhllkiefncbnaaDoorSim.pcall rnO at hx
    dsimp only at hx
    split at hx
    · rw [Option.bind_eq_some_iff] at hx
      obtain ⟨y, hy, hd⟩ := hx
      rw [decRes_ret ht hd]
      exact hpc f args' y hy
    · exact h.pcall hx
  far := fun R1 R2 F tgt args st K1 K2 hp hK x hx => by
    unfold rnO at hx
    cases tgt with
    | fn f =>
      dsimp only at hx
      rw [hp f rfl] at hx
      exact h _ _ F _ _ _ _ _ hK x hx
    | round o => exact h _ _ F _ _ _ _ _ hK x hx

theorem CallLe.pure (h : CallLe P rn1 rn2) : CallLe P (rnPure P rn1) (rnPure P rn2) where
  own := fun f args st args' st' hs ht hall x hx => by
    unfold Go.Proofs.YthhllkiefncbnaaDoorSim.pcall rnPure at hx ⊢
    dsimp only at hx ⊢
    split at hx
    · rename_i hp
      rw [if_pos hp]
      exact h.own f args st args' st' hs ht hall x hx
    · cases hx
  far := fun R1 R2 F tgt args st K1 K2 hp hK x hx => by
    cases tgt with
    | fn f =>
      unfold rnPure at hx
      dsimp only at hx
      rw [hp f rfl] at hx
      cases hx
    | round o => cases hx

theorem callC_le (h : CallLe P rn1 rn2) {R1 R2 : Type} {F : R1 → R2} {f : Nat} {args : List PV} {st : St} {c : Nat} {K1 : PV → St → Option R1} {K2 : PV → St → Option R2} (hK : ∀ pv s x, K1 pv s = some x → K2 pv s = some (F x))
    {x : R1} (hx : callC P rn1 f args st c K1 = some x) : callC P rn2 f args st c K2 = some (F x) := by
  unfold callC at hx ⊢
  split at hx
  · unfold shelfC at hx ⊢
    split at hx
    · split at hx
      · split at hx
        · rename_i hq
          rw [if_pos hq]
          exact hK _ _ _ hx
        · cases hx
      · cases hx
    · cases hx
  split at hx
  · rename_i name he
    split at hx
    · rename_i args' s hs
      split at hx
      · exact hK _ _ _ hx
      · cases hx
    · cases hx
  · rename_i he
    split at hx
    · rename_i args' s tys hs ht
      split at hx
      · rename_i hall
        rw [if_pos hall]
        rw [Option.bind_eq_some_iff] at hx ⊢
        obtain ⟨y, hy, hd⟩ := hx
        exact ⟨y, h.own f args st args' s hs (by rw [ht]; rfl) hall y hy, hK _ _ _ hd⟩
      · rename_i hall
        rw [if_neg hall]
        exact h.far _ _ F _ _ _ _ _ (fun g hg => by cases hg; unfold pureArgs; rw [hs, ht]; simpa using hall) hK x hx
    · rename_i q1 q2 hq
      have hp : pureArgs P f args st = false := by
        unfold pureArgs
        split
        · rename_i a s t hs ht
          exact absurd ht (hq a s t hs)
        · rfl
      · exact h.far _ _ F _ _ _ _ _ (fun g hg => by cases hg; exact hp) hK x hx

theorem valOp_le (h : CallLe P rn1 rn2) {lp : Option ((R : Type) → Code → Nat → Nat → Fr → St → (Ex → Fr → St → Option R) → Option R)} {o : Oper} {c fid : Nat} {ρ : Operand → PV} {x : PV × St} (hx : valOp P { cfg with lp := lp } rn1 o c ρ fid st = some x) : valOp P cfg rn2 o c ρ fid st = some x := by
  have hw : ∀ op, valW P { cfg with lp := lp } fid o.dst ρ st c op = valW P cfg fid o.dst ρ st c op := fun op => rfl
  unfold valOp at hx ⊢
  split at hx
  · exact hx
  · exact hx
  · split at hx
    · rename_i hf
      exact callC_le h (F := id) (fun _ _ _ h => h) hx
    · rename_i hf
      exact h.far _ _ id _ _ _ _ _ (fun f hf => by cases hf) (fun _ _ _ h => h) x hx
    · cases hx
  · rw [hw] at hx; exact hx

end Go.Proofs.YthhllkiefncbnaaDoorSim
