/- An operation's value apart from the frame; which operations may trade places. -/
import Derived.Test.YthhllkiefncbnaaDoorSimK
namespace Go.Proofs.YthhllkiefncbnaaDoorSim
open Go
set_option linter.unusedVariables false
set_option linter.unusedSimpArgs false

/-- Whatever is done with a run's answer is done behind the run. -/
def RunNat (rn : Run) : Prop := ∀ (R : Type) (tgt : Tgt) (args : List PV) (st : St) (K : PV → St → Option R),
  rn R tgt args st K = (rn (PV × St) tgt args st fun v s => some (v, s)).bind fun p => K p.1 p.2

variable {P : Program} {cfg : Cfg} {rn : Run}

theorem bind_ite {α β : Type} (c : Prop) [Decidable c] (x y : Option α) (f : α → Option β) : (if c then x else y).bind f = if c then x.bind f else y.bind f := by split <;> rfl

theorem callC_nat (hn : RunNat rn) {R : Type} (f : Nat) (args : List PV) (st : St) (c : Nat) (K : PV → St → Option R) :
    callC P rn f args st c K = (callC P rn f args st c fun v s => some (v, s)).bind fun p => K p.1 p.2 := by
  unfold callC
  split
  · unfold shelfC
    split
    · split
      · split <;> rfl
      · rfl
    · rfl
  split
  · split
    · split <;> rfl
    · rfl
  · split
    · split
      · simp only [Option.bind_assoc]
        rfl
      · exact hn ..
    · exact hn ..

/-- What an operation hands back, and the state behind it. -/
def valOp (P : Program) (cfg : Cfg) (rn : Run) (o : Oper) (c : Nat) (ρ : Operand → PV) (fid : Nat) (st : St) : Option (PV × St) :=
  match o.op with
  | .pick x a b => match ρ x with
    | .c (.bool t) => if t then some (ρ a, st) else some (ρ b, st)
    | _ => none
  | .next it true => match ρ it with
    | .c (.ptr l off) => if off ≠ 0 then none else match st.objs[l]? with
      | some (.siter s pos) =>
        if pos < s.length then some (.tup [.inl (.bool true), .inl (.int .i64 pos), .inl (.int .i32 (decRune s pos).1)], setObj st l (.siter s (pos + (decRune s pos).2)))
        else some (.tup [.inl (.bool false)], st)
      | _ => none
    | _ => none
  | .call { callee := .value f, args, argTypes := _ } => match ρ f with
    | .c (.func g caps) => callC P rn g (args.toList.map ρ ++ ptrsOf caps) st c fun v s => some (v, s)
    | .c (.yield l) => rn _ (.round l) (args.toList.map ρ) st fun v s => some (v, s)
    | _ => none
  | op => stepK (valA P ρ st op) (valW P cfg fid o.dst ρ st c op) st fun v s => some (v, s)

theorem stepK_nat {R : Type} (va : Option (Bool × PV)) (vw : Option (Bool × PV × St)) (st : St) (K : PV → St → Option R) :
    stepK va vw st K = (stepK va vw st fun v s => some (v, s)).bind fun p => K p.1 p.2 := by
  unfold stepK
  cases va with
  | some q => obtain ⟨g, v⟩ := q; cases g <;> rfl
  | none =>
    cases vw with
    | some q => obtain ⟨g, v, st'⟩ := q; cases g <;> rfl
    | none => rfl

theorem opK_eq (hn : RunNat rn) {R : Type} (o : Oper) (c : Nat) (fr : Fr) (st : St) (K : Fr → St → Option R) :
    opK P cfg rn o c fr st K = (valOp P cfg rn o c (evalO fr.tmps) fr.fid st).bind fun p => K (fr.put o.dst p.1) p.2 := by
  unfold opK valOp
  generalize o.op = op
  cases op with
  | pick x a b' =>
    dsimp only
    cases hx : evalO fr.tmps x with
    | c y =>
      cases y with
      | bool t => cases t <;> rfl
      | _ => rfl
    | _ => rfl
  | next it bb =>
    cases bb with
    | false => exact stepK_nat ..
    | true =>
      dsimp only
      cases hx : evalO fr.tmps it with
      | c y =>
        cases y with
        | ptr l off =>
          dsimp only
          by_cases h0 : off ≠ 0
          · rw [if_pos h0, if_pos h0]; rfl
          · rw [if_neg h0, if_neg h0]
            cases hq : st.objs[l]? with
            | none => rfl
            | some x =>
              cases x with
              | siter s pos => dsimp only; split <;> rfl
              | _ => rfl
        | _ => rfl
      | _ => rfl
  | call cl =>
    obtain ⟨callee, args, ats⟩ := cl
    cases callee with
    | value f =>
      dsimp only
      cases hx : evalO fr.tmps f with
      | c y =>
        cases y with
        | func f caps => exact callC_nat hn ..
        | yield l => exact hn ..
        | _ => rfl
      | _ => rfl
    | _ => exact stepK_nat ..
  | _ => exact stepK_nat ..

def valOper (P : Program) (cfg : Cfg) (rn : Run) (o : Oper) (c : Nat) (ρ : Operand → PV) (gv : PV) (fid : Nat) (st : St) : Option (PV × St) :=
  match o.guard with
  | none => valOp P cfg rn o c ρ fid st
  | some (_, want) => match gv with
    | .c (.bool b) => match want with
      | true => if b then valOp P cfg rn o c ρ fid st else some (.tup [], st)
      | false => if b then some (.tup [], st) else valOp P cfg rn o c ρ fid st
    | .tup [] => some (.tup [], st)
    | _ => none

def gvOf (ops : Array Oper) (o : Oper) (tmps : List PV) : PV :=
  match o.guard with
  | none => .any
  | some (j, _) => guardOf ops tmps j

theorem operK_eq (hn : RunNat rn) {R : Type} (ops : Array Oper) (o : Oper) (c : Nat) (fr : Fr) (st : St) (K : Fr → St → Option R) :
    operK P cfg rn ops o c fr st K = (valOper P cfg rn o c (evalO fr.tmps) (gvOf ops o fr.tmps) fr.fid st).bind fun p => K (fr.put o.dst p.1) p.2 := by
  unfold operK valOper gvOf
  cases o.guard with
  | none => exact opK_eq hn ..
  | some q =>
    obtain ⟨j, want⟩ := q
    dsimp only
    cases guardOf ops fr.tmps j with
    | c y =>
      cases y with
      | bool t =>
        cases want <;> cases t <;> first | rfl | exact opK_eq hn ..
      | _ => rfl
    | tup vs => cases vs <;> rfl
    | _ => rfl

/-! ### What an operation looks at -/
theorem valA_congr {ρ ρ' : Operand → PV} {st : St} {op : Op} (h : ∀ x ∈ op.operands, ρ x = ρ' x) : valA P ρ st op = valA P ρ' st op := by
  have pairs : ∀ ps : List (Nat × Operand), (∀ p ∈ ps, ρ p.2 = ρ' p.2) → (ps.map fun (i, x) => (i, ρ x)) = (ps.map fun (i, x) => (i, ρ' x)) := fun ps hp =>
    List.map_congr_left fun p hm => by
      obtain ⟨i, x⟩ := p
      simp only [hp (i, x) hm]
  cases op <;> simp only [Op.operands] at h <;> try simp only [valA]
  case move x => rw [h x (by simp)]
  case assign x => rw [h x (by simp)]
  case nilCheck x => rw [h x (by simp)]
  case binOp op t x y yt => rw [h x (by simp), h y (by simp)]
  case unOp op t x => rw [h x (by simp)]
  case convert s d x => rw [h x (by simp)]
  case makeFunc fn first caps =>
    have e : caps.toList.map ρ = caps.toList.map ρ' := List.map_congr_left fun x hx => h x (by simp at hx; simp [hx])
    cases fn <;> simp only [valA, e]
  case build t ps => rw [pairs ps.toList fun p hp => h p.2 (by simp only [List.mem_toArray, List.mem_map]; exact ⟨p, hp, rfl⟩)]
  case slice t x lo hi mx =>
    have e1 : ρ x = ρ' x := h x (by simp)
    have e2 : lo.map ρ = lo.map ρ' := by cases lo <;> simp_all
    have e3 : hi.map ρ = hi.map ρ' := by cases hi <;> simp_all
    cases mx with
    | none => simp only [valA, e1, e2, e3]
    | some mx =>
      cases hi with
      | none => rfl
      | some hi => simp only [valA, e1, e2, h hi (by simp), h mx (by simp)]
  case field t x f => rw [h x (by simp)]
  case fieldAddr t x f => rw [h x (by simp)]
  case indexAddr t x i => rw [h x (by simp), h i (by simp)]
  case index t x i => rw [h x (by simp), h i (by simp)]
  case extract t i => rw [h t (by simp)]
  case load t a => rw [h a (by simp)]

theorem valW_congr {fid c : Nat} {dst : Option Nat} {ρ ρ' : Operand → PV} {st : St} {op : Op} (h : ∀ x ∈ op.operands, ρ x = ρ' x) : valW P cfg fid dst ρ st c op = valW P cfg fid dst ρ' st c op := by
  have pairs : ∀ ps : List (Nat × Operand), (∀ p ∈ ps, ρ p.2 = ρ' p.2) → (ps.map fun (i, x) => (i, ρ x)) = (ps.map fun (i, x) => (i, ρ' x)) := fun ps hp =>
    List.map_congr_left fun p hm => by
      obtain ⟨i, x⟩ := p
      simp only [hp (i, x) hm]
  cases op <;> simp only [Op.operands] at h <;> simp only [valW]
  case box t x => rw [h x (by simp)]
  case store t a x => rw [h a (by simp), h x (by simp)]
  case buildSlice t n ps => rw [pairs ps.toList fun p hp => h p.2 (by simp only [List.mem_toArray, List.mem_map]; exact ⟨p, hp, rfl⟩)]
  case makeSlice t a c' => rw [h a (by simp), h c' (by simp)]
  case convert s d x => rw [h x (by simp)]
  case range t x => rw [h x (by simp)]
  case call cl =>
    obtain ⟨callee, args, argTypes⟩ := cl
    simp only [Call.operands] at h
    cases callee with
    | builtin bt =>
      have hx : ∀ x ∈ args.toList, ρ x = ρ' x := fun x hx => h x (by simp at hx; simp [hx])
      simp only [valW]
      generalize args.toList = al at hx
      generalize argTypes.toList = tl
      cases bt <;> simp only [builtinW]
      case append =>
        split
        · rename_i s x t t'
          rw [hx s (by simp), hx x (by simp)]
        · rfl
      case len =>
        split
        · rename_i x t
          rw [hx x (by simp)]
        · rfl
      case min =>
        split
        · rename_i x y
          rw [hx x (by simp), hx y (by simp)]
        · rfl
      case max =>
        split
        · rename_i x y
          rw [hx x (by simp), hx y (by simp)]
        · rfl
    | value f => rfl
    | invoke r m => rfl

theorem valOp_congr {o : Oper} {c fid : Nat} {ρ ρ' : Operand → PV} {st : St} (h : ∀ x ∈ o.op.operands, ρ x = ρ' x) : valOp P cfg rn o c ρ fid st = valOp P cfg rn o c ρ' fid st := by
  have hA := valA_congr (P := P) (st := st) h
  have hW := valW_congr (P := P) (cfg := cfg) (fid := fid) (c := c) (dst := o.dst) (st := st) h
  unfold valOp
  split
  · rename_i x a b' hop
    rw [hop] at h
    simp only [Op.operands] at h
    rw [h x (by simp), h a (by simp), h b' (by simp)]
  · rename_i it hop
    rw [hop] at h
    simp only [Op.operands] at h
    rw [h it (by simp)]
  · rename_i f args ats hop
    rw [hop] at h
    simp only [Op.operands, Call.operands] at h
    have e : args.toList.map ρ = args.toList.map ρ' := List.map_congr_left fun x hx => h x (by simp at hx; simp [hx])
    rw [h f (by simp), e]
  · rw [hA, hW]

end Go.Proofs.YthhllkiefncbnaaDoorSim
