/- Operations trade places; every order that the model may draw comes to one end. -/
import Derived.Test.YthhllkiefncbnaaDoorSimL
namespace Go.Proofs.YthhllkiefncbnaaDoorSim
open Go
set_option linter.unusedVariables false
set_option linter.unusedSimpArgs false

variable {P : Program} {cfg : Cfg} {rn : Run}

theorem valA_pure {ρ : Operand → PV} {st st2 : St} {op : Op} (h : opKind P op = .pure) : valA P ρ st op = valA P ρ st2 op := by
  cases op <;> first
    | rfl
    | (rename_i fn _ _; cases fn <;> rfl)
    | (rename_i lo hi mx; cases hi <;> cases mx <;> rfl)
    | (simp [opKind] at h; done)

theorem valW_pure {ρ : Operand → PV} {st : St} {op : Op} {fid c : Nat} {dst : Option Nat} (h : opKind P op = .pure) : valW P cfg fid dst ρ st c op = none := by
  cases op with
  | convert src d x =>
    simp only [opKind] at h
    simp only [valW]
    split
    · rename_i h1 h2 h3
      rw [h1, h2] at h; simp at h
    · rename_i h1 h2 h3
      rw [h1, h2] at h; simp at h
    · rename_i h1 h2 h3
      rw [h1, h2] at h; simp at h
    · rfl
  | call cl => simp only [opKind, callKind] at h; split at h <;> cases h
  | _ => first | rfl | (simp [opKind] at h)

theorem builtinW_reads {ρ : Operand → PV} {st st2 st' : St} {bt : Builtin} {args : List Operand} {tys : List TypeId} {c : Nat} {g : Bool} {v : PV} (hb : bt = .len ∨ bt = .min ∨ bt = .max) {vd : Bool} (hs : ∀ (o : Nat) (τ : Ty) (l : List τ.den) (fz : Bool), st.objs[o]? = some (.row τ l fz) → ∃ fz', st2.objs[o]? = some (.row τ l fz')) (hs' : ∀ (o : Nat) (τ : Ty) (l : List τ.den) (fz : Bool), st.objs[o]? = some (.vec τ l fz) → ∃ fz', st2.objs[o]? = some (.vec τ l fz')) (hv : builtinW P vd st c ρ bt args tys = some (g, v, st')) :
    st' = st ∧ builtinW P vd st2 c ρ bt args tys = some (g, v, st2) := by
  rcases hb with rfl | rfl | rfl
  · simp only [builtinW] at hv ⊢
    split at hv
    · rename_i x t
      rw [Option.map_eq_some_iff] at hv
      obtain ⟨u, hu, e⟩ := hv
      cases e
      refine ⟨rfl, ?_⟩
      rw [Option.map_eq_some_iff]
      refine ⟨u, ?_, rfl⟩
      unfold lenC at hu ⊢
      split at hu
      · exact hu
      · exact hu
      · exact hu
      · split at hu
        · rename_i τ l fz ho
          obtain ⟨fz', e⟩ := hs _ _ _ _ ho
          rw [e]; exact hu
        · cases hu
      · split at hu
        · rename_i τ l fz ho
          obtain ⟨fz', e⟩ := hs' _ _ _ _ ho
          rw [e]; exact hu
        · cases hu
      · exact hu
      · cases hu
    · cases hv
  · simp only [builtinW] at hv ⊢
    split at hv
    · rw [Option.map_eq_some_iff] at hv
      obtain ⟨u, hu, e⟩ := hv
      cases e
      exact ⟨rfl, by rw [hu]; rfl⟩
    · cases hv
  · simp only [builtinW] at hv ⊢
    split at hv
    · rw [Option.map_eq_some_iff] at hv
      obtain ⟨u, hu, e⟩ := hv
      cases e
      exact ⟨rfl, by rw [hu]; rfl⟩
    · cases hv

theorem callKind_reads {cl : Call} (h : callKind cl = .reads) : ∃ bt args tys, cl = { callee := .builtin bt, args := args, argTypes := tys } ∧ (bt = .len ∨ bt = .min ∨ bt = .max) := by
  obtain ⟨cal, args, tys⟩ := cl
  unfold callKind at h
  dsimp only at h
  split at h
  · cases h
  · exact ⟨_, args, tys, rfl, .inl rfl⟩
  · exact ⟨_, args, tys, rfl, .inr (.inl rfl)⟩
  · exact ⟨_, args, tys, rfl, .inr (.inr rfl)⟩
  · cases h

theorem valW_reads {ρ : Operand → PV} {st st' : St} {op : Op} {fid c : Nat} {dst : Option Nat} {g : Bool} {v : PV} (h : opKind P op = .reads) (hv : valW P cfg fid dst ρ st c op = some (g, v, st')) : st' = st := by
  cases op with
  | convert src d x =>
    simp only [opKind] at h
    simp only [valW] at hv
    split at hv
    · rename_i h1 h2 h3
      rw [h1, h2] at h; simp at h
    · split at hv
      · split at hv
        · cases hv; rfl
        · cases hv
      · cases hv
    · rename_i h1 h2 h3
      rw [h1, h2] at h; simp at h
    · cases hv
  | call cl =>
    obtain ⟨bt, args, tys, rfl, hb⟩ := callKind_reads h
    exact (builtinW_reads hb (st2 := st) (fun o τ l fz ho => ⟨fz, ho⟩) (fun o τ l fz ho => ⟨fz, ho⟩) hv).1
  | _ => first | (simp [valW] at hv; done) | (simp [opKind] at h)

/-- An operation that makes a value alone: whatever the state, the same. -/
theorem valOp_pure {o : Oper} {c fid : Nat} {ρ : Operand → PV} {st st' : St} {v : PV} (h : opKind P o.op = .pure) (hv : valOp P cfg rn o c ρ fid st = some (v, st')) :
    st' = st ∧ ∀ st2, valOp P cfg rn o c ρ fid st2 = some (v, st2) := by
  unfold valOp at hv ⊢
  generalize hq : o.op = op at hv h ⊢
  cases op with
  | pick x a b =>
    dsimp only at hv ⊢
    split at hv
    · rename_i t ht
      split at hv
      · rename_i q; cases hv; exact ⟨rfl, fun st2 => by rw [if_pos q]⟩
      · rename_i q; cases hv; exact ⟨rfl, fun st2 => by rw [if_neg q]⟩
    · cases hv
  | next it bb => simp [opKind] at h
  | call cl => simp only [opKind, callKind] at h; split at h <;> cases h
  | _ =>
    dsimp only at hv ⊢
    rw [valW_pure (P := P) (cfg := cfg) h] at hv
    unfold stepK at hv
    split at hv
    · rename_i g' v' hA
      split at hv
      · rename_i hg
        cases hv
        refine ⟨rfl, fun st2 => ?_⟩
        rw [valW_pure (P := P) (cfg := cfg) h, valA_pure (st2 := st) h, hA]
        simp [stepK, hg]
      · cases hv
    · cases hv

theorem valOp_keeps {o : Oper} {c fid : Nat} {ρ : Operand → PV} {st st' : St} {v : PV} (h : opKind P o.op ≠ .writes) (h' : opKind P o.op ≠ .calls) (hv : valOp P cfg rn o c ρ fid st = some (v, st')) : st' = st := by
  cases hk : opKind P o.op with
  | writes => exact absurd hk h
  | calls => exact absurd hk h'
  | pure => exact (valOp_pure hk hv).1
  | reads =>
    unfold valOp at hv
    generalize hq : o.op = op at hv hk
    cases op with
    | pick x a b => simp [opKind] at hk
    | next it bb => simp [opKind] at hk
    | call cl =>
      obtain ⟨bt, args, tys, rfl, hb⟩ := callKind_reads hk
      dsimp only at hv
      unfold stepK at hv
      split at hv
      · split at hv
        · cases hv; rfl
        · cases hv
      · split at hv
        · rename_i hW
          split at hv
          · cases hv; exact valW_reads hk hW
          · cases hv
        · cases hv
    | _ =>
      dsimp only at hv
      unfold stepK at hv
      split at hv
      · split at hv
        · cases hv; rfl
        · cases hv
      · split at hv
        · rename_i hW
          split at hv
          · cases hv; exact valW_reads hk hW
          · cases hv
        · cases hv

theorem valOper_pure {o : Oper} {c fid : Nat} {ρ : Operand → PV} {gv : PV} {st st' : St} {v : PV} (h : opKind P o.op = .pure) (hv : valOper P cfg rn o c ρ gv fid st = some (v, st')) :
    st' = st ∧ ∀ st2, valOper P cfg rn o c ρ gv fid st2 = some (v, st2) := by
  unfold valOper at hv ⊢
  cases hg : o.guard with
  | none => rw [hg] at hv; exact valOp_pure h hv
  | some q =>
    obtain ⟨j, want⟩ := q
    rw [hg] at hv
    dsimp only at hv ⊢
    cases gv with
    | c y =>
      cases y with
      | bool t => cases want <;> cases t <;> first | exact valOp_pure h hv | (cases hv; exact ⟨rfl, fun _ => rfl⟩)
      | _ => cases hv
    | tup vs =>
      cases vs with
      | nil => cases hv; exact ⟨rfl, fun _ => rfl⟩
      | cons => cases hv
    | _ => cases hv

theorem valOper_keeps {o : Oper} {c fid : Nat} {ρ : Operand → PV} {gv : PV} {st st' : St} {v : PV} (h : opKind P o.op ≠ .writes) (h' : opKind P o.op ≠ .calls) (hv : valOper P cfg rn o c ρ gv fid st = some (v, st')) : st' = st := by
  unfold valOper at hv
  cases hg : o.guard with
  | none => rw [hg] at hv; exact valOp_keeps h h' hv
  | some q =>
    obtain ⟨j, want⟩ := q
    rw [hg] at hv
    dsimp only at hv
    cases gv with
    | c y =>
      cases y with
      | bool t => cases want <;> cases t <;> first | exact valOp_keeps h h' hv | (cases hv; rfl)
      | _ => cases hv
    | tup vs =>
      cases vs with
      | nil => cases hv; rfl
      | cons => cases hv
    | _ => cases hv

theorem valOper_congr {o : Oper} {c fid : Nat} {ρ ρ' : Operand → PV} {gv : PV} {st : St} (h : ∀ x ∈ o.op.operands, ρ x = ρ' x) : valOper P cfg rn o c ρ gv fid st = valOper P cfg rn o c ρ' gv fid st := by
  unfold valOper
  rw [valOp_congr h]

/-- One operation, as a step. -/
def opP (P : Program) (cfg : Cfg) (rn : Run) (ops : Array Oper) (c0 i : Nat) (s : Fr × St) : Option (Fr × St) :=
  match ops[i]? with
  | none => some s
  | some o => (valOper P cfg rn o (c0 + 8 * i) (evalO s.1.tmps) (gvOf ops o s.1.tmps) s.1.fid s.2).map fun p => (s.1.put o.dst p.1, p.2)

def opsP (P : Program) (cfg : Cfg) (rn : Run) (ops : Array Oper) (c0 : Nat) : List Nat → Fr × St → Option (Fr × St)
  | [], s => some s
  | i :: r, s => (opP P cfg rn ops c0 i s).bind (opsP P cfg rn ops c0 r)

theorem opsK_eq (hn : RunNat rn) {R : Type} (ops : Array Oper) (c0 : Nat) : ∀ (l : List Nat) (fr : Fr) (st : St) (K : Fr → St → Option R),
    opsK P cfg rn ops c0 l fr st K = (opsP P cfg rn ops c0 l (fr, st)).bind fun s => K s.1 s.2
  | [], fr, st, K => rfl
  | i :: r, fr, st, K => by
    simp only [opsK, opsP, opP]
    cases ho : ops[i]? with
    | none => simp only [Option.bind_some]; exact opsK_eq hn ops c0 r fr st K
    | some o =>
      simp only
      rw [operK_eq hn]
      cases valOper P cfg rn o (c0 + 8 * i) (evalO fr.tmps) (gvOf ops o fr.tmps) fr.fid st with
      | none => rfl
      | some p =>
        simp only [Option.bind_some, Option.map_some]
        exact opsK_eq hn ops c0 r _ _ K

/-- What a mode says of the frame. -/
def ModeOk (ops : Array Oper) (m : GMode) (fr : Fr) : Prop := ∀ j s, m = some (j, s) → (∃ b, s = some b ∧ guardOf ops fr.tmps j = .c (.bool b)) ∨ (s = none ∧ guardOf ops fr.tmps j = .tup [])

theorem keepMode_ok {ops : Array Oper} {m : GMode} {fr : Fr} {o : Oper} (h : ModeOk ops m fr) (v : PV) : ModeOk ops (keepMode ops m o) (fr.put o.dst v) := fun j s e => by
  unfold keepMode at e
  split at e
  · rename_i j' s'
    split at e
    · cases e
    · rename_i hne
      cases e
      have hg : guardOf ops (fr.put o.dst v).tmps j = guardOf ops fr.tmps j := by
        unfold guardOf
        cases hd : (ops[j]?).bind (·.dst) with
        | none => rfl
        | some d =>
          cases ho : o.dst with
          | none => rfl
          | some t =>
            have : t ≠ d := fun q => hne (by rw [hd, ho, q])
            simp [Fr.put, List.getD, List.getElem?_set, this]
      rw [hg]
      exact h j s rfl
  · cases e

theorem opsG_eq {R : Type} (hn : RunNat rn) (ops : Array Oper) (c0 : Nat) : ∀ (l : List Nat) (m : GMode) (fr : Fr) (st : St) (K : Fr → St → Option R), ModeOk ops m fr → opsG P cfg rn ops c0 m l fr st K = opsK P cfg rn ops c0 l fr st K
  | [], m, fr, st, K, _ => rfl
  | i :: r, m, fr, st, K, hm => by
    have run : ∀ (o : Oper) (m' : GMode), ModeOk ops m' fr → (opK P cfg rn o (c0 + 8 * i) fr st fun fr' st' => opsG P cfg rn ops c0 (keepMode ops m' o) r fr' st' K) = opK P cfg rn o (c0 + 8 * i) fr st fun fr' st' => opsK P cfg rn ops c0 r fr' st' K := fun o m' hm' => by
      rw [opK_eq hn, opK_eq hn]
      congr 1
      funext p
      exact opsG_eq hn ops c0 r _ _ _ K (keepMode_ok hm' _)
    have skip : ∀ (o : Oper) (m' : GMode), ModeOk ops m' fr → opsG P cfg rn ops c0 (keepMode ops m' o) r (fr.put o.dst (.tup [])) st K = opsK P cfg rn ops c0 r (fr.put o.dst (.tup [])) st K := fun o m' hm' => opsG_eq hn ops c0 r _ _ _ K (keepMode_ok hm' _)
    simp only [opsG, opsK]
    cases ho : ops[i]? with
    | none => exact opsG_eq hn ops c0 r m fr st K hm
    | some o =>
      dsimp only
      unfold operK
      cases hg : o.guard with
      | none => exact run o m hm
      | some g =>
        obtain ⟨j, want⟩ := g
        clear hg
        dsimp only
        cases hgd : guardOf ops fr.tmps j with
        | c x =>
          cases x with
          | bool b =>
            have mk : ∀ b', b' = b → ModeOk ops (some (j, some b')) fr := fun b' e j' s' q => by cases q; exact .inl ⟨b', rfl, by rw [e]; exact hgd⟩
            cases m with
            | none => cases b <;> cases want <;> first | exact run o _ (mk _ rfl) | exact skip o _ (mk _ rfl)
            | some q =>
              obtain ⟨j', s⟩ := q
              dsimp only
              by_cases e : j' = j
              · rw [if_pos e]
                subst e
                rcases hm j' s rfl with ⟨b', rfl, hb⟩ | ⟨_, hb⟩
                · rw [hgd] at hb
                  cases hb
                  cases b <;> cases want <;> first | exact run o _ hm | exact skip o _ hm
                · rw [hgd] at hb; cases hb
              · rw [if_neg e]
                cases b <;> cases want <;> first | exact run o _ (mk _ rfl) | exact skip o _ (mk _ rfl)
          | _ =>
            cases m with
            | none => rfl
            | some q =>
              obtain ⟨j', s⟩ := q
              dsimp only
              by_cases e : j' = j
              · subst e
                rcases hm j' s rfl with ⟨b', _, hb⟩ | ⟨_, hb⟩ <;> (rw [hgd] at hb; cases hb)
              · rw [if_neg e]
        | tup vs =>
          cases vs with
          | nil =>
            have mk : ModeOk ops (some (j, none)) fr := fun j' s' q => by cases q; exact .inr ⟨rfl, hgd⟩
            cases m with
            | none => exact skip o _ mk
            | some q =>
              obtain ⟨j', s⟩ := q
              dsimp only
              by_cases e : j' = j
              · rw [if_pos e]
                subst e
                rcases hm j' s rfl with ⟨b', _, hb⟩ | ⟨rfl, hb⟩
                · rw [hgd] at hb; cases hb
                · exact skip o _ hm
              · rw [if_neg e]
                exact skip o _ mk
          | cons v vs =>
            cases m with
            | none => rfl
            | some q =>
              obtain ⟨j', s⟩ := q
              dsimp only
              by_cases e : j' = j
              · subst e
                rcases hm j' s rfl with ⟨b', _, hb⟩ | ⟨_, hb⟩ <;> (rw [hgd] at hb; cases hb)
              · rw [if_neg e]
        | _ =>
          cases m with
          | none => rfl
          | some q =>
            obtain ⟨j', s⟩ := q
            dsimp only
            by_cases e : j' = j
            · subst e
              rcases hm j' s rfl with ⟨b', _, hb⟩ | ⟨_, hb⟩ <;> (rw [hgd] at hb; cases hb)
            · rw [if_neg e]

theorem evalO_set {tmps : List PV} {d : Nat} {v : PV} {x : Operand} (h : x ≠ .tmp d) : evalO (tmps.set d v) x = evalO tmps x := by
  cases x with
  | tmp t =>
    have : d ≠ t := fun e => h (by rw [e])
    simp [evalO, List.getD, List.getElem?_set, this]
  | _ => rfl

theorem fid_put (fr : Fr) (d : Option Nat) (v : PV) : (fr.put d v).fid = fr.fid := by cases d <;> rfl

theorem looks_operand {ops : Array Oper} {o : Oper} {t : Nat} (h : Operand.tmp t ∈ o.op.operands) : t ∈ looks ops o := by
  unfold looks
  apply List.mem_append_left
  rw [List.mem_filterMap]
  exact ⟨.tmp t, by simpa using h, rfl⟩

theorem evalO_put {ops : Array Oper} {o : Oper} {fr : Fr} {d : Option Nat} {v : PV} (h : ∀ t, d = some t → t ∉ looks ops o) : ∀ x ∈ o.op.operands, evalO (fr.put d v).tmps x = evalO fr.tmps x := fun x hx => by
  cases d with
  | none => rfl
  | some t => exact evalO_set fun e => h t rfl (looks_operand (e ▸ hx))

theorem gvOf_put {ops : Array Oper} {o : Oper} {fr : Fr} {d : Option Nat} {v : PV} (h : ∀ t, d = some t → t ∉ looks ops o) : gvOf ops o (fr.put d v).tmps = gvOf ops o fr.tmps := by
  unfold gvOf
  cases hg : o.guard with
  | none => rfl
  | some q =>
    obtain ⟨j, want⟩ := q
    dsimp only
    unfold guardOf
    cases hd : (ops[j]?).bind (·.dst) with
    | none => rfl
    | some e =>
      dsimp only
      cases d with
      | none => rfl
      | some t =>
        have : t ≠ e := fun q => h t rfl (by unfold looks; rw [hg]; apply List.mem_append_right; simp [hd, q])
        simp [Fr.put, List.getD, List.getElem?_set, this]

theorem put_comm (fr : Fr) {x y : Option Nat} (v u : PV) (h : ∀ d, x = some d → y ≠ some d) : (fr.put x v).put y u = (fr.put y u).put x v := by
  cases x with
  | none => rfl
  | some d =>
    cases y with
    | none => rfl
    | some e =>
      have : d ≠ e := fun q => h d rfl (by rw [q])
      simp [Fr.put, List.set_comm _ _ this]

theorem apartC_spec {q : Bool} {ro : Nat → Bool} {ops : Array Oper} {x y : Oper} (h : apartC P q ro ops x y = true) :
    kindsApart q (opKindO P ro x) (opKindO P ro y) = true ∧ (∀ d, x.dst = some d → d ∉ looks ops y) ∧ (∀ d, x.dst = some d → y.dst ≠ some d) ∧ (∀ d, y.dst = some d → d ∉ looks ops x) := by
  unfold apartC at h
  simp only [Bool.and_eq_true] at h
  obtain ⟨⟨h1, h2⟩, h3⟩ := h
  refine ⟨h1, fun d hd => ?_, fun d hd => ?_, fun d hd => ?_⟩
  · rw [hd] at h2; simp at h2; exact h2.1
  · rw [hd] at h2; simp at h2; exact h2.2
  · rw [hd] at h3; simpa using h3

/-! ### Calls that see nothing of their callers' states -/
def unfz : AObj → AObj
  | .row τ l _ => .row τ l false
  | .vec τ l _ => .vec τ l false
  | x => x

/-- The same, but for what is frozen. -/
def SameO (st st' : St) : Prop := st.objs.map unfz = st'.objs.map unfz

theorem SameO.refl (st : St) : SameO st st := rfl
theorem SameO.symm {st st' : St} (h : SameO st st') : SameO st' st := Eq.symm h
theorem SameO.trans {a b c : St} (h : SameO a b) (k : SameO b c) : SameO a c := Eq.trans h k

theorem SameO.get {st st' : St} (h : SameO st st') (o : Nat) : (st.objs[o]?).map unfz = (st'.objs[o]?).map unfz := by
  rw [← List.getElem?_map, ← List.getElem?_map, show st.objs.map unfz = st'.objs.map unfz from h]

theorem SameO.cells {st st' : St} (h : SameO st st') {o : Nat} {cs : List C} (ho : st.objs[o]? = some (.cells cs)) : st'.objs[o]? = some (.cells cs) := by
  have := h.get o
  rw [ho] at this
  cases hx : st'.objs[o]? with
  | none => rw [hx] at this; cases this
  | some x => rw [hx] at this; cases x <;> simp_all [unfz]

theorem SameO.row {st st' : St} (h : SameO st st') {o : Nat} {τ : Ty} {l : List τ.den} {fz : Bool} (ho : st.objs[o]? = some (.row τ l fz)) : ∃ fz', st'.objs[o]? = some (.row τ l fz') := by
  have := h.get o
  rw [ho] at this
  cases hx : st'.objs[o]? with
  | none => rw [hx] at this; cases this
  | some x =>
    rw [hx] at this
    cases x with
    | row τ' l' fz' =>
      simp only [Option.map_some, unfz, Option.some.injEq, AObj.row.injEq, and_true] at this
      obtain ⟨rfl, e⟩ := this
      exact ⟨fz', by rw [eq_of_heq e]⟩
    | _ => simp [unfz] at this

theorem SameO.vec {st st' : St} (h : SameO st st') {o : Nat} {τ : Ty} {l : List τ.den} {fz : Bool} (ho : st.objs[o]? = some (.vec τ l fz)) : ∃ fz', st'.objs[o]? = some (.vec τ l fz') := by
  have := h.get o
  rw [ho] at this
  cases hx : st'.objs[o]? with
  | none => rw [hx] at this; cases this
  | some x =>
    rw [hx] at this
    cases x with
    | vec τ' l' fz' =>
      simp only [Option.map_some, unfz, Option.some.injEq, AObj.vec.injEq, and_true] at this
      obtain ⟨rfl, e⟩ := this
      exact ⟨fz', by rw [eq_of_heq e]⟩
    | _ => simp [unfz] at this

theorem settleC_same {st st' : St} {x y : C} (h : settleC st x = some (y, st')) : SameO st st' := by
  cases x with
  | mslice o =>
    simp only [settleC] at h
    split at h
    · rename_i τ l fz ho
      cases h
      have hlt := (List.getElem?_eq_some_iff.1 ho).1
      unfold SameO setObj
      apply List.ext_getElem?
      intro i
      simp only [List.getElem?_map, List.getElem?_set]
      by_cases e : o = i
      · subst e; rw [if_pos rfl, if_pos hlt, ho]; rfl
      · rw [if_neg e]
    · cases h
  | vslice o =>
    simp only [settleC] at h
    split at h
    · rename_i τ l fz ho
      cases h
      have hlt := (List.getElem?_eq_some_iff.1 ho).1
      unfold SameO setObj
      apply List.ext_getElem?
      intro i
      simp only [List.getElem?_map, List.getElem?_set]
      by_cases e : o = i
      · subst e; rw [if_pos rfl, if_pos hlt, ho]; rfl
      · rw [if_neg e]
    · cases h
  | _ => simp only [settleC, Option.some.injEq, Prod.mk.injEq] at h; rw [← h.2]; exact SameO.refl _

theorem settleCs_same : ∀ {xs ys : List C} {st st' : St}, settleCs st xs = some (ys, st') → SameO st st'
  | [], ys, st, st', h => by simp only [settleCs, Option.some.injEq, Prod.mk.injEq] at h; rw [← h.2]; exact SameO.refl _
  | x :: xs, ys, st, st', h => by
    simp only [settleCs] at h
    split at h
    · rename_i h1
      split at h
      · rename_i h2
        cases h
        exact (settleC_same h1).trans (settleCs_same h2)
      · cases h
    · cases h

theorem settlePV_same {st st' : St} {x y : PV} (h : settlePV st x = some (y, st')) : SameO st st' := by
  cases x with
  | c x =>
    simp only [settlePV, Option.map_eq_some_iff, Prod.mk.injEq] at h
    obtain ⟨⟨y', s⟩, h1, rfl, rfl⟩ := h
    exact settleC_same h1
  | agg cs =>
    simp only [settlePV, Option.map_eq_some_iff, Prod.mk.injEq] at h
    obtain ⟨⟨y', s⟩, h1, rfl, rfl⟩ := h
    exact settleCs_same h1
  | _ => simp [settlePV] at h

theorem settlePVs_same : ∀ {xs ys : List PV} {st st' : St}, settlePVs st xs = some (ys, st') → SameO st st'
  | [], ys, st, st', h => by simp only [settlePVs, Option.some.injEq, Prod.mk.injEq] at h; rw [← h.2]; exact SameO.refl _
  | x :: xs, ys, st, st', h => by
    simp only [settlePVs] at h
    split at h
    · rename_i h1
      split at h
      · rename_i h2
        cases h
        exact (settlePV_same h1).trans (settlePVs_same h2)
      · cases h
    · cases h

theorem retPV_same {f c : Nat} {x : (RTy P f).den} {st : St} : SameO st (retPV P f x c st).2 := by
  unfold retPV
  split
  · generalize encRes P f (toCells (RTy P f) x) = d
    revert x
    generalize RTy P f = τ
    intro x
    cases τ <;> exact SameO.refl _
  · exact SameO.refl _

/-- Every call of this run sees nothing of its caller's state. -/
def Quiet (P : Program) (rn : Run) : Prop := ∀ (R : Type) (tgt : Tgt) (args : List PV) (st : St) (K : PV → St → Option R), (∀ f, tgt = .fn f → pureArgs P f args st = false) → rn R tgt args st K = none

theorem rnPure_quiet : Quiet P (rnPure P rn) := fun R tgt args st K h => by
  cases tgt with
  | fn f => simp [rnPure, h f rfl]
  | round o => rfl

theorem callC_quiet (hq : Quiet P rn) {f c : Nat} {args : List PV} {st : St} {x : PV × St} (h : callC P rn f args st c (fun v s => some (v, s)) = some x) : SameO st x.2 := by
  unfold callC at h
  split at h
  · unfold shelfC at h
    split at h
    · split at h
      · split at h
        · cases h; exact SameO.refl _
        · cases h
      · cases h
    · cases h
  split at h
  · split at h
    · split at h
      · cases h; exact SameO.refl _
      · cases h
    · cases h
  · split at h
    · rename_i args' s tys hs ht
      split at h
      · rw [Option.bind_eq_some_iff] at h
        obtain ⟨y, _, hy⟩ := h
        cases hy
        exact (settlePVs_same hs).trans retPV_same
      · rename_i hall
        rw [hq _ _ _ _ _ (fun g hg => by cases hg; unfold pureArgs; rw [hs, ht]; simpa using hall)] at h
        cases h
    · rename_i q1 q2 hqq
      have hp : pureArgs P f args st = false := by
        unfold pureArgs
        split
        · rename_i a s t hs ht
          exact absurd ht (hqq a s t hs)
        · rfl
      rw [hq _ _ _ _ _ (fun g hg => by cases hg; exact hp)] at h
      cases h

theorem valOp_calls (hq : Quiet P rn) {o : Oper} {c fid : Nat} {ρ : Operand → PV} {st st' : St} {v : PV} (h : opKind P o.op = .calls) (hv : valOp P cfg rn o c ρ fid st = some (v, st')) : SameO st st' := by
  unfold valOp at hv
  split at hv
  · rename_i hop; rw [hop] at h; simp [opKind] at h
  · rename_i hop; rw [hop] at h; simp [opKind] at h
  · split at hv
    · exact callC_quiet hq hv
    · rw [hq _ _ _ _ _ (fun g hg => by cases hg)] at hv; cases hv
    · cases hv
  · rename_i h1 h2 h3
    cases hop : o.op with
    | call cl =>
      rw [hop] at h
      simp only [opKind, callKind] at h
      split at h
      · rename_i f hf
        obtain ⟨cal, args, ats⟩ := cl
        simp only at hf
        subst hf
        exact absurd hop (h3 f args ats)
      all_goals cases h
    | convert a b' x => rw [hop] at h; simp only [opKind] at h; split at h <;> cases h
    | _ => rw [hop] at h; simp [opKind] at h

theorem valA_same {ρ : Operand → PV} {st st' : St} {op : Op} {q : Bool} {v : PV} (hs : SameO st st') (h : opKind P op = .reads) (hv : valA P ρ st op = some (q, v)) : valA P ρ st' op = some (q, v) := by
  cases op with
  | load t a =>
    simp only [valA] at hv ⊢
    split at hv
    · rename_i o off ha
      split at hv
      · rename_i cs ho
        rw [hs.cells ho]; exact hv
      · rename_i τ l fz ho
        obtain ⟨fz', e⟩ := hs.row ho
        rw [e]; exact hv
      · cases hv
    · rename_i o i z ha
      split at hv
      · rename_i τ l fz ho
        obtain ⟨fz', e⟩ := hs.row ho
        rw [e]; exact hv
      · rename_i τ l fz ho
        obtain ⟨fz', e⟩ := hs.vec ho
        rw [e]; exact hv
      · cases hv
    · rename_i o i z f ha
      split at hv
      · rename_i τ l fz ho
        obtain ⟨fz', e⟩ := hs.row ho
        rw [e]; exact hv
      · rename_i τ l fz ho
        obtain ⟨fz', e⟩ := hs.vec ho
        rw [e]; exact hv
      · cases hv
    · exact hv
    · exact hv
    · rename_i o off n i k ha
      split at hv
      · rename_i cs k' ho hu
        rw [hs.cells ho, hu]; exact hv
      · cases hv
    · cases hv
  | indexAddr t x i =>
    simp only [valA] at hv ⊢
    split at hv
    · exact hv
    · rename_i e o n h1 h2 h3
      split at hv
      · rename_i τ l fz ho
        obtain ⟨fz', e⟩ := hs.row ho
        rw [e]; exact hv
      · cases hv
    · rename_i e o n h1 h2 h3
      split at hv
      · rename_i τ l fz ho
        obtain ⟨fz', e⟩ := hs.vec ho
        rw [e]; exact hv
      · cases hv
    · exact hv
    · rename_i len e o off k n h1 h2 h3
      split at hv
      · rename_i q τ l fz ho
        obtain ⟨fz', e⟩ := hs.row ho
        rw [e]; exact hv
      · rename_i cs k' ho hu
        rw [hs.cells ho, hu]; exact hv
      · cases hv
    · cases hv
  | convert a b' x => exact hv
  | call cl => simp [valA] at hv
  | _ => simp [opKind] at h

theorem valW_same {ρ : Operand → PV} {st st' : St} {op : Op} {fid c : Nat} {dst : Option Nat} (hs : SameO st st') (h : opKind P op = .reads) {q : Bool} {v : PV} {s : St} (hv : valW P cfg fid dst ρ st c op = some (q, v, s)) : valW P cfg fid dst ρ st' c op = some (q, v, st') := by
  cases op with
  | convert src d x =>
    simp only [opKind] at h
    simp only [valW] at hv ⊢
    split at hv
    · rename_i h1 h2 h3
      rw [h1, h2] at h; simp at h
    · split at hv
      · rename_i ho
        obtain ⟨fz', e⟩ := hs.row ho
        rw [e]
        split at hv
        · rename_i hu
          cases hv
          dsimp only
          rw [if_pos hu]
        · cases hv
      · cases hv
    · rename_i h1 h2 h3
      rw [h1, h2] at h; simp at h
    · cases hv
  | call cl =>
    obtain ⟨bt, args, tys, rfl, hb⟩ := callKind_reads h
    exact (builtinW_reads hb (fun o τ l fz ho => hs.row ho) (fun o τ l fz ho => hs.vec ho) hv).2
  | _ => first | (simp [valW] at hv; done) | (simp [opKind] at h)

theorem valOp_reads {o : Oper} {c fid : Nat} {ρ : Operand → PV} {st st2 st' : St} {v : PV} (hs : SameO st st2) (h : opKind P o.op = .reads) (hv : valOp P cfg rn o c ρ fid st = some (v, st')) : valOp P cfg rn o c ρ fid st2 = some (v, st2) := by
  unfold valOp at hv ⊢
  generalize hq : o.op = op at hv h ⊢
  have key : (stepK (valA P ρ st op) (valW P cfg fid o.dst ρ st c op) st fun v s => some (v, s)) = some (v, st') → valA P ρ st2 op = none ∨ (∃ z, valA P ρ st op = some z) → (stepK (valA P ρ st2 op) (valW P cfg fid o.dst ρ st2 c op) st2 fun v s => some (v, s)) = some (v, st2) := fun hv hn => by
    unfold stepK at hv
    split at hv
    · rename_i g' v' hA
      split at hv
      · rename_i hg
        cases hv
        rw [valA_same hs h hA]
        simp [stepK, hg]
      · cases hv
    · rename_i hA
      split at hv
      · rename_i hW
        split at hv
        · rename_i hg
          cases hv
          have hA2 : valA P ρ st2 op = none := by
            rcases hn with hn | ⟨z, hz⟩
            · exact hn
            · rw [hA] at hz; cases hz
          rw [hA2, valW_same hs h hW]
          simp [stepK, hg]
        · cases hv
      · cases hv
  have hnone : valA P ρ st2 op = none ∨ ∃ z, valA P ρ st op = some z := by
    cases hA2 : valA P ρ st2 op with
    | none => exact .inl rfl
    | some z => obtain ⟨q, u⟩ := z; exact .inr ⟨_, valA_same hs.symm h hA2⟩
  cases op with
  | pick x a b => simp [opKind] at h
  | next it bb => simp [opKind] at h
  | call cl =>
    obtain ⟨bt, args, tys, rfl, hb⟩ := callKind_reads h
    exact key hv hnone
  | _ => exact key hv hnone

theorem valOper_reads {o : Oper} {c fid : Nat} {ρ : Operand → PV} {gv : PV} {st st2 st' : St} {v : PV} (hs : SameO st st2) (h : opKind P o.op = .reads) (hv : valOper P cfg rn o c ρ gv fid st = some (v, st')) : valOper P cfg rn o c ρ gv fid st2 = some (v, st2) := by
  unfold valOper at hv ⊢
  cases hg : o.guard with
  | none => rw [hg] at hv; exact valOp_reads hs h hv
  | some q =>
    obtain ⟨j, want⟩ := q
    rw [hg] at hv
    dsimp only at hv ⊢
    cases gv with
    | c y =>
      cases y with
      | bool t => cases want <;> cases t <;> first | exact valOp_reads hs h hv | (cases hv; rfl)
      | _ => cases hv
    | tup vs =>
      cases vs with
      | nil => cases hv; rfl
      | cons => cases hv
    | _ => cases hv

theorem valOper_calls (hq : Quiet P rn) {o : Oper} {c fid : Nat} {ρ : Operand → PV} {gv : PV} {st st' : St} {v : PV} (h : opKind P o.op = .calls) (hv : valOper P cfg rn o c ρ gv fid st = some (v, st')) : SameO st st' := by
  unfold valOper at hv
  cases hg : o.guard with
  | none => rw [hg] at hv; exact valOp_calls hq h hv
  | some q =>
    obtain ⟨j, want⟩ := q
    rw [hg] at hv
    dsimp only at hv
    cases gv with
    | c y =>
      cases y with
      | bool t => cases want <;> cases t <;> first | exact valOp_calls hq h hv | (cases hv; exact SameO.refl _)
      | _ => cases hv
    | tup vs =>
      cases vs with
      | nil => cases hv; exact SameO.refl _
      | cons => cases hv
    | _ => cases hv

theorem kindO_reads {ro : Nat → Bool} {o : Oper} (h : opKindO P ro o = .reads) : opKind P o.op = .reads := by
  unfold opKindO at h
  split at h
  · split at h
    · split at h <;> cases h
    · cases h
  · exact h

theorem kindO_calls {ro : Nat → Bool} {o : Oper} (h : opKindO P ro o = .calls) : opKind P o.op = .calls := by
  unfold opKindO at h
  split at h
  · split at h
    · split at h <;> cases h
    · cases h
  · exact h

theorem valW_ro {ρ : Operand → PV} {st st' : St} {fid c d : Nat} {t : TypeId} {n : Nat} {parts : Array (Nat × Operand)} {g : Bool} {v : PV} (hr : cfg.ros.contains (fid, d) = true) (hv : valW P cfg fid (some d) ρ st c (.buildSlice t n parts) = some (g, v, st')) :
    st' = st ∧ ∀ st2, valW P cfg fid (some d) ρ st2 c (.buildSlice t n parts) = some (g, v, st2) := by
  simp only [valW, hr, if_true] at hv ⊢
  split at hv
  · split at hv
    · split at hv
      · rename_i hc
        split at hv
        · split at hv
          · cases hv
          · rename_i hl
            cases hv
            exact ⟨rfl, fun st2 => by simp_all⟩
        · cases hv
      · cases hv
    · cases hv
  · cases hv

theorem valOp_pureO {o : Oper} {c fid : Nat} {ρ : Operand → PV} {st st' : St} {v : PV} (h : opKindO P (roOf cfg fid) o = .pure) (hv : valOp P cfg rn o c ρ fid st = some (v, st')) :
    st' = st ∧ ∀ st2, valOp P cfg rn o c ρ fid st2 = some (v, st2) := by
  unfold opKindO at h
  split at h
  · rename_i t n parts hop
    split at h
    · rename_i d hd
      split at h
      · rename_i hr
        have hr' : cfg.ros.contains (fid, d) = true := hr
        unfold valOp at hv ⊢
        rw [hop, hd] at hv
        rw [hop, hd]
        dsimp only at hv ⊢
        have hA : ∀ s, valA P ρ s (.buildSlice t n parts) = none := fun s => rfl
        unfold stepK at hv
        rw [hA] at hv
        dsimp only at hv
        split at hv
        · rename_i hW
          split at hv
          · rename_i hg
            cases hv
            obtain ⟨e1, e2⟩ := valW_ro hr' hW
            refine ⟨e1, fun st2 => ?_⟩
            unfold stepK
            rw [hA, e2 st2]
            simp [hg]
          · cases hv
        · cases hv
      · cases h
    · cases h
  · exact valOp_pure h hv

theorem valOper_pureO {o : Oper} {c fid : Nat} {ρ : Operand → PV} {gv : PV} {st st' : St} {v : PV} (h : opKindO P (roOf cfg fid) o = .pure) (hv : valOper P cfg rn o c ρ gv fid st = some (v, st')) :
    st' = st ∧ ∀ st2, valOper P cfg rn o c ρ gv fid st2 = some (v, st2) := by
  unfold valOper at hv ⊢
  cases hg : o.guard with
  | none => rw [hg] at hv; exact valOp_pureO h hv
  | some q =>
    obtain ⟨j, want⟩ := q
    rw [hg] at hv
    dsimp only at hv ⊢
    cases gv with
    | c y =>
      cases y with
      | bool t => cases want <;> cases t <;> first | exact valOp_pureO h hv | (cases hv; exact ⟨rfl, fun _ => rfl⟩)
      | _ => cases hv
    | tup vs =>
      cases vs with
      | nil => cases hv; exact ⟨rfl, fun _ => rfl⟩
      | cons => cases hv
    | _ => cases hv

theorem valOper_keepsO {ro : Nat → Bool} {o : Oper} {c fid : Nat} {ρ : Operand → PV} {gv : PV} {st st' : St} {v : PV} (h : opKindO P ro o = .reads) (hv : valOper P cfg rn o c ρ gv fid st = some (v, st')) : st' = st :=
  valOper_keeps (by rw [kindO_reads h]; simp) (by rw [kindO_reads h]; simp) hv

/-- Two operations that may trade places do. -/
theorem opP_swap {q : Bool} {ro : Nat → Bool} (hqt : q = true → Quiet P rn) {ops : Array Oper} {c0 i j : Nat} {x y : Oper} (hx : ops[i]? = some x) (hy : ops[j]? = some y) (h : apartC P q ro ops x y = true) {s s' : Fr × St} (hro : ro = roOf cfg s.1.fid)
    (he : (opP P cfg rn ops c0 i s).bind (opP P cfg rn ops c0 j) = some s') : (opP P cfg rn ops c0 j s).bind (opP P cfg rn ops c0 i) = some s' := by
  obtain ⟨hk, h1, h2, h3⟩ := apartC_spec h
  obtain ⟨fr, st⟩ := s
  unfold opP at he ⊢
  rw [hx, hy] at he
  rw [hx, hy]
  dsimp only at he ⊢
  cases hvx : valOper P cfg rn x (c0 + 8 * i) (evalO fr.tmps) (gvOf ops x fr.tmps) fr.fid st with
  | none => rw [hvx] at he; simp at he
  | some p =>
    obtain ⟨v, st1⟩ := p
    rw [hvx] at he
    simp only [Option.map_some, Option.bind_some, fid_put] at he
    rw [valOper_congr (evalO_put h1), gvOf_put h1] at he
    cases hvy : valOper P cfg rn y (c0 + 8 * j) (evalO fr.tmps) (gvOf ops y fr.tmps) fr.fid st1 with
    | none => rw [hvy] at he; simp at he
    | some q =>
      obtain ⟨u, st2⟩ := q
      rw [hvy] at he
      simp only [Option.map_some, Option.some.injEq] at he
      -- y first, on st
      have key : valOper P cfg rn y (c0 + 8 * j) (evalO fr.tmps) (gvOf ops y fr.tmps) fr.fid st = some (u, st2) ∧ valOper P cfg rn x (c0 + 8 * i) (evalO fr.tmps) (gvOf ops x fr.tmps) fr.fid st2 = some (v, st2) ∨
          ∃ st3, valOper P cfg rn y (c0 + 8 * j) (evalO fr.tmps) (gvOf ops y fr.tmps) fr.fid st = some (u, st3) ∧ valOper P cfg rn x (c0 + 8 * i) (evalO fr.tmps) (gvOf ops x fr.tmps) fr.fid st3 = some (v, st2) := by
        cases kx : opKindO P ro x with
        | pure =>
          obtain ⟨e1, e2⟩ := valOper_pureO (hro ▸ kx) hvx
          subst e1
          exact .inl ⟨hvy, e2 st2⟩
        | reads =>
          have e1 := valOper_keepsO (hro ▸ kx) hvx
          subst e1
          rw [kx] at hk
          cases ky : opKindO P ro y with
          | writes => rw [ky] at hk; simp [kindsApart] at hk
          | calls =>
            rw [ky] at hk
            have hq := hqt (by simpa [kindsApart] using hk)
            exact .inl ⟨hvy, valOper_reads (valOper_calls hq (kindO_calls ky) hvy) (kindO_reads kx) hvx⟩
          | pure =>
            obtain ⟨e2, _⟩ := valOper_pureO (hro ▸ ky) hvy
            subst e2
            exact .inl ⟨hvy, hvx⟩
          | reads =>
            have e2 := valOper_keepsO (hro ▸ ky) hvy
            subst e2
            exact .inl ⟨hvy, hvx⟩
        | calls =>
          rw [kx] at hk
          cases ky : opKindO P ro y with
          | writes => rw [ky] at hk; simp [kindsApart] at hk
          | calls => rw [ky] at hk; simp [kindsApart] at hk
          | reads =>
            rw [ky] at hk
            have hq := hqt (by simpa [kindsApart] using hk)
            have hso := valOper_calls hq (kindO_calls kx) hvx
            have e2 := valOper_keepsO (hro ▸ ky) hvy
            subst e2
            exact .inr ⟨st, valOper_reads hso.symm (kindO_reads ky) hvy, hvx⟩
          | pure =>
            obtain ⟨e1, e2⟩ := valOper_pureO (hro ▸ ky) hvy
            subst e1
            exact .inr ⟨st, e2 st, hvx⟩
        | writes =>
          rw [kx] at hk
          cases ky : opKindO P ro y with
          | writes => rw [ky] at hk; simp [kindsApart] at hk
          | calls => rw [ky] at hk; simp [kindsApart] at hk
          | reads => rw [ky] at hk; simp [kindsApart] at hk
          | pure =>
            obtain ⟨e1, e2⟩ := valOper_pureO (hro ▸ ky) hvy
            subst e1
            exact .inr ⟨st, e2 st, hvx⟩
      have fin : ∀ st3, valOper P cfg rn y (c0 + 8 * j) (evalO fr.tmps) (gvOf ops y fr.tmps) fr.fid st = some (u, st3) → valOper P cfg rn x (c0 + 8 * i) (evalO fr.tmps) (gvOf ops x fr.tmps) fr.fid st3 = some (v, st2) →
          ((valOper P cfg rn y (c0 + 8 * j) (evalO fr.tmps) (gvOf ops y fr.tmps) fr.fid st).map fun p => (fr.put y.dst p.1, p.2)).bind (fun s => (valOper P cfg rn x (c0 + 8 * i) (evalO s.1.tmps) (gvOf ops x s.1.tmps) s.1.fid s.2).map fun p => (s.1.put x.dst p.1, p.2)) = some s' := fun st3 e1 e2 => by
        rw [e1]
        simp only [Option.map_some, Option.bind_some, fid_put]
        rw [valOper_congr (evalO_put h3), gvOf_put h3, e2]
        simp only [Option.map_some]
        rw [← he, put_comm _ _ _ h2]
      rcases key with ⟨e1, e2⟩ | ⟨st3, e1, e2⟩
      · exact fin st2 e1 e2
      · exact fin st3 e1 e2

theorem opsP_append {ops : Array Oper} {c0 : Nat} : ∀ (l l' : List Nat) (s : Fr × St), opsP P cfg rn ops c0 (l ++ l') s = (opsP P cfg rn ops c0 l s).bind (opsP P cfg rn ops c0 l')
  | [], l', s => rfl
  | i :: l, l', s => by
    simp only [List.cons_append, opsP, Option.bind_assoc]
    congr 1; funext s1
    exact opsP_append l l' s1

def apartIx (P : Program) (q : Bool) (ro : Nat → Bool) (ops : Array Oper) (i j : Nat) : Prop := ∃ x y, ops[i]? = some x ∧ ops[j]? = some y ∧ apartC P q ro ops x y = true

theorem opP_fid {ops : Array Oper} {c0 i : Nat} {s s' : Fr × St} (h : opP P cfg rn ops c0 i s = some s') : s'.1.fid = s.1.fid := by
  unfold opP at h
  split at h
  · cases h; rfl
  · rw [Option.map_eq_some_iff] at h
    obtain ⟨p, _, rfl⟩ := h
    exact fid_put _ _ _

theorem opsP_front {q : Bool} {ro : Nat → Bool} (hqt : q = true → Quiet P rn) {ops : Array Oper} {c0 i : Nat} : ∀ (A B : List Nat) (s s' : Fr × St), ro = roOf cfg s.1.fid → (∀ a ∈ A, apartIx P q ro ops i a) → opsP P cfg rn ops c0 (i :: A ++ B) s = some s' → opsP P cfg rn ops c0 (A ++ i :: B) s = some s'
  | [], B, s, s', _, _, h => h
  | a :: A, B, s, s', hro, ha, h => by
    obtain ⟨x, y, hx, hy, hap⟩ := ha a (by simp)
    simp only [List.cons_append, opsP] at h ⊢
    cases h1 : opP P cfg rn ops c0 i s with
    | none => rw [h1] at h; cases h
    | some s1 =>
      rw [h1] at h
      simp only [Option.bind_some] at h
      cases h2 : opP P cfg rn ops c0 a s1 with
      | none => rw [h2] at h; cases h
      | some s2 =>
        rw [h2] at h
        simp only [Option.bind_some] at h
        have hs := opP_swap hqt (c0 := c0) (cfg := cfg) (rn := rn) hx hy hap (s := s) (s' := s2) hro (by rw [h1]; exact h2)
        cases h3 : opP P cfg rn ops c0 a s with
        | none => rw [h3] at hs; cases hs
        | some s3 =>
          rw [h3] at hs
          simp only [Option.bind_some] at hs ⊢
          exact opsP_front hqt A B s3 s' (by rw [opP_fid h3]; exact hro) (fun q hq => ha q (by simp [hq])) (by simp only [List.cons_append, opsP, hs, Option.bind_some]; exact h)

/-- l: in the order of the text; σ: another order of the same operations, in which whatever has traded places may. -/
theorem opsP_perm {q : Bool} {ro : Nat → Bool} (hqt : q = true → Quiet P rn) {ops : Array Oper} {c0 : Nat} : ∀ (l σ : List Nat) (s s' : Fr × St), ro = roOf cfg s.1.fid → l.Perm σ → l.Pairwise (· < ·) → (σ.Pairwise fun a i => i < a → apartIx P q ro ops i a) →
    opsP P cfg rn ops c0 l s = some s' → opsP P cfg rn ops c0 σ s = some s'
  | [], σ, s, s', _, hp, _, _, h => by rw [List.nil_perm.1 hp]; exact h
  | i :: l, σ, s, s', hro, hp, hl, ho, h => by
    obtain ⟨A, B, rfl⟩ := List.append_of_mem (hp.mem_iff.1 (show i ∈ i :: l by simp))
    have hp' : l.Perm (A ++ B) := (List.perm_cons i).1 (hp.trans List.perm_middle)
    have hlt : ∀ a ∈ l, i < a := (List.pairwise_cons.1 hl).1
    rw [List.pairwise_append] at ho
    obtain ⟨hA, hiB, hAB⟩ := ho
    rw [List.pairwise_cons] at hiB
    have hAB' : (A ++ B).Pairwise fun a i => i < a → apartIx P q ro ops i a := by
      rw [List.pairwise_append]
      exact ⟨hA, hiB.2, fun a ha b hb => hAB a ha b (by simp [hb])⟩
    refine opsP_front hqt A B s s' hro (fun a ha => hAB a ha i (by simp) (hlt a (hp'.mem_iff.2 (by simp [ha])))) ?_
    simp only [List.cons_append, opsP] at h ⊢
    cases h1 : opP P cfg rn ops c0 i s with
    | none => rw [h1] at h; cases h
    | some s1 =>
      rw [h1] at h
      simp only [Option.bind_some] at h ⊢
      exact opsP_perm hqt l (A ++ B) s1 s' (by rw [opP_fid h1]; exact hro) hp' (List.pairwise_cons.1 hl).2 hAB' h

end Go.Proofs.YthhllkiefncbnaaDoorSim
