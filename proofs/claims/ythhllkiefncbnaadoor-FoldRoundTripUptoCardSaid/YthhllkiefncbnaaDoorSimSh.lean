/- The shape of a state at a loop's head: what is told, and where it lies. -/
import Derived.Test.YthhllkiefncbnaaDoorSimZ
namespace Go.Proofs.YthhllkiefncbnaaDoorSim
open Go
set_option linter.unusedVariables false
set_option linter.unusedSimpArgs false

inductive CT where
  | int (k : IntKind) | bool | str
  | ro (τ : Ty)
  | own (τ : Ty) (t : Nat)
  | fix (c : C)

@[reducible] def CT.den : CT → Type
  | .int _ => Int
  | .bool => Bool
  | .str => List Int
  | .ro τ => List τ.den
  | .own τ _ => List τ.den
  | .fix _ => Unit

def CT.enc : (c : CT) → c.den → C
  | .int k, n => .int k n
  | .bool, b => .bool b
  | .str, l => .str l
  | .ro τ, l => .slice .ro τ l
  | .own τ t, l => .slice (.own t) τ l
  | .fix c, _ => c

def fixEq : C → C → Bool
  | .nilptr, .nilptr => true
  | .ptr o f, .ptr o' f' => o == o' && f == f'
  | .nils, .nils => true
  | .mslice o, .mslice o' => o == o'
  | .vslice o, .vslice o' => o == o'
  | .func f l, .func f' l' => f == f' && l == l'
  | .yield o, .yield o' => o == o'
  | .nilfunc, .nilfunc => true
  | .niliface, .niliface => true
  | _, _ => false

theorem fixEq_eq {a b : C} (h : fixEq a b = true) : a = b := by
  cases a <;> cases b <;> simp_all [fixEq]

def CT.dec : (c : CT) → C → Option c.den
  | .int k, .int k' n => if k' = k then some n else none
  | .bool, .bool b => some b
  | .str, .str l => some l
  | .ro τ, .slice .ro τ' l => castL τ τ' l
  | .own τ t, .slice (.own t') τ' l => if t' = t then castL τ τ' l else none
  | .fix a, b => if fixEq a b then some () else none
  | _, _ => none

theorem CT.dec_enc {c : CT} {x : C} {d : c.den} (h : c.dec x = some d) : c.enc d = x := by
  cases c <;> cases x <;> simp only [CT.dec, reduceCtorEq] at h
  case int.int k k' n =>
    split at h
    · rename_i e; subst e; cases h; rfl
    · cases h
  case bool.bool => cases h; rfl
  case str.str => cases h; rfl
  case ro.slice τ t τ' l =>
    cases t with
    | ro =>
      simp only at h
      obtain ⟨rfl, rfl⟩ := castL_eq h
      rfl
    | own t => cases h
  case own.slice τ t tk τ' l =>
    cases tk with
    | ro => cases h
    | own t' =>
      simp only at h
      split at h
      · rename_i e
        subst e
        obtain ⟨rfl, rfl⟩ := castL_eq h
        rfl
      · cases h
  all_goals
    split at h
    · rename_i e; exact fixEq_eq e
    · cases h

/-! ### Rows of cells -/
@[reducible] def densC : List CT → Type
  | [] => Unit
  | t :: r => t.den × densC r

def encC : (l : List CT) → densC l → List C
  | [], _ => []
  | t :: r, d => t.enc d.1 :: encC r d.2

def decC : (l : List CT) → List C → Option (densC l)
  | [], [] => some ()
  | t :: r, x :: xs => match t.dec x, decC r xs with
    | some a, some b => some (a, b)
    | _, _ => none
  | _, _ => none

theorem decC_enc : ∀ {l : List CT} {xs : List C} {d : densC l}, decC l xs = some d → encC l d = xs
  | [], [], d, h => rfl
  | t :: r, x :: xs, d, h => by
    simp only [decC] at h
    split at h
    · rename_i a b h1 h2
      cases h
      simp only [encC, CT.dec_enc h1, decC_enc h2]
    · cases h
  | [], _ :: _, d, h => by simp [decC] at h
  | _ :: _, [], d, h => by simp [decC] at h

/-! ### Slots -/
inductive PT where
  | any
  | c (t : CT)
  | agg (l : List CT)
  | rptr (l : List CT)
  | tup0

@[reducible] def densP : List PT → Type
  | [] => Unit
  | .any :: r => densP r
  | .tup0 :: r => densP r
  | .c t :: r => t.den × densP r
  | .agg l :: r => densC l × densP r
  | .rptr l :: r => densC l × densP r

def encP : (l : List PT) → densP l → List PV
  | [], _ => []
  | .any :: r, d => .any :: encP r d
  | .tup0 :: r, d => .tup [] :: encP r d
  | .c t :: r, d => .c (t.enc d.1) :: encP r d.2
  | .agg l :: r, d => .agg (encC l d.1) :: encP r d.2
  | .rptr l :: r, d => .rptr (encC l d.1) :: encP r d.2

def decP : (l : List PT) → List PV → Option (densP l)
  | [], [] => some ()
  | .any :: r, .any :: xs => decP r xs
  | .tup0 :: r, .tup [] :: xs => decP r xs
  | .c t :: r, .c x :: xs => match t.dec x, decP r xs with
    | some a, some b => some (a, b)
    | _, _ => none
  | .agg l :: r, .agg x :: xs => match decC l x, decP r xs with
    | some a, some b => some (a, b)
    | _, _ => none
  | .rptr l :: r, .rptr x :: xs => match decC l x, decP r xs with
    | some a, some b => some (a, b)
    | _, _ => none
  | _, _ => none

theorem decP_enc : ∀ {l : List PT} {xs : List PV} {d : densP l}, decP l xs = some d → encP l d = xs
  | [], xs, d, h => by
    cases xs with
    | nil => rfl
    | cons x xs => simp [decP] at h
  | t :: r, [], d, h => by cases t <;> (unfold decP at h; cases h)
  | t :: r, x :: xs, d, h => by
    cases t <;> cases x <;> try (unfold decP at h; cases h; done)
    all_goals try simp only [decP] at h
    case any.any => simp only [encP, decP_enc h]
    case tup0.tup vs =>
      cases vs with
      | nil =>
        have h' : decP r xs = some d := h
        simp only [encP, decP_enc h']
      | cons v vs => cases h
    case c.c =>
      split at h
      · rename_i a b h1 h2
        cases h
        simp only [encP, CT.dec_enc h1, decP_enc h2]
      · cases h
    case agg.agg =>
      split at h
      · rename_i a b h1 h2
        cases h
        simp only [encP, decC_enc h1, decP_enc h2]
      · cases h
    case rptr.rptr =>
      split at h
      · rename_i a b h1 h2
        cases h
        simp only [encP, decC_enc h1, decP_enc h2]
      · cases h

/-! ### Objects -/
inductive OT where
  | cells (l : List CT)
  | row (τ : Ty) (fz : Bool)
  | vec (τ : Ty) (fz : Bool)
  | dead
  | siter
  | loop (r : ALoop) (l : List PT)

@[reducible] def OT.den : OT → Type
  | .cells l => densC l
  | .row τ _ => List τ.den
  | .vec τ _ => List τ.den
  | .dead => Unit
  | .siter => List Int × Nat
  | .loop _ l => densP l

def OT.enc : (o : OT) → o.den → AObj
  | .cells l, d => .cells (encC l d)
  | .row τ fz, d => .row τ d fz
  | .vec τ fz, d => .vec τ d fz
  | .dead, _ => .dead
  | .siter, d => .siter d.1 d.2
  | .loop r l, d => .loop { r with tmps := encP l d }

def pendEq : Option Code → Option Code → Bool
  | none, none => true
  | some (.exit a), some (.exit b) => a == b
  | some .ret, some .ret => true
  | _, _ => false

theorem pendEq_eq {a b : Option Code} (h : pendEq a b = true) : a = b := by
  unfold pendEq at h
  split at h
  · rfl
  · rw [beq_iff_eq] at h; rw [h]
  · rfl
  · cases h

/-- eqv: are two pieces of code alike? -/
def OT.dec (eqv : Code → Code → Bool) : (o : OT) → AObj → Option o.den
  | .cells l, .cells xs => decC l xs
  | .row τ fz, .row τ' l fz' => if fz' = fz then castL τ τ' l else none
  | .vec τ fz, .vec τ' l fz' => if fz' = fz then castL τ τ' l else none
  | .dead, .dead => some ()
  | .siter, .siter l pos => some (l, pos)
  | .loop r l, .loop r' => if r'.state = r.state ∧ pendEq r'.pending r.pending = true ∧ r'.fid = r.fid ∧ r'.params = r.params ∧ r'.path = r.path then
      if eqv r'.assign r.assign && eqv r'.body r.body then decP l r'.tmps else none
    else none
  | _, _ => none

theorem OT.dec_enc {eqv : Code → Code → Bool} (he : ∀ a b, eqv a b = true → a = b) {o : OT} {x : AObj} {d : o.den} (h : o.dec eqv x = some d) : o.enc d = x := by
  cases o <;> cases x <;> simp only [OT.dec, reduceCtorEq] at h
  case cells.cells => simp only [OT.enc, decC_enc h]
  case row.row =>
    split at h
    · rename_i e
      obtain ⟨rfl, rfl⟩ := castL_eq h
      subst e
      rfl
    · cases h
  case vec.vec =>
    split at h
    · rename_i e
      obtain ⟨rfl, rfl⟩ := castL_eq h
      subst e
      rfl
    · cases h
  case dead.dead => rfl
  case siter.siter => cases h; rfl
  case loop.loop r l r' =>
    split at h
    · rename_i e
      split at h
      · rename_i e2
        obtain ⟨s, p, f, t, ps, a, b, q⟩ := r
        obtain ⟨s', p', f', t', ps', a', b', q'⟩ := r'
        simp only at e e2 h
        obtain ⟨e1, e3, e5, e6, e7⟩ := e
        rw [Bool.and_eq_true] at e2
        have := he _ _ e2.1
        have := he _ _ e2.2
        have := pendEq_eq e3
        subst_vars
        simp only [OT.enc, decP_enc h]
      · cases h
    · cases h

@[reducible] def densO : List OT → Type
  | [] => Unit
  | t :: r => t.den × densO r

def encO : (l : List OT) → densO l → List AObj
  | [], _ => []
  | t :: r, d => t.enc d.1 :: encO r d.2

def decO (eqv : Code → Code → Bool) : (l : List OT) → List AObj → Option (densO l)
  | [], [] => some ()
  | t :: r, x :: xs => match t.dec eqv x, decO eqv r xs with
    | some a, some b => some (a, b)
    | _, _ => none
  | _, _ => none

theorem decO_enc {eqv : Code → Code → Bool} (he : ∀ a b, eqv a b = true → a = b) : ∀ {l : List OT} {xs : List AObj} {d : densO l}, decO eqv l xs = some d → encO l d = xs
  | [], [], d, h => rfl
  | t :: r, x :: xs, d, h => by
    simp only [decO] at h
    split at h
    · rename_i a b h1 h2
      cases h
      simp only [encO, OT.dec_enc he h1, decO_enc he h2]
    · cases h
  | [], _ :: _, d, h => by simp [decO] at h
  | _ :: _, [], d, h => by simp [decO] at h

/-! ### The whole -/
structure Shape where
  slots : List PT
  objs : List OT
  live : List Nat
  next : Nat
  fid : Nat
  base : Nat
  obase : Nat
  round : Option Nat

@[reducible] def Shape.den (S : Shape) : Type := densP S.slots × densO S.objs

def Shape.fr (S : Shape) (d : S.den) : Fr := { tmps := encP S.slots d.1, fid := S.fid, base := S.base, obase := S.obase, round := S.round }
def Shape.st (S : Shape) (d : S.den) : St := { objs := encO S.objs d.2, live := S.live, next := S.next }

def Shape.dec (eqv : Code → Code → Bool) (S : Shape) (fr : Fr) (st : St) : Option S.den :=
  if fr.fid = S.fid ∧ fr.base = S.base ∧ fr.obase = S.obase ∧ fr.round = S.round ∧ st.live = S.live ∧ st.next = S.next then
    match decP S.slots fr.tmps, decO eqv S.objs st.objs with
    | some a, some b => some (a, b)
    | _, _ => none
  else none

theorem Shape.dec_enc {eqv : Code → Code → Bool} (he : ∀ a b, eqv a b = true → a = b) {S : Shape} {fr : Fr} {st : St} {d : S.den} (h : S.dec eqv fr st = some d) : fr = S.fr d ∧ st = S.st d := by
  unfold Shape.dec at h
  split at h
  · rename_i e
    obtain ⟨e1, e2, e3, e4, e5, e6⟩ := e
    split at h
    · rename_i a b h1 h2
      cases h
      obtain ⟨t, f1, f2, f3, f4⟩ := fr
      obtain ⟨o, l, n⟩ := st
      simp only at e1 e2 e3 e4 e5 e6 h1 h2
      subst_vars
      simp [Shape.fr, Shape.st, decP_enc h1, decO_enc he h2]
    · cases h
  · cases h

/-- The ways in which a loop is left. -/
@[reducible] def XDen : List (Ex × Shape) → Type
  | [] => Empty
  | [q] => q.2.den
  | q :: r => q.2.den ⊕ XDen r

def sameEx : Ex → Ex → Bool
  | .normal, .normal => true
  | .ret, .ret => true
  | .exit a, .exit b => a == b
  | _, _ => false

theorem sameEx_eq {a b : Ex} (h : sameEx a b = true) : a = b := by
  cases a <;> cases b <;> simp_all [sameEx]

def encX : (l : List (Ex × Shape)) → XDen l → Ex × Fr × St
  | [], d => nomatch d
  | [q], d => (q.1, q.2.fr d, q.2.st d)
  | q :: q' :: r, .inl d => (q.1, q.2.fr d, q.2.st d)
  | q :: q' :: r, .inr d => encX (q' :: r) d

def decX (eqv : Code → Code → Bool) : (l : List (Ex × Shape)) → Ex → Fr → St → Option (XDen l)
  | [], _, _, _ => none
  | [q], e, fr, st => if sameEx e q.1 then q.2.dec eqv fr st else none
  | q :: q' :: r, e, fr, st => if sameEx e q.1 then (q.2.dec eqv fr st).map .inl else (decX eqv (q' :: r) e fr st).map .inr

theorem decX_enc {eqv : Code → Code → Bool} (he : ∀ a b, eqv a b = true → a = b) : ∀ {l : List (Ex × Shape)} {e : Ex} {fr : Fr} {st : St} {d : XDen l}, decX eqv l e fr st = some d → encX l d = (e, fr, st)
  | [], e, fr, st, d, h => by simp [decX] at h
  | [q], e, fr, st, d, h => by
    simp only [decX] at h
    split at h
    · rename_i hs
      obtain ⟨rfl, rfl⟩ := Shape.dec_enc he h
      rw [sameEx_eq hs]; rfl
    · cases h
  | q :: q' :: r, e, fr, st, d, h => by
    simp only [decX] at h
    split at h
    · rename_i hs
      rw [Option.map_eq_some_iff] at h
      obtain ⟨a, ha, rfl⟩ := h
      obtain ⟨rfl, rfl⟩ := Shape.dec_enc he ha
      rw [sameEx_eq hs]; rfl
    · rw [Option.map_eq_some_iff] at h
      obtain ⟨a, ha, rfl⟩ := h
      have := decX_enc he ha
      exact this

/-- On, behind a loop. -/
def contX {R : Type} (K : Ex → Fr → St → Option R) : (l : List (Ex × Shape)) → XDen l → Option R
  | [], d => nomatch d
  | [q], d => K q.1 (q.2.fr d) (q.2.st d)
  | q :: q' :: r, d => Sum.elim (fun d => K q.1 (q.2.fr d) (q.2.st d)) (contX K (q' :: r)) d

theorem contX_enc {R : Type} (K : Ex → Fr → St → Option R) : ∀ (l : List (Ex × Shape)) (d : XDen l), contX K l d = K (encX l d).1 (encX l d).2.1 (encX l d).2.2
  | [], d => nomatch d
  | [q], d => rfl
  | q :: q' :: r, .inl d => rfl
  | q :: q' :: r, .inr d => contX_enc K (q' :: r) d

variable {P : Program} {cfg : Cfg} {rn rn1 rn2 : Run}

/-- A loop, from its one round. J: how many rounds at most. -/
def rounds {D X : Type} (R : (D → Option X) → D → Option X) : Nat → D → Option X
  | 0 => fun _ => none
  | j + 1 => R (rounds R j)

def leafX (eqv : Code → Code → Bool) (S : Shape) (X : List (Ex × Shape)) (ψ : S.den → Option (XDen X)) : Ex → Fr → St → Option (XDen X)
  | .normal, fr, st => (S.dec eqv fr st).bind ψ
  | e, fr, st => decX eqv X e fr st

theorem rounds_ok {eqv : Code → Code → Bool} (he : ∀ a b, eqv a b = true → a = b) (hlp : cfg.lp = none) {h : Handler} {N N1 : Nat} (hh : HandOk P cfg rn2 N h) (hr : CallLe P rn1 rn2) (n1 : RunNat rn1) (n2 : RunNat rn2) {a : Code} {p : Nat} {S : Shape} {X : List (Ex × Shape)}
    {R : (S.den → Option (XDen X)) → S.den → Option (XDen X)}
    (hR : ∀ ψ d, R ψ d = codeK P (cfg.knows h) rn1 N1 a (2 * p) (S.fr d) (S.st d) fun e fr st => normK cfg p e.tag fr st fun fr st => leafX eqv S X ψ e fr st) :
    ∀ j d x, rounds R j d = some x → loopK (stepL P cfg rn2 N a p _) some3 j (S.fr d) (S.st d) = some (encX X x)
  | 0, d, x, hx => by cases hx
  | j + 1, d, x, hx => by
    have ih := rounds_ok he hlp hh hr n1 n2 hR j
    simp only [rounds, hR] at hx
    simp only [loopK, stepL]
    refine codeK_le hlp hh hr n1 n2 a (encX X) _ _ _ _ _ (fun e f s y hy => ?_) x hx
    unfold normK at hy ⊢
    cases e with
    | normal =>
      dsimp only [leafX] at hy
      rw [Option.bind_eq_some_iff] at hy
      obtain ⟨d', hd, hy⟩ := hy
      obtain ⟨e1, e2⟩ := Shape.dec_enc he hd
      dsimp only
      rw [e1, e2]
      exact ih d' y hy
    | exit id =>
      dsimp only [leafX] at hy
      rw [decX_enc he hy]; rfl
    | ret =>
      dsimp only [leafX] at hy
      rw [decX_enc he hy]; rfl

end Go.Proofs.YthhllkiefncbnaaDoorSim
