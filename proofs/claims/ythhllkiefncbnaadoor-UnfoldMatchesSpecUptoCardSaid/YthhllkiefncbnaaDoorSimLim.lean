/- Loops and calls without a measure: limits; from what the interpreter answers with known calls and loops to what it answers. -/
import Derived.Test.YthhllkiefncbnaaDoorSimSh
import Derived.Test.YthhllkiefncbnaaDoorSimEq
namespace Go.Proofs.YthhllkiefncbnaaDoorSim
open Go
set_option linter.unusedVariables false
set_option linter.unusedSimpArgs false

/-- A row read whole, from place i on. -/
def getRow {α : Type} (l : List α) (d : α) : Nat → Nat → List α
  | _, 0 => []
  | i, n + 1 => l.getD i d :: getRow l d (i + 1) n

theorem getRow_drop {α : Type} {d : α} : ∀ {n i : Nat} {l : List α}, l.length = i + n → getRow l d i n = l.drop i
  | 0, i, l, h => by rw [List.drop_eq_nil_of_le (by omega)]; rfl
  | n + 1, i, l, h => by
    have hi : i < l.length := by omega
    rw [getRow, getRow_drop (by omega), List.drop_eq_getElem_cons hi, List.getD_eq_getElem?_getD, List.getElem?_eq_getElem hi]
    rfl

theorem getRow_all {α : Type} {d : α} {n : Nat} {l : List α} (h : l.length = n) : getRow l d 0 n = l := by
  rw [getRow_drop (by omega), List.drop_zero]

/-! ### Limits -/
noncomputable def Lim {α : Type} (F : Nat → Option α) : Option α :=
  open Classical in if h : ∃ x J, ∀ N, J ≤ N → F N = some x then some h.choose else none

theorem Lim_some {α : Type} {F : Nat → Option α} {x : α} : Lim F = some x ↔ ∃ J, ∀ N, J ≤ N → F N = some x := by
  unfold Lim
  constructor
  · intro h
    split at h
    · rename_i he
      cases h
      exact he.choose_spec
    · cases h
  · intro ⟨J, hJ⟩
    have he : ∃ x J, ∀ N, J ≤ N → F N = some x := ⟨x, J, hJ⟩
    rw [dif_pos he]
    obtain ⟨J', hJ'⟩ := he.choose_spec
    have h1 := hJ (max J J') (Nat.le_max_left _ _)
    have h2 := hJ' (max J J') (Nat.le_max_right _ _)
    rw [h1] at h2
    exact h2.symm

/-- F comes to whatever v says. -/
def Approx {α : Type} (F : Nat → Option α) (v : Option α) : Prop := ∀ y, v = some y → ∃ J, ∀ N, J ≤ N → F N = some y

theorem Approx.const {α : Type} (v : Option α) : Approx (fun _ => v) v := fun y h => ⟨0, fun _ _ => h⟩

theorem Approx.none {α : Type} {F : Nat → Option α} : Approx F Option.none := fun y h => by cases h

theorem Approx.ite {α : Type} {c : Prop} [Decidable c] {F G : Nat → Option α} {v w : Option α} (hF : Approx F v) (hG : Approx G w) : Approx (fun N => if c then F N else G N) (if c then v else w) := by
  by_cases h : c
  · simp only [if_pos h]; exact hF
  · simp only [if_neg h]; exact hG

theorem Approx.bind {α β : Type} {F : Nat → Option α} {G : Nat → α → Option β} {v : Option α} {w : α → Option β} (hF : Approx F v) (hG : ∀ x, Approx (fun N => G N x) (w x)) : Approx (fun N => (F N).bind (G N)) (v.bind w) := fun y h => by
  rw [Option.bind_eq_some_iff] at h
  obtain ⟨x, hx, hy⟩ := h
  obtain ⟨J, hJ⟩ := hF x hx
  obtain ⟨J', hJ'⟩ := hG x y hy
  refine ⟨max J J', fun N hN => ?_⟩
  simp only [hJ N (by omega), Option.bind_some, hJ' N (by omega)]

theorem Approx.sum {α β γ : Type} {F : Nat → α → Option γ} {G : Nat → β → Option γ} {v : α → Option γ} {w : β → Option γ} (hF : ∀ x, Approx (fun N => F N x) (v x)) (hG : ∀ x, Approx (fun N => G N x) (w x)) : ∀ x, Approx (fun N => Sum.elim (F N) (G N) x) (Sum.elim v w x)
  | .inl x => hF x
  | .inr x => hG x

/-! ### In the form in which the kernel finds them -/
noncomputable abbrev ifd {α : Type} (c : Prop) [h : Decidable c] (t e : α) : α := @Decidable.rec c (fun _ => α) (fun _ => e) (fun _ => t) h
noncomputable abbrev bnd {α β : Type} (o : Option α) (k : α → Option β) : Option β := @Option.rec α (fun _ => Option β) none k o

theorem ifd_eq {α : Type} (c : Prop) [h : Decidable c] (t e : α) : ifd c t e = if c then t else e := by
  cases h <;> rfl
theorem bnd_eq {α β : Type} (o : Option α) (k : α → Option β) : bnd o k = o.bind k := by
  cases o <;> rfl

theorem Approx.ifd {α : Type} {c : Prop} [Decidable c] {F G : Nat → Option α} {v w : Option α} (hF : Approx F v) (hG : Approx G w) : Approx (fun N => Go.Proofs.YthhllkiefncbnaaDoorSim.ifd c (F N) (G N)) (Go.Proofs.YthhllkiefncbnaaDoorSim.ifd c v w) := by
  simp only [ifd_eq]; exact Approx.ite hF hG

theorem Approx.bnd {α β : Type} {F : Nat → Option α} {G : Nat → α → Option β} {v : Option α} {w : α → Option β} (hF : Approx F v) (hG : ∀ x, Approx (fun N => G N x) (w x)) : Approx (fun N => Go.Proofs.YthhllkiefncbnaaDoorSim.bnd (F N) (G N)) (Go.Proofs.YthhllkiefncbnaaDoorSim.bnd v w) := by
  simp only [bnd_eq]; exact Approx.bind hF hG

/-! ### Calls and loops -/
abbrev PC (P : Program) := (f : Nat) → List PV → Option (RTy P f).den
abbrev LP := (D X : Type) → ((D → Option X) → D → Option X) → D → Option X

def ContR {D X : Type} (RN : Nat → (D → Option X) → D → Option X) (R : (D → Option X) → D → Option X) : Prop :=
  ∀ (ψN : Nat → D → Option X) (ψ : D → Option X), (∀ d, Approx (fun N => ψN N d) (ψ d)) → ∀ d, Approx (fun N => RN N (ψN N) d) (R ψ d)

structure AppE (P : Program) (pcN : Nat → PC P) (pc : PC P) (lN : Nat → LP) (l : LP) : Prop where
  call : ∀ f args, Approx (fun N => pcN N f args) (pc f args)
  loop : ∀ {D X : Type} {RN : Nat → (D → Option X) → D → Option X} {R : (D → Option X) → D → Option X}, ContR RN R → ∀ d, Approx (fun N => lN N D X (RN N) d) (l D X R d)

def lpN (N : Nat) : LP := fun _ _ R d => rounds R N d
noncomputable def lpL : LP := fun _ _ R d => Lim fun j => rounds R j d

theorem rounds_approx {D X : Type} {RN : Nat → (D → Option X) → D → Option X} {R : (D → Option X) → D → Option X} (h : ContR RN R) : ∀ (j : Nat) (i : Nat → Nat), (∀ N, j ≤ i N) → ∀ d, Approx (fun N => rounds (RN N) (i N) d) (rounds R j d)
  | 0, i, hi, d => fun y hy => by cases hy
  | j + 1, i, hi, d => by
    have e : (fun N => rounds (RN N) (i N) d) = fun N => RN N (rounds (RN N) (i N - 1)) d := by
      funext N
      have := hi N
      obtain ⟨k, hk⟩ : ∃ k, i N = k + 1 := ⟨i N - 1, by omega⟩
      rw [hk]; rfl
    rw [e]
    exact h _ _ (fun d => rounds_approx h j (fun N => i N - 1) (fun N => by have := hi N; omega) d) d

theorem rounds_approxU {D X : Type} {RN : Nat → (D → Option X) → D → Option X} {R : (D → Option X) → D → Option X} (h : ContR RN R) (j : Nat) (d : D) (y : X) (hy : rounds R j d = some y) : ∃ J, ∀ N, J ≤ N → ∀ i, j ≤ i → rounds (RN N) i d = some y := by
  apply Classical.byContradiction
  intro hn
  have hn' : ∀ J, ∃ N, J ≤ N ∧ ∃ i, j ≤ i ∧ rounds (RN N) i d ≠ some y := by
    intro J
    apply Classical.byContradiction
    intro h2
    exact hn ⟨J, fun N hN i hi => Classical.byContradiction fun h3 => h2 ⟨N, hN, i, hi, h3⟩⟩
  have : ∀ N, ∃ i, j ≤ i ∧ ((∃ i, j ≤ i ∧ rounds (RN N) i d ≠ some y) → rounds (RN N) i d ≠ some y) := by
    intro N
    by_cases hc : ∃ i, j ≤ i ∧ rounds (RN N) i d ≠ some y
    · obtain ⟨i, hi, hx⟩ := hc
      exact ⟨i, hi, fun _ => hx⟩
    · exact ⟨j, Nat.le_refl _, fun h => absurd h hc⟩
  obtain ⟨J, hJ⟩ := rounds_approx h j (fun N => (this N).choose) (fun N => (this N).choose_spec.1) d y hy
  obtain ⟨N, hN, hx⟩ := hn' J
  exact (this N).choose_spec.2 hx (hJ N hN)

theorem lpN_app {D X : Type} {RN : Nat → (D → Option X) → D → Option X} {R : (D → Option X) → D → Option X} (h : ContR RN R) (d : D) : Approx (fun N => lpN N D X (RN N) d) (lpL D X R d) := fun y hy => by
  obtain ⟨j, hj⟩ := Lim_some.1 hy
  obtain ⟨J, hJ⟩ := rounds_approxU h j d y (hj j (Nat.le_refl _))
  exact ⟨max J j, fun N hN => hJ N (by omega) N (by omega)⟩

theorem lpL_app {D X : Type} {RN : Nat → (D → Option X) → D → Option X} {R : (D → Option X) → D → Option X} (h : ContR RN R) (d : D) : Approx (fun N => lpL D X (RN N) d) (lpL D X R d) := fun y hy => by
  obtain ⟨j, hj⟩ := Lim_some.1 hy
  obtain ⟨J, hJ⟩ := rounds_approxU h j d y (hj j (Nat.le_refl _))
  exact ⟨J, fun N hN => Lim_some.2 ⟨j, fun i hi => hJ N hN i hi⟩⟩

/-- One round more. -/
theorem lpL_step {D X : Type} {R : (D → Option X) → D → Option X} (h : ContR (fun _ => R) R) {d : D} {x : X} (hx : R (lpL D X R) d = some x) : lpL D X R d = some x := by
  obtain ⟨J, hJ⟩ := h (fun N => rounds R N) (lpL D X R) (fun d y hy => Lim_some.1 hy) d x hx
  refine Lim_some.2 ⟨J + 1, fun N hN => ?_⟩
  obtain ⟨k, rfl⟩ : ∃ k, N = k + 1 := ⟨N - 1, by omega⟩
  exact hJ k (by omega)

/-- What a call answers from N on. -/
noncomputable def pcS (P : Program) (cfg : Cfg) (N : Nat) : PC P := fun f args =>
  open Classical in if h : ∃ x, ∀ m, N ≤ m → pcall P (runK P cfg m) f args = some x then some h.choose else none

noncomputable def pcL (P : Program) (cfg : Cfg) : PC P := fun f args => Lim fun N => pcall P (runK P cfg N) f args

theorem pcS_some {P : Program} {cfg : Cfg} {N f : Nat} {args : List PV} {x : (RTy P f).den} : pcS P cfg N f args = some x ↔ ∀ m, N ≤ m → pcall P (runK P cfg m) f args = some x := by
  unfold pcS
  constructor
  · intro h
    split at h
    · rename_i he
      cases h
      exact he.choose_spec
    · cases h
  · intro h
    have he : ∃ x, ∀ m, N ≤ m → pcall P (runK P cfg m) f args = some x := ⟨x, h⟩
    rw [dif_pos he]
    have h1 := he.choose_spec N (Nat.le_refl _)
    rw [h N (Nat.le_refl _)] at h1
    exact h1.symm

theorem pcS_app {P : Program} {cfg : Cfg} {f : Nat} {args : List PV} : Approx (fun N => pcS P cfg N f args) (pcL P cfg f args) := fun y hy => by
  obtain ⟨J, hJ⟩ := Lim_some.1 hy
  exact ⟨J, fun N hN => pcS_some.2 fun m hm => hJ m (by omega)⟩

theorem appN (P : Program) (cfg : Cfg) : AppE P (pcS P cfg) (pcL P cfg) lpN lpL where
  call := fun f args => pcS_app
  loop := fun h d => lpN_app h d

theorem appL (P : Program) (cfg : Cfg) : AppE P (fun _ => pcL P cfg) (pcL P cfg) (fun _ => lpL) lpL where
  call := fun f args => Approx.const _
  loop := fun h d => lpL_app h d

/-! ### Where a piece of code lies -/
def bitsF : Nat → Nat → List Bool → List Bool
  | 0, _, acc => acc
  | k + 1, n, acc => if n ≤ 1 then acc else bitsF k (n / 2) ((n % 2 == 1) :: acc)

def codeAt : Code → List Bool → Option Code
  | c, [] => some c
  | .seq a b, x :: r => if x then codeAt b r else codeAt a r
  | .cond _ a b, x :: r => if x then codeAt b r else codeAt a r
  | .block _ a, _ :: r => codeAt a r
  | .loop a, _ :: r => codeAt a r
  | .scope a, _ :: r => codeAt a r
  | .rangeFunc _ _ a b, _ :: x :: r => if x then codeAt b r else codeAt a r
  | _, _ => none

/-- The record of a loop over an iterator, told by its place. -/
def loopAt (P : Program) (fid path : Nat) (params : List Nat) (state : LoopState) : ALoop :=
  match (P.funcs[fid]?.bind (·.body)).bind fun c => codeAt c (bitsF 200 path []) with
  | some (.rangeFunc _ _ assign body) => { state, pending := none, fid, tmps := [], params, assign, body, path }
  | _ => { state, pending := none, fid, tmps := [], params, assign := .skip, body := .skip, path }

/-- One that was left by a way out. -/
def loopPend (r : ALoop) (c : Code) : ALoop := { r with pending := some c }

/-! ### The handler that looks shapes up -/
structure LE2 where
  fid : Nat
  /-- 2 p: the loop at p; 2 p + 1: the first part of the code at p, taken by itself -/
  q : Nat
  S : Shape
  X : List (Ex × Shape)

variable {P : Program} {cfg : Cfg} {rn rn1 rn2 : Run}

def oneR (P : Program) (cfg : Cfg) (hk : Handler) (pc : PC P) (dep : Nat) (a : Code) (p : Nat) (S : Shape) (X : List (Ex × Shape)) (ψ : S.den → Option (XDen X)) (d : S.den) : Option (XDen X) :=
  codeK P (cfg.knows hk) (rnO P pc (runO P cfg hk pc dep)) 0 a (2 * p) (S.fr d) (S.st d) fun e fr st => normK cfg p e.tag fr st fun fr st => leafX codeB S X ψ e fr st

def oneC (P : Program) (cfg : Cfg) (hk : Handler) (pc : PC P) (dep : Nat) (a : Code) (p : Nat) (S : Shape) (X : List (Ex × Shape)) (d : S.den) : Option (XDen X) :=
  codeK P (cfg.knows hk) (rnO P pc (runO P cfg hk pc dep)) 0 a (2 * p) (S.fr d) (S.st d) fun e fr st => normK cfg p e.ctag fr st fun fr st => decX codeB X e fr st

def handL (P : Program) (cfg : Cfg) (lp : LP) (hk : Handler) (pc : PC P) (dep : Nat) : List LE2 → Handler
  | [] => fun _ _ _ _ _ _ _ => none
  | e :: r => fun R a fid q fr st K => if e.fid = fid ∧ e.q = q then
      match e.S.dec codeB fr st with
      | some d => (if q % 2 = 0 then lp e.S.den (XDen e.X) (oneR P cfg hk pc dep a (q / 2) e.S e.X) d else oneC P cfg hk pc dep a (q / 2) e.S e.X d).bind (contX K e.X)
      | none => handL P cfg lp hk pc dep r R a fid q fr st K
    else handL P cfg lp hk pc dep r R a fid q fr st K

def hand (P : Program) (cfg : Cfg) (lp : LP) (pc : PC P) (dep : Nat) (tbl : List LE2) : Nat → Handler
  | 0 => fun _ _ _ _ _ _ _ => none
  | k + 1 => handL P cfg lp (hand P cfg lp pc dep tbl k) pc dep tbl

theorem handL_nat {lp : LP} {hk : Handler} {pc : PC P} {dep : Nat} : ∀ (l : List LE2), HandNat (handL P cfg lp hk pc dep l)
  | [] => fun _ _ _ _ _ _ _ => rfl
  | e :: r => fun R a fid p fr st K => by
    simp only [handL]
    split
    · split
      · rw [Option.bind_assoc]
        congr 1
        funext d
        rw [contX_enc, contX_enc some3]
        rfl
      · exact handL_nat r _ _ _ _ _ _ _
    · exact handL_nat r _ _ _ _ _ _ _

theorem hand_nat {lp : LP} {pc : PC P} {dep : Nat} {tbl : List LE2} : ∀ k, HandNat (hand P cfg lp pc dep tbl k)
  | 0 => fun _ _ _ _ _ _ _ => rfl
  | k + 1 => handL_nat tbl

theorem loopK_mono (hlp : cfg.lp = none) (hn : RunNat rn) {N : Nat} {a : Code} {p : Nat} {R : Type} {K : Ex → Fr → St → Option R} {x : R} : ∀ (j m : Nat) (fr : Fr) (st : St), j ≤ m → loopK (stepL P cfg rn N a p R) K j fr st = some x → loopK (stepL P cfg rn N a p R) K m fr st = some x
  | 0, m, fr, st, hm, h => by cases h
  | j + 1, 0, fr, st, hm, h => by omega
  | j + 1, m + 1, fr, st, hm, h => by
    simp only [loopK] at h ⊢
    rw [stepL_nat hlp hn] at h ⊢
    rw [Option.bind_eq_some_iff] at h ⊢
    obtain ⟨y, hy, h⟩ := h
    refine ⟨y, hy, ?_⟩
    split at h
    · rename_i he
      exact loopK_mono hlp hn j m _ _ (by omega) h
    · exact h

theorem handL_ok (hlp : cfg.lp = none) {hk : Handler} {pc : PC P} {dep N m : Nat} (hN : N ≤ m) (hh : HandOk P cfg (runK P cfg m) m hk) (hkn : HandNat hk) (hr : CallLe P (rnO P pc (runO P cfg hk pc dep)) (runK P cfg m)) :
    ∀ l : List LE2, HandOk P cfg (runK P cfg m) m (handL P cfg (lpN N) hk pc dep l)
  | [] => ⟨fun R1 R2 F a p fr st K1 K2 hK x h => (by cases h), fun R1 R2 F a p fr st K1 K2 hK x h => (by cases h)⟩
  | e :: r => by
    have ih := handL_ok hlp hN hh hkn hr r
    have nk := runK_nat (P := P) (lpNat_none hlp) m
    refine ⟨fun R1 R2 F a p fr st K1 K2 hK x h => ?_, fun R1 R2 F a p fr st K1 K2 hK x h => ?_⟩
    · simp only [handL] at h
      split at h
      · rename_i hc
        split at h
        · rename_i d hd
          rw [if_pos (by omega), show 2 * p / 2 = p by omega, Option.bind_eq_some_iff] at h
          obtain ⟨y, hy, hx⟩ := h
          obtain ⟨rfl, rfl⟩ := Shape.dec_enc codeB_eq hd
          have h1 := rounds_ok (S := e.S) (X := e.X) (a := a) (p := p) codeB_eq hlp hh hr (rnO_nat (runO_nat hkn dep)) nk (R := oneR P cfg hk pc dep a p e.S e.X) (fun ψ d => rfl) N d y hy
          have h2 := loopK_mono hlp nk N m _ _ hN h1
          refine (loopK_nat (stepL P cfg _ m a p) (stepL_nat hlp nk) K2 m _ _).trans ?_
          rw [show loopK (stepL P cfg _ m a p (Ex × Fr × St)) (fun e f s => some (e, f, s)) m _ _ = some (encX e.X y) from h2]
          rw [contX_enc] at hx
          exact hK _ _ _ _ hx
        · exact ih.loop _ _ F a p fr st K1 K2 hK x h
      · exact ih.loop _ _ F a p fr st K1 K2 hK x h
    · simp only [handL] at h
      split at h
      · rename_i hc
        split at h
        · rename_i d hd
          rw [if_neg (by omega), show (2 * p + 1) / 2 = p by omega, Option.bind_eq_some_iff] at h
          obtain ⟨y, hy, hx⟩ := h
          obtain ⟨rfl, rfl⟩ := Shape.dec_enc codeB_eq hd
          have h1 := codeK_le hlp hh hr (rnO_nat (runO_nat hkn dep)) nk (N1 := 0) a (encX e.X) (2 * p) _ _ _ (fun e1 f s => normK cfg p e1.ctag f s fun f s => some (e1, f, s)) (fun e1 f s z hz => by
            unfold normK at hz ⊢
            rw [decX_enc codeB_eq hz]) y hy
          rw [codeK_nat (lpNat_none hlp) nk, Option.bind_eq_some_iff] at h1
          obtain ⟨⟨e1, f1, s1⟩, h2, h3⟩ := h1
          rw [codeK_nat (lpNat_none hlp) nk, h2]
          rw [contX_enc] at hx
          unfold normK at h3 ⊢
          simp only [Option.some.injEq] at h3
          rw [← h3] at hx
          exact hK _ _ _ _ hx
        · exact ih.cut _ _ F a p fr st K1 K2 hK x h
      · exact ih.cut _ _ F a p fr st K1 K2 hK x h

theorem hand_known (hlp : cfg.lp = none) {N dep : Nat} {tbl : List LE2} : ∀ k, Known P cfg (hand P cfg (lpN N) (pcS P cfg N) dep tbl k) (pcS P cfg N) (N + k * (dep + 1))
  | 0 => ⟨fun m hm f args x h => pcS_some.1 h m (by omega), fun m hm => ⟨fun R1 R2 F a p fr st K1 K2 hK x h => (by cases h), fun R1 R2 F a p fr st K1 K2 hK x h => (by cases h)⟩⟩
  | k + 1 => by
    have ih := hand_known (N := N) (dep := dep) (tbl := tbl) hlp k
    have e : N + (k + 1) * (dep + 1) = N + k * (dep + 1) + dep + 1 := by rw [Nat.add_mul]; omega
    rw [e]
    refine ⟨fun m hm f args x h => pcS_some.1 h m (by omega), fun m hm => ?_⟩
    exact handL_ok hlp (by omega) (ih.loops m (by omega)) (hand_nat k) (rnO_le (runO_le hlp (hand_nat k) ih dep m (by omega)) (fun f args x h => pcS_some.1 h m (by omega))) tbl

/-- A result, at the type that it has. -/
def got {f : Nat} {T : Type} (h : (RTy P f).den = T) (o : Option (RTy P f).den) : Option T := cast (congrArg Option h) o

theorem got_rfl {f : Nat} (o : Option (RTy P f).den) : got rfl o = o := rfl

theorem Approx.got {f : Nat} {T : Type} (h : (RTy P f).den = T) {F : Nat → Option (RTy P f).den} {v : Option (RTy P f).den} (ha : Approx F v) : Approx (fun N => got h (F N)) (got h v) := by
  subst h; exact ha

/-- **A function, from its text.** -/
theorem fn_of (hlp : cfg.lp = none) {f dep k : Nat} {tbl : List LE2} {args : List PV} {T : Type} {h : (RTy P f).den = T} {B : PC P → LP → Option T}
    (heq : ∀ pc lp, got h (pcall P (runO P cfg (hand P cfg lp pc dep tbl k) pc dep) f args) = B pc lp)
    (hap : Approx (fun N => B (pcS P cfg N) (lpN N)) (B (pcL P cfg) lpL)) {y : T} (hy : B (pcL P cfg) lpL = some y) : got h (pcL P cfg f args) = some y := by
  subst h
  obtain ⟨J, hJ⟩ := hap y hy
  have h1 := hJ J (Nat.le_refl _)
  dsimp only at h1
  rw [← heq, got_rfl] at h1
  rw [got_rfl]
  refine Lim_some.2 ⟨J + k * (dep + 1) + dep, fun N hN => ?_⟩
  exact (runO_le hlp (hand_nat k) (hand_known hlp k) dep N hN).pcall h1

theorem got_call {f : Nat} {T : Type} {h : (RTy P f).den = T} {args : List PV} {y : T} (hy : got h (pcL P cfg f args) = some y) : ∃ N, pcall P (runK P cfg N) f args = some (cast h.symm y) := by
  subst h
  obtain ⟨J, hJ⟩ := Lim_some.1 hy
  exact ⟨J, hJ J (Nat.le_refl _)⟩

end Go.Proofs.YthhllkiefncbnaaDoorSim
