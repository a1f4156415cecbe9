/- From the interpreter's answer to a law's contract. -/
import Derived.Test.YthhllkiefncbnaaDoorSimRd
import Derived.Carry
import Derived.ProofKit
import Derived.OpenShut
import Derived.JoinedCond
namespace Go.Proofs.YthhllkiefncbnaaDoorSim
open Go Go.Proofs.YthhllkiefncbnaaDoor Go.ChangeShapes Go.WideShapes Go.ChangeAt Go.RowKit
set_option linter.unusedVariables false
set_option linter.unusedSimpArgs false

variable {H : Type} {enc : TypeId × Value → H} {P : Program} {W : World} {cfg : Cfg}

/-- The ghost of a world in which nothing may turn. -/
def ghOf (W : World) : Gh := { hid := fun k => k < W.heap.size, prot := oldP W, phi := fun _ => 0, mrow := fun _ => (0, 0), tok := fun _ => none }

theorem ghOf_inv (hg : ∀ n cs, globC n = some cs → GlobAt (ghOf W) W n cs) : Inv (ghOf W) (fun _ => false) .empty W where
  objs := fun o x h => by simp [St.empty] at h
  ohid := fun o h => by have := h.lt; simp [St.empty] at this
  inj := fun o o' h => by have := h.lt; simp [St.empty] at this
  below := fun o x h => by simp [St.empty] at h
  toks := fun t h => by simp [St.empty] at h
  dead := fun _ _ => rfl
  lt := fun t h => by simp [St.empty] at h
  dist := fun t t' r r' k h => by cases h
  sep := fun t r k o h => by cases h
  hidLt := fun k hk => hk
  protEx := fun k off hk => hk
  glob := hg

/-- A law's call: the machine comes to the interpreter's answer; of what was there nothing turns. -/
theorem law_calls (hg : ∀ n cs, globC n = some cs → GlobAt (ghOf W) W n cs) (hlp : cfg.lp = none) (hP : ProgOk P) {f N : Nat} {args : List PV} {vals : List Value} {y : (RTy P f).den} (h : pcall P (runK P cfg N) f args = some y) (hy : (retPV P f y 0 .empty).1 = .c (.bool true))
    (hr : All2 (RelPV (ghOf W) W) args vals) (hb : ∀ y ∈ args, belowPV (fun _ => false) 0 y = true) :
    Calls P f vals.toArray W fun e W' => e = .returned (.bool true) ∧ Below W.heap.size W W' := by
  have hc := (pcall_ok (c := 0) (b := fun _ => false) (st := .empty) (runK_ok hlp hP N) rfl h hr hb (ghOf_inv hg) 0).2
  refine (callsIn_wide (n := 0)).1 (hc.mono ?_)
  rintro e W' ⟨v, g', rfl, h1, h2, h3⟩
  rw [hy] at h1
  exact ⟨by rw [show v = .bool true from h1], ⟨h3.os, h3.tape, h3.output, h3.size, fun k hk => h3.hidden k hk⟩⟩

def argPV (q : Ty × Bool) (x : q.1.den) : PV := if q.2 then .agg (toCells q.1 x) else .c ((toCells q.1 x).headD .nilptr)

def argsPV : (tys : List (Ty × Bool)) → (tys.foldr (fun p r => Ty.pair p.1 r) .unit).den → List PV
  | [], _ => []
  | q :: r, x => argPV q x.1 :: argsPV r x.2

theorem toCells_plain : ∀ (τ : Ty) (x : τ.den), ∀ c ∈ toCells τ x, belowC (fun _ => false) 0 c = true := fun τ x => toCells_below _ _

theorem argsPV_below : ∀ (tys : List (Ty × Bool)) (x : (tys.foldr (fun p r => Ty.pair p.1 r) .unit).den), ∀ y ∈ argsPV tys x, belowPV (fun _ => false) 0 y = true
  | [], _, y, h => by cases h
  | q :: r, x, y, h => by
    simp only [argsPV, List.mem_cons] at h
    rcases h with rfl | h
    · unfold argPV
      split
      · exact belowPV_agg (toCells_plain q.1 x.1)
      · show belowC _ _ _ = true
        cases hc : toCells q.1 x.1 with
        | nil => rfl
        | cons c cs => exact toCells_plain q.1 x.1 c (by rw [hc]; simp)
    · exact argsPV_below r x.2 y h

theorem okWide_shape {t : TypeId} {τ : Ty} {agg : Bool} {d : Nat} {v : Value} (ht : tyOf P (d + 1) t = some τ) (ha : aggT P t = some agg) (h : Value.okWide P W .any 0 t v) : if agg then v = .agg v.cells else v.cells.toList = [v] := by
  simp only [tyOf] at ht
  unfold aggT at ha
  split at ht
  · rename_i k hu
    rw [hu] at ha
    simp at ha
    subst ha
    obtain ⟨n, rfl⟩ := okWide_int hu h
    rfl
  · rename_i hu
    rw [hu] at ha
    simp at ha
    subst ha
    have : ∃ b, v = .bool b := by
      simp only [Value.okWide, hu, Cell.okWide] at h
      cases v <;> simp_all [Cell.ok]
    obtain ⟨n, rfl⟩ := this
    rfl
  · rename_i hu
    rw [hu] at ha
    simp at ha
    subst ha
    obtain ⟨n, rfl⟩ := okWide_string hu h
    rfl
  · rename_i e hu
    rw [hu] at ha
    simp at ha
    subst ha
    obtain ⟨a, l, c, rfl⟩ := okWide_slice hu h
    rfl
  · rename_i fs hu
    rw [hu] at ha
    simp at ha
    subst ha
    simp only [Value.okWide, hu] at h
    obtain ⟨cs, rfl, _⟩ := h
    rfl
  · cases ht

theorem args_read : ∀ (ts : List TypeId) (tys : List (Ty × Bool)) (vs : List Value) (ds : List (DataW H)) (ps : List MemPlace), resTys P ts = some tys → (∀ t ∈ ts, rdOk P 12 t = true) → DataW.TrodAll enc P W 0 (fun _ => true) true ts vs ds ps →
    (∀ (j : Nat) t v, ts[j]? = some t → vs[j]? = some v → Value.okWide P W .any 0 t v) →
    ∃ x : (tys.foldr (fun p r => Ty.pair p.1 r) .unit).den, All2 (RelPV (ghOf W) W) (argsPV tys x) vs ∧ wfD _ x ∧ bulkD _ x ≤ Rows.uptoBulkAll ds
  | [], tys, vs, ds, ps, ht, _, h, _ => by
    simp only [resTys, Option.some.injEq] at ht
    subst ht
    obtain ⟨rfl, rfl, rfl⟩ := trodAll_nil h
    exact ⟨(), trivial, trivial, Nat.zero_le _⟩
  | t :: ts, tys, vs, ds, ps, ht, hrd, h, hok => by
    simp only [resTys] at ht
    split at ht
    · rename_i τ agg l h1 h2 h3
      split at ht
      · rename_i hs
        simp only [Option.some.injEq] at ht
        subst ht
        obtain ⟨v, vs', d, ds', p, q, rfl, rfl, rfl, ⟨n, hv⟩, hrest⟩ := trodAll_cons h
        obtain ⟨x, hx, hbk, _⟩ := trod_read 12 n t τ _ _ (hrd t (by simp)) h1 hv
        obtain ⟨z, hz, hzw, hzb⟩ := args_read ts l vs' ds' q h3 (fun t ht => hrd t (by simp [ht])) hrest (fun j t v a b => hok (j + 1) t v (by simpa using a) (by simpa using b))
        have hsh := okWide_shape (d := 11) h1 h2 (hok 0 t v rfl rfl)
        have hcell := toCells_rel (g := ghOf W) τ x _ hx
        refine ⟨(x, z), ⟨?_, hz⟩, ⟨relD_wf hx, hzw⟩, ?_⟩
        · unfold argPV
          cases agg with
          | true =>
            simp only [if_true] at hsh ⊢
            exact ⟨v.cells.toList, by simpa using hsh, hcell⟩
          | false =>
            simp only [Bool.false_eq_true, if_false] at hsh ⊢
            rw [hsh] at hcell
            match hc : toCells τ x, hcell with
            | [c], hcell => exact hcell.1
        · simp only [List.foldr_cons, bulkD, Rows.uptoBulkAll]
          exact Nat.add_le_add hbk hzb
      · cases ht
    · cases ht

theorem args_stay (hl : laidOutB P = true) {W' : World} (hb : Below W.heap.size W W') : ∀ (ts : List TypeId) (vs : List Value) (ds : List (DataW H)) (ps : List MemPlace), (∀ t ∈ ts, P.readableRec t = true ∧ t < P.types.size) → DataW.TrodAll enc P W 0 (fun _ => true) true ts vs ds ps →
    (∀ x ∈ ps, x.block < W.heap.size) → DataW.TrodAll enc P W' 0 (fun b => decide (b < W.heap.size)) true ts vs ds ps
  | [], vs, ds, ps, _, h, _ => by
    obtain ⟨rfl, rfl, rfl⟩ := trodAll_nil h
    exact trodAll_mk0
  | t :: ts, vs, ds, ps, ht, h, hlt => by
    obtain ⟨v, vs', d, ds', p, q, rfl, rfl, rfl, hv, hrest⟩ := trodAll_cons h
    obtain ⟨h1, h2⟩ := ht t (by simp)
    exact ⟨p, q, Below.trod hl h1 h2 hv hb (fun x hx => hlt x (by simp [hx])), args_stay hl hb ts vs' ds' q (fun t ht' => ht t (by simp [ht'])) hrest (fun x hx => hlt x (by simp [hx])), rfl⟩

theorem trodAll_len {sp : Nat → Bool} {hd : Bool} : ∀ {ts : List TypeId} {vs : List Value} {ds : List (DataW H)} {ps : List MemPlace}, DataW.TrodAll enc P W 0 sp hd ts vs ds ps → ds.length = ts.length
  | [], vs, ds, ps, h => by
    obtain ⟨rfl, rfl, rfl⟩ := trodAll_nil h
    rfl
  | t :: ts, vs, ds, ps, h => by
    obtain ⟨v, vs', d, ds', p, q, rfl, rfl, rfl, _, hrest⟩ := trodAll_cons h
    simp [trodAll_len hrest]

/-- **A law's contract.** -/
theorem law_contract (hg : ∀ n cs, globC n = some cs → GlobAt (ghOf W) W n cs) (hlp : cfg.lp = none) (hP : ProgOk P) (hl : laidOutB P = true) {f : Nat} {fn : Func} {tys : List (Ty × Bool)} {tb : TypeId} {s : ChangeSpec} {B : Nat} (hres : fn.resultTypes = #[tb]) (htb : P.underlying tb = some .bool) (hvars : s.vars = [])
    (hp : resTys P fn.params.toList = some tys) (hrd : ∀ t ∈ fn.params.toList, rdOk P 12 t = true ∧ P.readableRec t = true ∧ t < P.types.size)
    (hs : ∀ ds : List (DataW H), ds.length = fn.params.toList.length → s.fn H ds = { results := [.lit (.bool true)], args := ds })
    (hlaw : ∀ x : (tys.foldr (fun p r => Ty.pair p.1 r) .unit).den, wfD _ x → bulkD _ x ≤ B → ∃ N y, pcall P (runK P cfg N) f (argsPV tys x) = some y ∧ (retPV P f y 0 .empty).1 = .c (.bool true))
    (args : Array Value) (ds gs : List (DataW H)) (before : List MemPlace)
    (hval : ∀ (j : Nat) t v, fn.params[j]? = some t → args[j]? = some v → Value.okWide P W .any 0 t v)
    (hW : DataW.Whole enc P fn.params.toList s.vars false W args.toList ds gs before) (hk : Rows.uptoBulkAll (ds ++ gs) ≤ B) :
    Calls P f args W fun e W' => ∃ v, e = .returned v ∧ s.post enc P fn false true false false W args v W' := by
  have hW' := hW
  obtain ⟨p, q, hA, hV, rfl, hfz, hnd⟩ := hW
  rw [hvars] at hV
  obtain ⟨rfl, rfl⟩ := trodVars_none hV
  simp only [List.append_nil] at hk hW'
  obtain ⟨x, hx, hxw, hbk⟩ := args_read _ tys _ _ _ hp (fun t ht => (hrd t ht).1) hA (fun j t v a b => hval j t v (by simpa using a) (by simpa using b))
  obtain ⟨N, y, hy1, hy2⟩ := hlaw x hxw (Nat.le_trans hbk hk)
  have hc := law_calls hg hlp hP hy1 hy2 hx (argsPV_below tys x)
  rw [show args.toList.toArray = args by simp] at hc
  refine hc.mono fun e W' ⟨he, hb⟩ => ?_
  have hlen := trodAll_len hA
  have hfn := hs ds hlen
  refine ⟨_, he, ds, [], p, [], p, [], hW', ?_, ?_, ?_, Below.frame hb _, fun h => by cases h⟩
  · simp only [List.append_nil, hfn, hres]
    exact trodAll_cons_mk (shut_bool htb _) trodAll_mk0
  · simp only [List.append_nil, hfn]
    exact args_stay hl hb _ _ _ _ (fun t ht => (hrd t ht).2) hA (fun z hz => by simpa using hW'.lt z hz)
  · rw [hvars]
    simp only [List.append_nil, hfn]
    rfl

end Go.Proofs.YthhllkiefncbnaaDoorSim
