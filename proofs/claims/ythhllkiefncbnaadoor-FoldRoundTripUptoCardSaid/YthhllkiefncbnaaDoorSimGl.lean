/- What the listed package-level variables hold. -/
import Derived.Test.YthhllkiefncbnaaDoorSimTop
import Derived.MakeChecks
import Derived.FnData
namespace Go.Proofs.YthhllkiefncbnaaDoorSim
open Go Go.Proofs.YthhllkiefncbnaaDoor
set_option linter.unusedVariables false
set_option linter.unusedSimpArgs false

variable {P : Program} {W : World} {sp : Nat → Bool} {hd : Bool}

def globCells (P : Program) (t : TypeId) (d : DataW Unit) : Option (List C) :=
  match P.underlying t with
  | some (.array n e) => match tyOf P 12 e, d with
    | some τ, .agg ds => if rdOk P 12 e = true ∧ P.cellsOf e = τ.size ∧ P.cellsOf t = n * τ.size then (undatL (undat τ) ds).map fun l => l.flatMap (toCells τ) else none
    | _, _ => none
  | _ => match tyOf P 12 t with
    | some τ => if rdOk P 12 t = true then (undat τ d).map (toCells τ) else none
    | none => none

def globFind (P : Program) (laid : List (String × DataW Unit)) (n : Nat) : Option (List C) :=
  match laid.find? (fun x => P.globalNamed x.1 == some n), (P.globals[n]?).map (·.type) with
  | some x, some t => globCells P t x.2
  | _, _ => none

theorem all2_app {R : C → Value → Prop} : ∀ {a b : List C} {c d : List Value}, All2 R a c → All2 R b d → All2 R (a ++ b) (c ++ d)
  | [], _, [], _, _, h => h
  | _ :: _, _, _ :: _, _, ⟨h1, h2⟩, h => ⟨h1, all2_app h2 h⟩
  | [], _, _ :: _, _, h, _ => by cases h
  | _ :: _, _, [], _, h, _ => by cases h

theorem arr_read {τ : Ty} {e : TypeId} {m : Nat} (hrd : rdOk P 12 e = true) (ht : tyOf P 12 e = some τ) : ∀ (ys : List (DataW Unit × List MemPlace)) (cs : List Value) (l : List τ.den),
    cs.length = ys.length * τ.size → (∀ i, i < ys.length → DataW.trod (fun _ => ()) P W 0 sp hd m e ((cs.drop (i * τ.size)).take τ.size) = ys[i]?) → undatL (undat τ) (ys.map (·.1)) = some l →
    All2 (RelC (ghOf W) W) (l.flatMap (toCells τ)) cs
  | [], cs, l, hl, _, hu => by
    simp only [List.map_nil, undatL, Option.some.injEq] at hu
    subst hu
    have : cs = [] := List.eq_nil_of_length_eq_zero (by simpa using hl)
    subst this
    exact trivial
  | y :: ys, cs, l, hl, hr, hu => by
    simp only [List.map_cons, undatL] at hu
    split at hu
    · rename_i x l' h1 h2
      simp only [Option.some.injEq] at hu
      subst hu
      have h0 := hr 0 (by simp)
      simp only [Nat.zero_mul, List.drop_zero, List.getElem?_cons_zero] at h0
      obtain ⟨x', hx, _, hux⟩ := trod_read 12 m e τ _ _ hrd ht h0
      rw [h1] at hux
      obtain rfl := Option.some.inj hux
      have hc := toCells_rel (g := ghOf W) τ x _ hx
      simp only [List.length_cons, Nat.add_mul, Nat.one_mul] at hl
      have hrest := arr_read hrd ht ys (cs.drop τ.size) l' (by rw [List.length_drop]; omega) (fun i hi => by
        have := hr (i + 1) (by simp; omega)
        rw [List.drop_drop]
        rw [Nat.add_mul, Nat.one_mul, Nat.add_comm] at this
        simpa using this) h2
      have := all2_app hc hrest
      rw [List.take_append_drop] at this
      rw [List.flatMap_cons]
      exact this
    · cases hu

theorem cells_read {fuel : Nat} {t : TypeId} {cs : List Value} {d : DataW Unit} {p : List MemPlace} {l : List C} (h : DataW.trod (fun _ => ()) P W 0 sp hd fuel t cs = some (d, p)) (hc : globCells P t d = some l) :
    All2 (RelC (ghOf W) W) l cs ∧ ∀ x ∈ l, belowC (fun _ => false) 0 x = true := by
  unfold globCells at hc
  split at hc
  · rename_i n e hu
    split at hc
    · rename_i τ ds ht
      split at hc
      · rename_i hk
        obtain ⟨h1, h2, h3⟩ := hk
        simp only [Option.map_eq_some_iff] at hc
        obtain ⟨l', hl', rfl⟩ := hc
        obtain ⟨xs, m, rfl, hx, hcl, hxl, hel⟩ := DataW.trod_array hu h
        simp only [Prod.mk.injEq, DataW.agg.injEq] at hx
        obtain ⟨rfl, _⟩ := hx
        refine ⟨arr_read (m := m) (sp := sp) (hd := hd) h1 ht xs cs l' (by rw [hcl, h3, hxl]) (fun i hi => ?_) hl', ?_⟩
        · have := hel i (by omega)
          rwa [h2] at this
        · intro x hx
          obtain ⟨y, _, hy⟩ := List.mem_flatMap.1 hx
          exact toCells_plain τ y x hy
      · cases hc
    · cases hc
  · split at hc
    · rename_i τ ht
      split at hc
      · rename_i hk
        simp only [Option.map_eq_some_iff] at hc
        obtain ⟨x, hx, rfl⟩ := hc
        obtain ⟨x', hr, _, hux⟩ := trod_read 12 fuel t τ _ _ hk ht h
        rw [hx] at hux
        obtain rfl := Option.some.inj hux
        exact ⟨toCells_rel (g := ghOf W) τ x _ hr, toCells_plain τ x⟩
      · cases hc
    · cases hc

theorem laid_mem : ∀ {laid : List (String × DataW Unit)} {ps : List MemPlace} {x : String × DataW Unit}, DataW.LaidVars P W laid ps → x ∈ laid →
    ∃ g t cs fuel p, P.globalNamed x.1 = some g ∧ (P.globals[g]?).map (·.type) = some t ∧ W.var? P x.1 = some cs ∧ DataW.trod (fun _ => ()) P W 0 (fun _ => true) false fuel t cs.toList = some (x.2, p)
  | [], _, _, _, h => by cases h
  | (n, d) :: r, ps, x, hl, h => by
    obtain ⟨g, t, cs, fuel, p, q, h1, h2, h3, h4, h5, _⟩ := hl
    rw [List.mem_cons] at h
    rcases h with rfl | h
    · exact ⟨g, t, cs, fuel, p, h1, h2, h3, h4⟩
    · exact laid_mem h5 h

theorem glob_of_laid {laid : List (String × DataW Unit)} (hp : (laid.all fun x => x.2.handleName?.isNone) = true) (ht : globTbl.map (fun p => globFind P laid p.1) = globTbl.map (fun p => some p.2)) (hL : laidMetH P laid W) :
    ∀ n cs, globC n = some cs → GlobAt (ghOf W) W n cs := by
  intro n cs h
  rw [MakeChecks.laidMetH_plain _ _ _ hp] at hL
  obtain ⟨ps, hv, _, _⟩ := hL
  have hf : globFind P laid n = some cs := by
    unfold globC at h
    generalize globTbl = tb at ht h
    induction tb with
    | nil => cases h
    | cons a r ih =>
      simp only [List.map_cons, List.cons.injEq] at ht
      rw [List.lookup_cons] at h
      split at h
      · rename_i he
        rw [beq_iff_eq] at he
        subst he
        cases h
        exact ht.1
      · exact ih ht.2 h
  unfold globFind at hf
  split at hf
  · rename_i x t hx hty
    have hm := List.mem_of_find?_eq_some hx
    have hn := List.find?_some hx
    rw [beq_iff_eq] at hn
    obtain ⟨g, t', vs, fuel, p, h1, h2, h3, h4⟩ := laid_mem hv hm
    obtain rfl : n = g := Option.some.inj (hn.symm.trans h1)
    obtain rfl : t = t' := Option.some.inj (hty.symm.trans h2)
    obtain ⟨ha, hb⟩ := cells_read h4 hf
    refine ⟨hb, vs.toList, ha, fun j u hu => ?_⟩
    have hcell := World.var?_cell hn h3 j
    have hu' : vs[j]? = some u := by simpa using hu
    rw [hu'] at hcell
    exact ⟨(cell_old hcell).1, hcell⟩
  · cases hf

end Go.Proofs.YthhllkiefncbnaaDoorSim
