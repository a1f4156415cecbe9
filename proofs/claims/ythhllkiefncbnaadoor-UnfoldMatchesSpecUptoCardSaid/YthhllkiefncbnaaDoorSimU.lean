/- Code. -/
import Derived.Test.YthhllkiefncbnaaDoorSimT
namespace Go.Proofs.YthhllkiefncbnaaDoorSim
open Go
set_option linter.unusedVariables false
set_option linter.unusedSimpArgs false

variable {P : Program} {cfg : Cfg} {rn : Run} {g g' : Gh} {w w' : World} {st st' : St} {b : Nat → Bool} {m base : Nat}

def exitOf : Ex → Exit
  | .normal => .normal
  | .exit id => .exit id
  | .ret => .ret

/-- The marks that loops over iterators have left. -/
def DefOk (h0 : Nat → Prop) (g : Gh) (w : World) (ds : List Deferred) : Prop :=
  ∃ Ds : List Nat, ds = Ds.map (fun D => ({ target := .collected D, args := #[] } : Deferred)) ∧ Ds.Nodup ∧ ∀ D ∈ Ds, g.hid D ∧ ¬ h0 D ∧ w.heap[D]? = some (.deferred (some []))

theorem DefOk.step {h0 : Nat → Prop} {ds : List Deferred} {m : Nat} (h : DefOk h0 g w ds) (he : Ext b m g w g' w') : DefOk h0 g' w' ds := by
  obtain ⟨Ds, h1, h2, h3⟩ := h
  exact ⟨Ds, h1, h2, fun D hD => ⟨he.hid D (h3 D hD).1, (h3 D hD).2.1, (he.hidden D (h3 D hD).1).trans (h3 D hD).2.2⟩⟩

structure CSt (b : Nat → Bool) (h0 : Nat → Prop) (fr : Fr) (st : St) (g : Gh) (w : World) (a : Act) : Prop where
  slots : RelSlots g w (tk b fr.base st.next) st.objs.length fr.tmps a.tmps
  inv : Inv g (tk b fr.base st.next) st w
  next : fr.base ≤ st.next
  objs : fr.obase ≤ st.objs.length
  old : ∀ k, h0 k → g.hid k
  defs : fr.round = none → DefOk h0 g w a.defers

theorem tk_tk {lo mid hi t : Nat} (h1 : lo ≤ mid) (h2 : mid ≤ hi) (h : tk (tk b lo mid) mid hi t = true) : tk b lo hi t = true := by
  simp only [tk_iff] at h ⊢
  rcases h with (h | h) | h
  · exact .inl h
  · right; omega
  · right; omega

theorem tk_mono {lo hi hi' t : Nat} (h2 : hi ≤ hi') (h : tk b lo hi t = true) : tk b lo hi' t = true := by
  simp only [tk_iff] at h ⊢
  rcases h with h | h
  · exact .inl h
  · right; omega

/-- A loop that is left when a number has come down. -/
theorem wpIn_loop_nat {F : Fence} {n : Nat} {c : Code} {Q : Exit → Act → World → Prop} {a : Act} {w : World} (I : Nat → Act → World → Prop) (j0 : Nat) (h0 : I j0 a w)
    (round : ∀ j a w, I j a w → c.wpIn F n P (Exit.then (fun a' w' => ∃ j', j' < j ∧ I j' a' w') Q) a w) : (Code.loop c).wpIn F n P Q a w := by
  intro b k cs hro hb hr
  have key : ∀ j a w, I j a w →
      ∃ e a' w', Q e a' w' ∧ ArrivesIn (Machine.fenced P F) P (lone (b.atR a (.code c :: .inLoop c :: k)) cs w) b k cs e a' w' := by
    intro j
    induction j using Nat.strongRecOn with
    | _ j ih =>
      intro a w hI
      obtain ⟨e, a₁, w₁, hq, harr⟩ := round j a w hI b (.inLoop c :: k) cs hro hb hr
      cases e with
      | normal =>
        obtain ⟨j', hlt, hI₁⟩ := hq
        obtain ⟨e₂, a₂, w₂, hq₂, harr₂⟩ := ih j' hlt a₁ w₁ hI₁
        exact ⟨e₂, a₂, w₂, hq₂, .of_steps (StepsIn.trans harr (.one (fenced_calm hb hr rfl) stepR_inLoop)) harr₂⟩
      | exit id => exact ⟨_, a₁, w₁, hq, .pass (x := .inLoop c) rfl (fun _ _ => .inl (by simp)) harr⟩
      | goto l => exact ⟨_, a₁, w₁, hq, .pass (x := .inLoop c) rfl (fun _ _ => .inl (by simp)) harr⟩
      | ret => exact ⟨_, a₁, w₁, hq, .pass (x := .inLoop c) rfl (fun _ _ => .inl (by simp)) harr⟩
      | panic ch => exact ⟨_, a₁, w₁, hq, .pass (x := .inLoop c) rfl (fun _ _ => .inl (by simp)) harr⟩
      | outgrown => exact ⟨_, a₁, w₁, hq, .pass (x := .inLoop c) rfl (fun _ _ => .inl (by simp)) harr⟩
  obtain ⟨e, a', w', hq, harr⟩ := key j0 a w h0
  exact ⟨e, a', w', hq, .of_steps (.one (fenced_calm hb hr rfl) stepR_loop) harr⟩

/-- A new block that is never touched. -/
theorem Inv.newHid (hi : Inv g b st w) (o : Obj) :
    Inv { g with hid := fun k => g.hid k ∨ k = w.heap.size } b st (w.alloc o) ∧ Ext b st.objs.length g w { g with hid := fun k => g.hid k ∨ k = w.heap.size } (w.alloc o) := by
  have he : Ext b st.objs.length g w { g with hid := fun k => g.hid k ∨ k = w.heap.size } (w.alloc o) :=
    { os := rfl, tape := rfl, output := rfl, size := by simp, hid := fun _ h => .inl h, hidden := fun k hk => heap_alloc_old w o k (hi.hidLt k hk),
      cells := fun k off hk => cell_alloc (hi.protEx k off hk) o, prot := fun _ _ h => h, newp := fun _ _ _ h => h, phi := fun _ _ => rfl, mrow := fun _ _ => rfl, tok := fun _ _ => .inl rfl }
  refine ⟨?_, he⟩
  exact
    { objs := fun o' x hx => by
        have hlt := (List.getElem?_eq_some_iff.1 hx).1
        have ok := hi.objs o' x hx
        exact ok.kept he hlt (hi.below o' x hx) (fun hs => heap_alloc_old w o _ (ok.lt hs)) (fun _ _ h => h)
      ohid := fun o' ho hh => by
        rcases hh with hh | hh
        · exact hi.ohid o' ho hh
        · obtain ⟨x, h1, h2⟩ := ho
          have := (hi.objs o' x h1).lt h2; simp only at hh; omega
      inj := hi.inj
      below := hi.below
      toks := fun t ht => by
        obtain ⟨r, hr, ok⟩ := hi.toks t ht
        refine ⟨r, hr, ?_⟩
        rcases ok with h | ⟨bk, n, cap, cur, hv, h1, h2, h3, h4, h5, h6⟩
        · exact .inl h
        · have hlt := block_lt h1
          exact .inr ⟨bk, n, cap, cur, hv, by rw [heap_alloc_old w o _ hlt]; exact h1, h2, h3, h4, fun q => q.elim h5 (fun e => by omega), h6⟩
      dead := hi.dead
      lt := hi.lt
      dist := hi.dist
      sep := hi.sep
      hidLt := fun k hk => by
        rcases hk with hk | hk
        · have := hi.hidLt k hk; simp; omega
        · simp; omega
      protEx := fun k off hk => by have := hi.protEx k off hk; simp; omega
      glob := fun n cs h => (hi.glob n cs h).mono he.prot he.cells }

theorem CSt.region {h0 : Nat → Prop} {fr : Fr} {a : Act} (hc : CSt b h0 fr st g w a) {fr' : Fr} {a' : Act} (hs : RelSlots g' w' (tk (tk b fr.base st.next) st.next st'.next) st'.objs.length fr'.tmps a'.tmps) (hi : Inv g' (tk (tk b fr.base st.next) st.next st'.next) st' w')
    (he : Ext (tk b fr.base st.next) st.objs.length g w g' w') (hf : SameFr fr fr') (hd : a'.defers = a.defers) (hn : st.next ≤ st'.next) (ho : st.objs.length ≤ st'.objs.length) : CSt b h0 fr' st' g' w' a' := by
  obtain ⟨f1, f2, f3, f4⟩ := hf
  have hm : ∀ t, tk (tk b fr.base st.next) st.next st'.next t = true → tk b fr'.base st'.next t = true := fun t h => by rw [f2]; exact tk_tk hc.next hn h
  exact
    { slots := ⟨hs.1, fun x hx => belowPV.mono hm (Nat.le_refl _) (hs.2 x hx)⟩
      inv := hi.mono_b hm
      next := by rw [f2]; exact Nat.le_trans hc.next hn
      objs := by rw [f3]; exact Nat.le_trans hc.objs ho
      old := fun k hk => he.hid k (hc.old k hk)
      defs := fun h => by rw [hd]; exact (hc.defs (f4 ▸ h)).step he }

end Go.Proofs.YthhllkiefncbnaaDoorSim
