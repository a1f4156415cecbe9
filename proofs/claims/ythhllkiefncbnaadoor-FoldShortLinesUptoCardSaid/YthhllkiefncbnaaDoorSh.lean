/- strings.Join, taken by what is known of it. -/
import Derived.Test.YthhllkiefncbnaaDoorSimPr
import Derived.Lib.Join
namespace Go.Proofs.YthhllkiefncbnaaDoorSim
open Go
set_option linter.unusedVariables false
set_option linter.unusedSimpArgs false

variable {P : Program} {g : Gh} {w : World}

def i8 (b : UInt8) : Int := (b.toNat : Int)

theorem map_intersperse {α β : Type} (f : α → β) (s : α) : ∀ l : List α, (List.intersperse s l).map f = List.intersperse (f s) (l.map f)
  | [] => rfl
  | [a] => rfl
  | a :: b :: r => by simp [List.intersperse, map_intersperse f s (b :: r)]

theorem bl_join (xs : List ByteArray) (sep : ByteArray) : bl ⟨(Lib.join (xs.map (·.data.toList)) sep.data.toList).toArray⟩ = joinL (xs.map bl) (bl sep) := by
  show (Lib.join (xs.map (·.data.toList)) sep.data.toList).map i8 = (List.intersperse (bl sep) (xs.map bl)).flatten
  unfold Lib.join List.intercalate
  rw [List.map_flatten, map_intersperse, List.map_map]
  rfl

theorem bl_len (l : List UInt8) : (bl ⟨l.toArray⟩).length = l.length := by simp [bl]

/-- What is known of strings.Join. -/
theorem join_ok {fj : Nat} (h0 : ∀ (a : Option Addr) (c : Nat) (sep : ByteArray) (w : World), Calls P fj #[.slice a 0 c, .string sep] w fun e w' => e = .returned (.string ⟨#[]⟩) ∧ w' = w)
    (h1 : ∀ (bk o c : Nat) (xs : List ByteArray) (sep : ByteArray) (w : World), (∀ (j : Nat) x, xs[j]? = some x → w.cell? ⟨bk, o + j, none⟩ = some (.string x)) → bk < w.heap.size → xs.length ≤ 140737488355328 → xs.length ≤ c → (Lib.join (xs.map (·.data.toList)) sep.data.toList).length ≤ 140737488355328 →
      Calls P fj #[.slice (some ⟨bk, o, none⟩) xs.length c, .string sep] w fun e w' => e = .returned (.string ⟨(Lib.join (xs.map (·.data.toList)) sep.data.toList).toArray⟩) ∧ RowKit.Below w.heap.size w w')
    {args : List PV} {v : PV} (h : shC 0 args = some (true, v)) {vals : List Value} (hr : All2 (RelPV g w) args vals) :
    (∀ (b : Nat → Bool) (m : Nat), belowPV b m v = true) ∧ Calls P fj vals.toArray w fun e w' => ∃ (u : Value) (pr : Nat → Nat → Prop), e = .returned u ∧ RowKit.Below w.heap.size w w' ∧
      (∀ k off, pr k off → w.heap.size ≤ k ∧ k < w'.heap.size) ∧ ∀ g' : Gh, (∀ k off, pr k off → g'.prot k off) → RelPV g' w' v u := by
  have none_ok : ∀ (a : Option Addr) (c : Nat) (sep : ByteArray), Calls P fj #[.slice a 0 c, .string sep] w fun e w' => ∃ (u : Value) (pr : Nat → Nat → Prop), e = .returned u ∧ RowKit.Below w.heap.size w w' ∧
      (∀ k off, pr k off → w.heap.size ≤ k ∧ k < w'.heap.size) ∧ ∀ g' : Gh, (∀ k off, pr k off → g'.prot k off) → RelPV g' w' (.c (.str [])) u := fun a c sep => (h0 a c sep w).mono (by
    rintro e w' ⟨rfl, rfl⟩
    exact ⟨_, fun _ _ => False, rfl, RowKit.Below.refl _ _, fun _ _ h => h.elim, fun g' _ => ⟨⟨#[]⟩, rfl, rfl, Nat.zero_le _⟩⟩)
  simp only [shC, if_true] at h
  split at h
  · rename_i tk l s
    simp only [Option.some.injEq, Prod.mk.injEq, decide_eq_true_eq] at h
    obtain ⟨⟨hq1, hq2⟩, rfl⟩ := h
    refine ⟨fun _ _ => rfl, ?_⟩
    match vals, hr with
    | [v1, v2], hr =>
      obtain ⟨⟨⟨a, cap, rfl, hc1, hc2, hel⟩, _⟩, ⟨sep, rfl, rfl, hsep⟩, _⟩ := hr
      cases hl : l with
      | nil =>
        subst hl
        exact none_ok a cap sep
      | cons x0 r =>
        rw [← hl]
        obtain ⟨bk, o, cs0, ha, _⟩ := hel 0 x0 (by rw [hl]; rfl)
        have hstr : ∀ (j : Nat) (x : List Int), l[j]? = some x → bl (toBA x) = x ∧ w.cell? ⟨bk, o + j, none⟩ = some (.string (toBA x)) ∧ (toBA x).size ≤ maxL := fun j x hx => by
          obtain ⟨b', o', cs, ha', ⟨u, rfl, s, rfl, rfl, hs⟩, hcl, hall⟩ := hel j x hx
          rw [ha] at ha'
          simp only [Option.some.injEq, Addr.mk.injEq, and_true] at ha'
          obtain ⟨rfl, rfl⟩ := ha'
          have := (hall 0 _ rfl).2
          rw [toBA_bl]
          exact ⟨rfl, by simpa [Ty.size] using this, hs⟩
        have hmap : (l.map toBA).map bl = l := by
          rw [List.map_map]
          conv => rhs; rw [← List.map_id l]
          apply List.map_congr_left
          intro x hx
          obtain ⟨j, hj⟩ := List.mem_iff_getElem?.1 hx
          exact (hstr j x hj).1
        have hlen : (Lib.join ((l.map toBA).map (·.data.toList)) sep.data.toList).length = (joinL l (bl sep)).length := by
          rw [← bl_len, bl_join, hmap]
        have hcell0 := (hstr 0 x0 (by rw [hl]; rfl)).2.1
        have hbk : bk < w.heap.size := Classical.byContradiction fun q => by
          have : w.heap[bk]? = none := Array.getElem?_eq_none (by omega)
          simp [World.cell?, this] at hcell0
        have hc := h1 bk o cap (l.map toBA) sep w (fun j x hx => by
          rw [List.getElem?_map, Option.map_eq_some_iff] at hx
          obtain ⟨y, hy, rfl⟩ := hx
          exact (hstr j y hy).2.1) hbk (by rw [List.length_map]; exact hq2) (by rw [List.length_map]; exact hc1) (by rw [hlen]; exact hq1)
        rw [List.length_map, ← ha] at hc
        refine hc.mono ?_
        rintro e w' ⟨rfl, hB⟩
        refine ⟨_, fun _ _ => False, rfl, hB, fun _ _ h => h.elim, fun g' _ => ⟨_, rfl, ?_, ?_⟩⟩
        · rw [bl_join, hmap]
        · have : (⟨(Lib.join ((l.map toBA).map (·.data.toList)) sep.data.toList).toArray⟩ : ByteArray).size = (joinL l (bl sep)).length := by
            rw [← hlen]; simp [ByteArray.size]
          rw [this]; unfold maxL; omega
    | [], hr => exact hr.elim
    | [_], hr => exact hr.2.elim
    | _ :: _ :: _ :: _, hr => exact hr.2.2.elim
  · rename_i s
    simp only [Option.some.injEq, Prod.mk.injEq, true_and] at h
    subst h
    refine ⟨fun _ _ => rfl, ?_⟩
    match vals, hr with
    | [v1, v2], hr =>
      obtain ⟨rfl, ⟨sep, rfl, rfl, hsep⟩, _⟩ := hr
      exact none_ok none 0 sep
    | [], hr => exact hr.elim
    | [_], hr => exact hr.2.elim
    | _ :: _ :: _ :: _, hr => exact hr.2.2.elim
  · cases h

/-- Of the library's functions strings.Join alone is taken by what is known of it. -/
theorem shOk_join {fj : Nat} (hlist : shList = [(fj, 0), (1000000, 1000000)]) (hbody : (P.funcs[fj]?.bind (·.body)).isSome = true)
    (h0 : ∀ (a : Option Addr) (c : Nat) (sep : ByteArray) (w : World), Calls P fj #[.slice a 0 c, .string sep] w fun e w' => e = .returned (.string ⟨#[]⟩) ∧ w' = w)
    (h1 : ∀ (bk o c : Nat) (xs : List ByteArray) (sep : ByteArray) (w : World), (∀ (j : Nat) x, xs[j]? = some x → w.cell? ⟨bk, o + j, none⟩ = some (.string x)) → bk < w.heap.size → xs.length ≤ 140737488355328 → xs.length ≤ c → (Lib.join (xs.map (·.data.toList)) sep.data.toList).length ≤ 140737488355328 →
      Calls P fj #[.slice (some ⟨bk, o, none⟩) xs.length c, .string sep] w fun e w' => e = .returned (.string ⟨(Lib.join (xs.map (·.data.toList)) sep.data.toList).toArray⟩) ∧ RowKit.Below w.heap.size w w') : ShOk P := fun f k args v hk hv => by
  have hk' : List.lookup f [(fj, 0), (1000000, 1000000)] = some k := by rw [← hlist]; exact hk
  by_cases e : f = fj
  · subst e
    have : k = 0 := by simpa [List.lookup] using hk'.symm
    subst this
    refine ⟨fun b m => ?_, hbody, fun g w vals hr => (join_ok h0 h1 hv hr).2⟩
    unfold shC at hv
    simp only [if_true] at hv
    split at hv
    · simp only [Option.some.injEq, Prod.mk.injEq] at hv; rw [← hv.2]; rfl
    · simp only [Option.some.injEq, Prod.mk.injEq] at hv; rw [← hv.2]; rfl
    · cases hv
  · have q : (f == fj) = false := by simpa using e
    by_cases e2 : f = 1000000
    · subst e2
      have : k = 1000000 := by simpa [List.lookup, q] using hk'.symm
      subst this
      simp [shC] at hv
    · have : (f == 1000000) = false := by simpa using e2
      simp [List.lookup, q, this] at hk'

end Go.Proofs.YthhllkiefncbnaaDoorSim
