/- What every row uses. -/
import Derived.Test.YthhllkiefncbnaaDoorSimTop
import Derived.Test.YthhllkiefncbnaaDoorPl
namespace Go.Proofs.YthhllkiefncbnaaDoorSim
open Go

theorem sum_ge : ∀ (l : List Nat), (∀ x ∈ l, 1 ≤ x) → l.length ≤ l.sum
  | [], _ => by simp
  | a :: l, h => by
    have := sum_ge l (fun x hx => h x (by simp [hx]))
    have := h a (by simp)
    simp only [List.length_cons, List.sum_cons]; omega

theorem wf_bytes {l : List Int} (h : wfD (.slice (.int .u8)) l) : Bytes l := fun x hx => wf_byte (h x hx)
theorem wf_str {l : List Int} (h : wfD .str l) : Bytes l := h
theorem bulk_bytes {l : List Int} {k : IntKind} {n : Nat} (h : bulkD (.slice (.int k)) l ≤ n) : l.length ≤ n := by
  have := sum_ge (l.map (bulkD (.int k))) (fun x hx => by
    rw [List.mem_map] at hx
    obtain ⟨y, _, rfl⟩ := hx
    exact Nat.le_refl _)
  simp only [List.length_map] at this
  have h' : (l.map (bulkD (.int k))).sum + 1 ≤ n := h
  omega

theorem law_end {P : Program} {cfg : Cfg} {f : Nat} {h : (RTy P f).den = Bool} {args : List PV} (hl : got h (pcL P cfg f args) = some true) (hr : (retPV P f (cast h.symm true) 0 .empty).1 = .c (.bool true)) :
    ∃ N y, pcall P (runK P cfg N) f args = some y ∧ (retPV P f y 0 .empty).1 = .c (.bool true) := by
  obtain ⟨N, hN⟩ := got_call hl
  exact ⟨N, _, hN, hr⟩

end Go.Proofs.YthhllkiefncbnaaDoorSim
