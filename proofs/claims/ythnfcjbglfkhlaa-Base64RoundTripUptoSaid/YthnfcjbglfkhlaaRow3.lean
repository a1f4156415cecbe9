/- Base64RoundTrip, in the second form: the law answers true whatever the input, where the arguments hold together at most 1048576 values and letters. -/
import Derived.Test.YthnfcjbglfkhlaaRw
import Derived.Test.YthnfcjbglfkhlaaB64T
namespace Go.Proofs.Ythnfcjbglfkhlaa.base64RoundTrip
open Go.ChangeShapes Go.WideShapes Go.ChangeAt Go.RowKit Go.Proofs.YthnfcjbglfkhlaaSim
set_option linter.unusedVariables false
set_option linter.unusedSimpArgs false

theorem own : ownKnob Try.prog.godebug = none := by kernel_rfl
theorem laid : laidOutB Try.prog = true := by kernel_rfl
theorem ok : ProgOk Try.prog := progOk (by kernel_rfl) (by kernel_rfl) (by kernel_rfl)
theorem tysOf : resTys Try.prog Try.f5.params.toList = some [(.slice (.int .u8), false)] := by kernel_rfl
theorem rdOf : ∀ t ∈ Try.f5.params.toList, rdOk Try.prog 12 t = true ∧ Try.prog.readableRec t = true ∧ t < Try.prog.types.size := by
  have h : (Try.f5.params.toList.all fun t => rdOk Try.prog 12 t && Try.prog.readableRec t && decide (t < Try.prog.types.size)) = true := by kernel_rfl
  intro t ht
  have := List.all_eq_true.1 h t ht
  simpa [and_assoc] using this

theorem law (x : (Ty.pair (.slice (.int .u8)) .unit : Ty).den) (hw : wfD _ x) (hb : bulkD _ x ≤ 1048576) : ∃ N y, pcall Try.prog (runK Try.prog cfg N) 5 (argsPV [(.slice (.int .u8), false)] x) = some y ∧ (retPV Try.prog 5 y 0 .empty).1 = .c (.bool true) := by
  obtain ⟨x0, u⟩ := x
  exact law_end (h := law1_Base64RoundTrip_t) (row3 x0 u hw hb) (by kernel_rfl)

set_option maxRecDepth 100000 in
theorem lifted (os : Os) (started : os.Started) (H : Type) (enc : TypeId × Value → H) (F : Stop.Interp) :
    ReturnsInHanded {} Try.checked os 5 .any ((Rows.OpenSpec.upto Rows.base64RoundTripSpec).pre6 enc Try.prog Try.f5 Rows.base64RoundTripUptoRow.domain false) (((Rows.OpenSpec.upto Rows.base64RoundTripSpec).at F).post enc Try.prog Try.f5 false true false false) := by
  refine returnsInHanded_of_cond (C := Try.checked) (s := Rows.OpenSpec.upto Rows.base64RoundTripSpec) (k := Rows.uptoSmall) rfl own started (by kernel_rfl) Try.func5
    (OpenSpec.witness (enc := enc) (C := Try.checked) (s := Rows.OpenSpec.upto Rows.base64RoundTripSpec) (k := Rows.uptoSmall) rfl false ⟨#[], #[.slice none 0 0], []⟩ 8 (by kernel_rfl) (by kernel_rfl) (by kernel_rfl)
      (x := ([.nil], [], [])) (by kernel_rfl) rfl (by kernel_rfl)) ?_
  intro W base args ds gs before hval hW _ hk _
  exact law_contract (B := 1048576) rfl ok laid (tb := 4) (by kernel_rfl) (by kernel_rfl) rfl tysOf rdOf (fun ds hd => by
    match ds, hd with
    | [d0], _ => rfl) law args ds gs before hval hW (of_decide_eq_true hk)

theorem proved : Rows.Base64RoundTripUptoSaid :=
  OpenClaim.holds_of_cond 5 Try.f5 rfl rfl rfl rfl rfl rfl rfl ⟨rfl, rfl, rfl, rfl, rfl⟩ rfl rfl rfl rfl rfl (by kernel_rfl) Try.func5 (by kernel_rfl)
    (of_decide_eq_true (by kernel_rfl)) (by unfold Func.isWrapper; first | (rw [if_pos (by decide +kernel)]; kernel_rfl) | (rw [if_neg (by decide +kernel)]; exact ⟨rfl, rfl⟩))
    (fun os started H enc _ F => lifted os started H enc F)

end Go.Proofs.Ythnfcjbglfkhlaa.base64RoundTrip
