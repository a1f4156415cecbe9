/- FoldRoundTrip, in the second form: the law answers true whatever the input, where the arguments hold together at most 1048576 values and letters. -/
import Derived.Test.YthhllkiefncbnaaDoorCards
import Derived.Test.YthhllkiefncbnaaDoorTie
import Derived.Test.YthhllkiefncbnaaDoorRw
import Derived.Test.YthhllkiefncbnaaDoorSimGl
import Derived.Test.YthhllkiefncbnaaDoorSh
import Derived.Test.YthhllkiefncbnaaDoorShj
import Derived.Test.YthhllkiefncbnaaDoorFolQ
import Derived.Lay
import Derived.Deep.DeepHandedRow
import Derived.SevenTiedAt
namespace Go.Proofs.YthhllkiefncbnaaDoor.foldRoundTrip
open Go.ChangeShapes Go.WideShapes Go.ChangeAt Go.RowKit Go.Proofs.YthhllkiefncbnaaDoorSim
set_option linter.unusedVariables false
set_option linter.unusedSimpArgs false

theorem own : ownKnob Tryd.prog.godebug = none := by kernel_rfl
theorem laidOut : laidOutB Tryd.prog = true := by kernel_rfl
theorem ok : ProgOk Tryd.prog := progOk (by kernel_rfl) (by kernel_rfl) (by kernel_rfl) (shOk_join rfl (by kernel_rfl) Tryd.strings_Join_none Tryd.strings_Join)
theorem tysOf : resTys Tryd.prog Tryd.f4.params.toList = some [(.str, false), (.str, false)] := by kernel_rfl
theorem rdOf : ∀ t ∈ Tryd.f4.params.toList, rdOk Tryd.prog 12 t = true ∧ Tryd.prog.readableRec t = true ∧ t < Tryd.prog.types.size := by
  have h : (Tryd.f4.params.toList.all fun t => rdOk Tryd.prog 12 t && Tryd.prog.readableRec t && decide (t < Tryd.prog.types.size)) = true := by kernel_rfl
  intro t ht
  have := List.all_eq_true.1 h t ht
  simpa [and_assoc] using this

theorem law (x : (Ty.pair (.str) (.pair (.str) .unit) : Ty).den) (hw : wfD _ x) (hb : bulkD _ x ≤ 1048576) : ∃ N y, pcall Tryd.prog (runK Tryd.prog cfg N) 4 (argsPV [(.str, false), (.str, false)] x) = some y ∧ (retPV Tryd.prog 4 y 0 .empty).1 = .c (.bool true) := by
  obtain ⟨x0, x1, u⟩ := x
  exact law_end (h := law1_FoldRoundTrip_t) (row2 x0 x1 u hw hb) (by kernel_rfl)

theorem met (os : Os) : laidMet Tryd.prog Rows.foldRoundTripUptoRow.laid (((World.laidAll Tryd.prog os Rows.foldRoundTripUptoRow.laid)).forCall (fun _ _ => 0) ⟨#[], #[.string ⟨#[]⟩, .string ⟨#[]⟩], []⟩).memory :=
  laidMet_laidAll _ (by kernel_rfl) (by kernel_rfl)
theorem reads (os : Os) {H : Type} (enc : TypeId × Value → H) : ∃ places, DataW.whole enc Tryd.prog (((World.laidAll Tryd.prog os Rows.foldRoundTripUptoRow.laid)).forCall (fun _ _ => 0) ⟨#[], #[.string ⟨#[]⟩, .string ⟨#[]⟩], []⟩).memory Tryd.f4.params.toList Rows.foldRoundTripSpec.vars false (#[.string ⟨#[]⟩, .string ⟨#[]⟩] : Array Value).toList 8 = some ([.lit (.string []), .lit (.string [])], [], places) :=
  ⟨[], by kernel_rfl⟩

set_option maxRecDepth 100000 in
theorem lifted (os : Os) (started : os.Started) (H : Type) (enc : TypeId × Value → H) (F : Stop.Interp) :
    ReturnsInHanded {} Tryd.checked os 4 .any ((Rows.OpenSpec.upto Rows.foldRoundTripSpec).preRow enc Tryd.prog Tryd.f4 Rows.foldRoundTripUptoRow.domain false Rows.foldRoundTripUptoRow.laid) (((Rows.OpenSpec.upto Rows.foldRoundTripSpec).at F).post enc Tryd.prog Tryd.f4 false true false false) := by
  obtain ⟨places, hx⟩ := reads os enc
  refine returnsInHanded_of_row (C := Tryd.checked) (s := Rows.OpenSpec.upto Rows.foldRoundTripSpec) own started (by kernel_rfl) Tryd.func4
    (witness_row_at (enc := enc) (C := Tryd.checked) false (World.laidAll Tryd.prog os Rows.foldRoundTripUptoRow.laid) #[.string ⟨#[]⟩, .string ⟨#[]⟩] (World.laidAll_os _ _ _) (by kernel_rfl) (by kernel_rfl) (by kernel_rfl)
      (OpenSpec.preRow_of_cond 8 hx (by kernel_rfl) (fun k hk => by cases hk; kernel_rfl) (by kernel_rfl) (met os))) ?_
  intro W base args ds gs before hval hW _ hk _ hL _ _
  exact law_contract (B := 1048576) (glob_of_laid (by kernel_rfl) (by kernel_rfl) hL) rfl ok laidOut (tb := 4) (by kernel_rfl) (by kernel_rfl) rfl tysOf rdOf (fun ds hd => by
    match ds, hd with
    | [d0, d1], _ => rfl) law args ds gs before hval hW (of_decide_eq_true (hk _ rfl))

theorem saidUpto : Rows.FoldRoundTripUptoSaid :=
  OpenClaim.holds_of_cond 4 Tryd.f4 rfl rfl rfl rfl rfl rfl rfl ⟨rfl, rfl, rfl, rfl, rfl⟩ rfl rfl rfl rfl rfl (by kernel_rfl) Tryd.func4 (by kernel_rfl)
    (of_decide_eq_true (by kernel_rfl)) (by unfold Func.isWrapper; first | (rw [if_pos (by decide +kernel)]; kernel_rfl) | (rw [if_neg (by decide +kernel)]; exact ⟨rfl, rfl⟩))
    (fun os started H enc _ F => by rw [OpenClaim.pre_eq_preRow]; exact lifted os started H enc F)

theorem plain (f : FuncId) (fn : Func) (hf : Tryd.pinned.checked.prog.funcNamed "posthouse/posthouselaw1.FoldRoundTrip" = some f) (hfn : Tryd.pinned.checked.prog.funcs[f]? = some fn) :
    false = Tryd.pinned.checked.prog.looks [] ∧ ∀ (j : Nat) t, fn.params[j]? = some t → Tryd.pinned.checked.prog.wantsStandIn t = false := by
  obtain rfl : f = 4 := Option.some.inj ((show Tryd.prog.funcNamed "posthouse/posthouselaw1.FoldRoundTrip" = some 4 by kernel_rfl).symm.trans hf) |>.symm
  obtain rfl : fn = Tryd.f4 := (Option.some.inj (Tryd.func4.symm.trans hfn)).symm
  refine ⟨by kernel_rfl, fun j t ht => ?_⟩
  have hall : (Tryd.f4.params.toList.all fun u => !Tryd.prog.wantsStandIn u) = true := by kernel_rfl
  have hm : t ∈ Tryd.f4.params.toList := by simpa using Array.mem_of_getElem? ht
  exact (show Tryd.prog.wantsStandIn t = false by simpa using List.all_eq_true.1 hall t hm)

theorem proved : Rows.FoldRoundTripUptoCardSaid :=
  Claim7.holds_tied_plain_at .later [] _ _ _ _ saidUpto (fun _ h => by cases h) (by kernel_rfl) (fun _ h => by cases h) foldRoundTripUpto_row_tie rfl ⟨rfl, rfl⟩ (by kernel_rfl) rfl plain (by kernel_rfl)

end Go.Proofs.YthhllkiefncbnaaDoor.foldRoundTrip
