/-
  No cell of these rows narrows 'for every input' (looked for: loops, veiled, ifaces, maps, wideKeys, modest, calm, conditions, laid).
  DERIVED. THE GIVEN ROWS OF THIS SEAT. 5 by the template 'for every input the law returns true; each argument reads behind the call as it read before'; 0 by the template 'total and deterministic' (their statements: YthnfcjbglfkhlaaTotals.lean).
  GIVEN WITH THE SEED: the statements are not yours to turn. If you find one false, say at which input.
  Laid BY PROGRAM, IN A SANDBOX (cutbox-rows.mjs): the forced cells as the released guide's own fill.sh prints them over the translation 22f5c4409293ba2e… (all of the seat's roots in one cut). By AI agents, Wed Nov 11 2026. No macro, syntax, notation, axiom, sorry.
-/
import Derived.Test.YthnfcjbglfkhlaaChecked
import GoSem.Claim
import GoSem.ClaimJoined
import GoSem.ClaimMapViews
import Derived.JoinedTies
import Derived.KernelRfl
namespace Go.Proofs.Ythnfcjbglfkhlaa
/- THE CELL 'sum', in the pinned program and in every row, IS THE sha256 OF THE DUMP (.gsa) THAT YthnfcjbglfkhlaaProg.lean LOADS. Nothing in Lean hashes anything: it is a label: what it is worth is what the hold of that sum in a sandbox is worth. -/
noncomputable def Try.pinned : Pinned := { name := "ythnfcjbglfkhlaa", sum := "22f5c4409293ba2e4b526728725af1b09b0d428f4b43e69015a5f1b91f54bfcc", checked := Try.checked }
namespace Rows
def none {H : Type} : Left H := { results := [], args := [] }

/-- 'posthouselaw1.Base64EncodeMatchesSpec': WHATEVER THE INPUT: true; the input reads as it did. -/
def base64EncodeMatchesSpecSpec : ChangeSpec := { name := "base64EncodeMatchesSpec", fn := fun _ => fun
  | [d] => { results := [.lit (.bool true)], args := [d] }
  | _ => none }
def base64EncodeMatchesSpecRow : OpenClaim := { program := "ythnfcjbglfkhlaa", sum := "22f5c4409293ba2e4b526728725af1b09b0d428f4b43e69015a5f1b91f54bfcc", func := "posthouse/posthouselaw1.Base64EncodeMatchesSpec", spec := "base64EncodeMatchesSpec", inPlace := ["internal/bytealg.IndexByte"], unfollowed := true, recurses := true, apart := false }
def Base64EncodeMatchesSpecSaid : Prop := base64EncodeMatchesSpecRow.holds Try.pinned (OpenSpec.ofChange base64EncodeMatchesSpecSpec)

/-- ITS FALSE NEIGHBOUR: 'it returns false'. Refute it at one input. -/
def base64EncodeMatchesSpecWrong : ChangeSpec := { name := "base64EncodeMatchesSpec", fn := fun _ => fun
  | [d] => { results := [.lit (.bool false)], args := [d] }
  | _ => none }
def Base64EncodeMatchesSpecWrongFalsely : Prop := base64EncodeMatchesSpecRow.holds Try.pinned (OpenSpec.ofChange base64EncodeMatchesSpecWrong)

/-- 'posthouselaw1.Base64LenientMatchesSpec': WHATEVER THE INPUT: true; the input reads as it did. -/
def base64LenientMatchesSpecSpec : ChangeSpec := { name := "base64LenientMatchesSpec", fn := fun _ => fun
  | [d] => { results := [.lit (.bool true)], args := [d] }
  | _ => none }
def base64LenientMatchesSpecRow : OpenClaim := { program := "ythnfcjbglfkhlaa", sum := "22f5c4409293ba2e4b526728725af1b09b0d428f4b43e69015a5f1b91f54bfcc", func := "posthouse/posthouselaw1.Base64LenientMatchesSpec", spec := "base64LenientMatchesSpec", inPlace := ["internal/bytealg.IndexByte"], unfollowed := true, recurses := true, apart := false }
def Base64LenientMatchesSpecSaid : Prop := base64LenientMatchesSpecRow.holds Try.pinned (OpenSpec.ofChange base64LenientMatchesSpecSpec)

/-- ITS FALSE NEIGHBOUR: 'it returns false'. Refute it at one input. -/
def base64LenientMatchesSpecWrong : ChangeSpec := { name := "base64LenientMatchesSpec", fn := fun _ => fun
  | [d] => { results := [.lit (.bool false)], args := [d] }
  | _ => none }
def Base64LenientMatchesSpecWrongFalsely : Prop := base64LenientMatchesSpecRow.holds Try.pinned (OpenSpec.ofChange base64LenientMatchesSpecWrong)

/-- 'posthouselaw1.Base64RoundTrip': WHATEVER THE INPUT: true; the input reads as it did. -/
def base64RoundTripSpec : ChangeSpec := { name := "base64RoundTrip", fn := fun _ => fun
  | [d] => { results := [.lit (.bool true)], args := [d] }
  | _ => none }
def base64RoundTripRow : OpenClaim := { program := "ythnfcjbglfkhlaa", sum := "22f5c4409293ba2e4b526728725af1b09b0d428f4b43e69015a5f1b91f54bfcc", func := "posthouse/posthouselaw1.Base64RoundTrip", spec := "base64RoundTrip", inPlace := ["internal/bytealg.IndexByte"], unfollowed := true, recurses := true, apart := false }
def Base64RoundTripSaid : Prop := base64RoundTripRow.holds Try.pinned (OpenSpec.ofChange base64RoundTripSpec)

/-- ITS FALSE NEIGHBOUR: 'it returns false'. Refute it at one input. -/
def base64RoundTripWrong : ChangeSpec := { name := "base64RoundTrip", fn := fun _ => fun
  | [d] => { results := [.lit (.bool false)], args := [d] }
  | _ => none }
def Base64RoundTripWrongFalsely : Prop := base64RoundTripRow.holds Try.pinned (OpenSpec.ofChange base64RoundTripWrong)

/-- 'posthouselaw1.Base64Unique': WHATEVER THE INPUT: true; the input reads as it did. -/
def base64UniqueSpec : ChangeSpec := { name := "base64Unique", fn := fun _ => fun
  | [d] => { results := [.lit (.bool true)], args := [d] }
  | _ => none }
def base64UniqueRow : OpenClaim := { program := "ythnfcjbglfkhlaa", sum := "22f5c4409293ba2e4b526728725af1b09b0d428f4b43e69015a5f1b91f54bfcc", func := "posthouse/posthouselaw1.Base64Unique", spec := "base64Unique", inPlace := ["internal/bytealg.IndexByte"], unfollowed := true, recurses := true, apart := false }
def Base64UniqueSaid : Prop := base64UniqueRow.holds Try.pinned (OpenSpec.ofChange base64UniqueSpec)

/-- ITS FALSE NEIGHBOUR: 'it returns false'. Refute it at one input. -/
def base64UniqueWrong : ChangeSpec := { name := "base64Unique", fn := fun _ => fun
  | [d] => { results := [.lit (.bool false)], args := [d] }
  | _ => none }
def Base64UniqueWrongFalsely : Prop := base64UniqueRow.holds Try.pinned (OpenSpec.ofChange base64UniqueWrong)

/-- 'posthouselaw1.Base64IgnoresLines': WHATEVER THE INPUT: true; the input reads as it did. -/
def base64IgnoresLinesSpec : ChangeSpec := { name := "base64IgnoresLines", fn := fun _ => fun
  | [d1, d2] => { results := [.lit (.bool true)], args := [d1, d2] }
  | _ => none }
def base64IgnoresLinesRow : OpenClaim := { program := "ythnfcjbglfkhlaa", sum := "22f5c4409293ba2e4b526728725af1b09b0d428f4b43e69015a5f1b91f54bfcc", func := "posthouse/posthouselaw1.Base64IgnoresLines", spec := "base64IgnoresLines", inPlace := ["internal/bytealg.IndexByte"], unfollowed := true, recurses := true, apart := false }
def Base64IgnoresLinesSaid : Prop := base64IgnoresLinesRow.holds Try.pinned (OpenSpec.ofChange base64IgnoresLinesSpec)

/-- ITS FALSE NEIGHBOUR: 'it returns false'. Refute it at one input. -/
def base64IgnoresLinesWrong : ChangeSpec := { name := "base64IgnoresLines", fn := fun _ => fun
  | [d1, d2] => { results := [.lit (.bool false)], args := [d1, d2] }
  | _ => none }
def Base64IgnoresLinesWrongFalsely : Prop := base64IgnoresLinesRow.holds Try.pinned (OpenSpec.ofChange base64IgnoresLinesWrong)

/- THE SECOND FORM. 'bulk': how many values and letters a reading holds, each counted each time it is reached (what is shared counts as often as it is met; a slice's spare places count too). A statement '..UptoSaid' is the law's where the arguments, and the package variables that the reading takes, are together of bulk at most 1048576: NARROWER than '..Said'. Prove '..Said' where nothing that the law and all that it calls make is longer than what came in: it says more and counts as full. Else prove '..UptoSaid'. A law counts once. -/
mutual
def uptoBulk {H : Type} : DataW H → Nat
  | .lit (.string bytes) => bytes.length + 1
  | .lit _ => 1
  | .nil => 1
  | .ptr d => uptoBulk d + 1
  | .slice elems spare => uptoBulkAll elems + uptoBulkAll spare + 1
  | .agg parts => uptoBulkAll parts + 1
  | .iface _ d => uptoBulk d + 1
  | .map entries => uptoBulkEntries entries + 1
  | .held _ => 1
def uptoBulkAll {H : Type} : List (DataW H) → Nat
  | [] => 0
  | d :: r => uptoBulk d + uptoBulkAll r
def uptoBulkEntries {H : Type} : List (Lit × DataW H) → Nat
  | [] => 0
  | x :: r => uptoBulkEntry x + uptoBulkEntries r
def uptoBulkEntry {H : Type} : Lit × DataW H → Nat
  | (.string bytes, d) => bytes.length + uptoBulk d + 1
  | (_, d) => uptoBulk d + 1
 end
def uptoSmall : (H : Type) → List (DataW H) → Bool := fun _ ds => decide (uptoBulkAll ds ≤ 1048576)
def OpenSpec.upto (s : _root_.Go.ChangeSpec) : _root_.Go.OpenSpec := { _root_.Go.OpenSpec.ofChange s with cond := some uptoSmall }

/-- 'posthouselaw1.Base64EncodeMatchesSpec', WHERE WHAT IT READS IS OF BULK AT MOST 1048576: true; the input reads as it did. -/
def base64EncodeMatchesSpecUptoRow : OpenClaim := { program := "ythnfcjbglfkhlaa", sum := "22f5c4409293ba2e4b526728725af1b09b0d428f4b43e69015a5f1b91f54bfcc", func := "posthouse/posthouselaw1.Base64EncodeMatchesSpec", spec := "base64EncodeMatchesSpec", inPlace := ["internal/bytealg.IndexByte"], unfollowed := true, recurses := true, apart := false, narrowed := true }
def Base64EncodeMatchesSpecUptoSaid : Prop := base64EncodeMatchesSpecUptoRow.holds Try.pinned (OpenSpec.upto base64EncodeMatchesSpecSpec)

/-- 'posthouselaw1.Base64LenientMatchesSpec', WHERE WHAT IT READS IS OF BULK AT MOST 1048576: true; the input reads as it did. -/
def base64LenientMatchesSpecUptoRow : OpenClaim := { program := "ythnfcjbglfkhlaa", sum := "22f5c4409293ba2e4b526728725af1b09b0d428f4b43e69015a5f1b91f54bfcc", func := "posthouse/posthouselaw1.Base64LenientMatchesSpec", spec := "base64LenientMatchesSpec", inPlace := ["internal/bytealg.IndexByte"], unfollowed := true, recurses := true, apart := false, narrowed := true }
def Base64LenientMatchesSpecUptoSaid : Prop := base64LenientMatchesSpecUptoRow.holds Try.pinned (OpenSpec.upto base64LenientMatchesSpecSpec)

/-- 'posthouselaw1.Base64RoundTrip', WHERE WHAT IT READS IS OF BULK AT MOST 1048576: true; the input reads as it did. -/
def base64RoundTripUptoRow : OpenClaim := { program := "ythnfcjbglfkhlaa", sum := "22f5c4409293ba2e4b526728725af1b09b0d428f4b43e69015a5f1b91f54bfcc", func := "posthouse/posthouselaw1.Base64RoundTrip", spec := "base64RoundTrip", inPlace := ["internal/bytealg.IndexByte"], unfollowed := true, recurses := true, apart := false, narrowed := true }
def Base64RoundTripUptoSaid : Prop := base64RoundTripUptoRow.holds Try.pinned (OpenSpec.upto base64RoundTripSpec)

/-- 'posthouselaw1.Base64Unique', WHERE WHAT IT READS IS OF BULK AT MOST 1048576: true; the input reads as it did. -/
def base64UniqueUptoRow : OpenClaim := { program := "ythnfcjbglfkhlaa", sum := "22f5c4409293ba2e4b526728725af1b09b0d428f4b43e69015a5f1b91f54bfcc", func := "posthouse/posthouselaw1.Base64Unique", spec := "base64Unique", inPlace := ["internal/bytealg.IndexByte"], unfollowed := true, recurses := true, apart := false, narrowed := true }
def Base64UniqueUptoSaid : Prop := base64UniqueUptoRow.holds Try.pinned (OpenSpec.upto base64UniqueSpec)

/-- 'posthouselaw1.Base64IgnoresLines', WHERE WHAT IT READS IS OF BULK AT MOST 1048576: true; the input reads as it did. -/
def base64IgnoresLinesUptoRow : OpenClaim := { program := "ythnfcjbglfkhlaa", sum := "22f5c4409293ba2e4b526728725af1b09b0d428f4b43e69015a5f1b91f54bfcc", func := "posthouse/posthouselaw1.Base64IgnoresLines", spec := "base64IgnoresLines", inPlace := ["internal/bytealg.IndexByte"], unfollowed := true, recurses := true, apart := false, narrowed := true }
def Base64IgnoresLinesUptoSaid : Prop := base64IgnoresLinesUptoRow.holds Try.pinned (OpenSpec.upto base64IgnoresLinesSpec)

end Rows
end Go.Proofs.Ythnfcjbglfkhlaa
