/- Which functions hand back a slice of their own. -/
import GoSem.Step
namespace Go.Proofs.YthnfcjbglfkhlaaSim
def ownList : List Nat := [26]
def ownRes (f : Nat) : Bool := ownList.contains f
end Go.Proofs.YthnfcjbglfkhlaaSim
