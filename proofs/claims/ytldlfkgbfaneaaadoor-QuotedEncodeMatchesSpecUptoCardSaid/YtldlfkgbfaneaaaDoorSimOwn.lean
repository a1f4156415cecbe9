/- What is known of this program: which functions hand back a slice of their own; what package-level variables hold. -/
import Derived.Test.YtldlfkgbfaneaaaDoorSimTy
namespace Go.Proofs.YtldlfkgbfaneaaaDoorSim
open Go
def ownList : List Nat := [
  1000000]
def ownRes (f : Nat) : Bool := ownList.contains f
def u8s (l : List Int) : List C := l.map fun n => .int .u8 n
def globTbl : List (Nat × List C) := []
end Go.Proofs.YtldlfkgbfaneaaaDoorSim
