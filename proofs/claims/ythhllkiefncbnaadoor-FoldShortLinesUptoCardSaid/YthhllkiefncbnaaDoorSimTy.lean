/- Types and cells. -/
import GoSem.Step
namespace Go.Proofs.YthhllkiefncbnaaDoorSim
open Go
set_option linter.unusedVariables false

/-! ### Types that are told as lists and pairs -/
inductive Ty where
  | int (k : IntKind) | bool | str | unit
  | slice (t : Ty)
  | pair (a b : Ty)
  deriving DecidableEq

@[reducible] def Ty.den : Ty → Type
  | .int _ => Int
  | .bool => Bool
  | .str => List Int
  | .unit => Unit
  | .slice t => List t.den
  | .pair a b => a.den × b.den

def Ty.dflt : (t : Ty) → t.den
  | .int _ => (0 : Int)
  | .bool => false
  | .str => ([] : List Int)
  | .unit => ()
  | .slice _ => []
  | .pair a b => (a.dflt, b.dflt)

def Ty.size : Ty → Nat
  | .unit => 0
  | .pair a b => a.size + b.size
  | _ => 1

/-! ### Abstract values -/
inductive Tok where
  | ro
  | own (t : Nat)
  deriving DecidableEq

/-- What one cell holds. -/
inductive C where
  | int (k : IntKind) (n : Int)
  | bool (b : Bool)
  | str (l : List Int)
  | nilptr
  | ptr (o off : Nat)
  | eptr (o i sz : Nat)
  /-- a package-level variable's cell -/
  | gptr (n off : Nat)
  /-- place i of an array of n integers that lies in cells -/
  | aptr (o off n i : Nat) (k : IntKind)
  | nils
  | slice (t : Tok) (τ : Ty) (l : List τ.den)
  | mslice (o : Nat)
  /-- a slice that is appended to and stored into -/
  | vslice (o : Nat)
  /-- a part of an element -/
  | fptr (o i sz f : Nat)
  | func (f : Nat) (caps : List (Nat × Nat))
  | yield (o : Nat)
  | nilfunc
  | niliface

end Go.Proofs.YthhllkiefncbnaaDoorSim
