/- A symbolic interpreter over the model's Code: slices and strings are lists, variables in memory are boxes of an abstract heap. Definitions alone. -/
import Derived.Test.YthhllkiefncbnaaDoorSimOwn
namespace Go.Proofs.YthhllkiefncbnaaDoorSim
open Go
set_option linter.unusedVariables false

inductive PV where
  | any
  | c (x : C)
  | agg (cs : List C)
  | tup (vs : List (C ⊕ List C))
  | rptr (cs : List C)


def PV.cells : PV → Option (List C)
  | .c x => some [x]
  | .agg cs => some cs
  | _ => none

def PV.ofPart : C ⊕ List C → PV
  | .inl x => .c x
  | .inr cs => .agg cs

/-- The bytes of a string, as numbers. -/
def bl (s : ByteArray) : List Int := s.data.toList.map fun b => (b.toNat : Int)

def toCells : (τ : Ty) → τ.den → List C
  | .int k, n => [.int k n]
  | .bool, b => [.bool b]
  | .str, l => [.str l]
  | .unit, _ => []
  | .slice τ, l => [.slice .ro τ l]
  | .pair a b, x => toCells a x.1 ++ toCells b x.2

def castL (τ τ' : Ty) (l : List τ'.den) : Option (List τ.den) :=
  if h : τ' = τ then some (h ▸ l) else none

def ofCells : (τ : Ty) → List C → Option (τ.den × List C)
  | .int k, .int k' n :: r => if k' = k then some (n, r) else none
  | .bool, .bool b :: r => some (b, r)
  | .str, .str l :: r => some (l, r)
  | .unit, r => some ((), r)
  | .slice _, .nils :: r => some ([], r)
  | .slice τ, .slice _ τ' l :: r => match castL τ τ' l with
    | some l' => some (l', r)
    | none => none
  | .pair a b, cs => match ofCells a cs with
    | some (x, r) => match ofCells b r with
      | some (y, r') => some ((x, y), r')
      | none => none
    | none => none
  | _, _ => none

/-! ### The abstract state -/
structure ALoop where
  state : LoopState
  pending : Option Code
  fid : Nat
  tmps : List PV
  params : List Nat
  assign : Code
  body : Code
  path : Nat

inductive AObj where
  | cells (cs : List C)
  | row (τ : Ty) (l : List τ.den) (frozen : Bool)
  | vec (τ : Ty) (l : List τ.den) (frozen : Bool)
  | dead
  | loop (r : ALoop)
  | siter (l : List Int) (pos : Nat)

structure St where
  objs : List AObj
  live : List Nat
  next : Nat

def St.empty : St := { objs := [], live := [], next := 0 }

structure Fr where
  tmps : List PV
  fid : Nat
  base : Nat
  obase : Nat
  /-- the abstract loop whose round this frame is -/
  round : Option Nat

def Fr.put (fr : Fr) (dst : Option Nat) (v : PV) : Fr :=
  match dst with
  | some d => { fr with tmps := fr.tmps.set d v }
  | none => fr

inductive Mode where
  | keep
  | own (τ : Ty)
  | ro (τ : Ty)

structure Hint where
  slots : List (Nat × Mode)
  cells : List (Nat × Nat × Mode)
  objs : Nat
  obase : Nat
  /-- 0: at the loop's head; 1: where it is left by a return; i + 2: by 'exit i' -/
  tag : Nat
  /-- slots that hold slices that are appended to and stored into -/
  vecs : List (Nat × Ty) := []

inductive Ex where
  | normal
  | exit (id : Nat)
  | ret

structure Cfg where
  hints : List ((Nat × Nat) × Hint)
  muts : List (Nat × Nat)
  /-- which slices' literals are never appended to -/
  ros : List (Nat × Nat)
  /-- which slots a loop over an iterator takes along -/
  keeps : List ((Nat × Nat) × List Nat)
  /-- which first parts of code are taken by themselves -/
  cuts : List (Nat × Nat) := []
  /-- which slices are appended to and stored into -/
  vecs : List (Nat × Nat) := []
  /-- what is known of loops; none: they are run -/
  lp : Option ((R : Type) → Code → Nat → Nat → Fr → St → (Ex → Fr → St → Option R) → Option R)

/-! ### Types of the program -/
def aggT (P : Program) (t : TypeId) : Option Bool :=
  match P.underlying t with
  | some (.struct _) | some (.array _ _) => some true
  | some _ => some false
  | none => none

def sizeT (P : Program) (t : TypeId) : Option Nat := (P.info? t).map (·.size)
def bytesT (P : Program) (t : TypeId) : Option Nat := (P.info? t).map (·.bytes)

def tyOf (P : Program) : Nat → TypeId → Option Ty
  | 0, _ => none
  | d + 1, t => match P.underlying t with
    | some (.int k) => some (.int k)
    | some .bool => some .bool
    | some .string => some .str
    | some (.slice e) => (tyOf P d e).map .slice
    | some (.struct fs) => fs.toList.foldr (fun f acc => match tyOf P d f.type, acc with
      | some a, some b => some (.pair a b)
      | _, _ => none) (some .unit)
    | _ => none

/-- The type of a slice's elements, told only if its cells are as many as the program says. -/
def elemTy (P : Program) (e : TypeId) : Option Ty :=
  match tyOf P 12 e with
  | some τ => if sizeT P e = some τ.size then some τ else none
  | none => none

def wfb (k : IntKind) (n : Int) : Bool := decide (k.min ≤ n ∧ n ≤ k.max)

def ofVal : Value → Option C
  | .int k n => if wfb k n then some (.int k n) else none
  | .bool b => some (.bool b)
  | .string s => if s.size ≤ 9223372036854775807 then some (.str (bl s)) else none
  | .pointer none => some .nilptr
  | .slice none 0 0 => some .nils
  | .nilFunc => some .nilfunc
  | .nilIface => some .niliface
  | _ => none

def ofVals : List Value → Option (List C)
  | [] => some []
  | v :: r => match ofVal v, ofVals r with
    | some c, some cs => some (c :: cs)
    | _, _ => none

def ofValPV : Value → Option PV
  | .agg cs => match ofVals cs.toList with
    | some l => some (.agg l)
    | none => none
  | v => match ofVal v with
    | some c => some (.c c)
    | none => none

def zeroCells (P : Program) (t : TypeId) : Option (List C) :=
  match P.info? t with
  | some i => match i.zero with
    | some z => ofVals z.cells.toList
    | none => none
  | none => none

/-- What the listed package-level variables hold. -/
def globC (n : Nat) : Option (List C) := globTbl.lookup n

def evalO (tmps : List PV) : Operand → PV
  | .tmp t => tmps.getD t .any
  | .const v => (ofValPV v).getD .any
  | .global n => .c (.gptr n 0)
  | .func f => .c (.func f [])

/-! ### Numbers and strings -/
def ibits (op : BinOp) (k : IntKind) (x y : Int) : Int :=
  let a := BitVec.ofInt k.bits x
  let b := BitVec.ofInt k.bits y
  match op with
  | .and => k.wrap (a &&& b).toNat
  | .or => k.wrap (a ||| b).toNat
  | .xor => k.wrap (a ^^^ b).toNat
  | _ => k.wrap (a &&& ~~~b).toNat

/-- An operation on two integers: a guard (else it panics), the value. -/
def intOp (op : BinOp) (k : IntKind) (x y : Int) : Option (Bool × C) :=
  match op with
  | .add => some (true, .int k (k.wrap (x + y)))
  | .sub => some (true, .int k (k.wrap (x - y)))
  | .mul => some (true, .int k (k.wrap (x * y)))
  | .quo => some (decide (y ≠ 0), .int k (k.wrap (x.tdiv y)))
  | .rem => some (decide (y ≠ 0), .int k (x.tmod y))
  | .and | .or | .xor | .andNot => some (true, .int k (ibits op k x y))
  | .eql => some (true, .bool (x == y))
  | .neq => some (true, .bool (x != y))
  | .lss => some (true, .bool (decide (x < y)))
  | .leq => some (true, .bool (decide (x ≤ y)))
  | .gtr => some (true, .bool (decide (x > y)))
  | .geq => some (true, .bool (decide (x ≥ y)))
  | _ => none

def shiftOp (op : BinOp) (k : IntKind) (x y : Int) : Option (Bool × C) :=
  match op with
  | .shl => some (decide (0 ≤ y), .int k (k.wrap (x * 2 ^ (min y.toNat k.bits))))
  | .shr => some (decide (0 ≤ y), .int k (x.fdiv (2 ^ (min y.toNat k.bits))))
  | _ => none

def bytesLess : List Int → List Int → Bool
  | _, [] => false
  | [], _ :: _ => true
  | a :: x, b :: y => decide (a < b) || (a == b && bytesLess x y)

def strOp (op : BinOp) (x y : List Int) : Option (Bool × C) :=
  match op with
  | .add => some (decide (x.length + y.length ≤ 9223372036854775807), .str (x ++ y))
  | .eql => some (true, .bool (x == y))
  | .neq => some (true, .bool (!(x == y)))
  | .lss => some (true, .bool (bytesLess x y))
  | .leq => some (true, .bool (bytesLess x y || x == y))
  | .gtr => some (true, .bool (!(bytesLess x y || x == y)))
  | .geq => some (true, .bool (!bytesLess x y))
  | _ => none

/-- Two cells of a type without depth: are they equal? -/
def eqCell (d : Option TypeDesc) : C → C → Option Bool
  | .int k x, .int k' y => match d with
    | some (.int _) => if k = k' then some (x == y) else none
    | _ => none
  | .bool x, .bool y => match d with
    | some .bool => some (x == y)
    | _ => none
  | .str x, .str y => match d with
    | some .string => some (x == y)
    | _ => none
  | _, _ => none

/-- The cells of a struct whose fields are single cells without depth, one behind the other. -/
def eqCells (P : Program) : Nat → List Field → List C → List C → Option Bool
  | _, [], [], [] => some true
  | i, f :: fs, a :: x, b :: y =>
    if f.offset = i ∧ f.name ≠ "_" then match eqCell (P.underlying f.type) a b, eqCells P (i + 1) fs x y with
      | some e, some r => some (e && r)
      | _, _ => none
    else none
  | _, _, _, _ => none

def eqAgg (P : Program) (t : TypeId) (xs ys : List C) : Option Bool :=
  match P.underlying t with
  | some (.struct fs) => if P.stoodInHeld t then none else eqCells P 0 fs.toList xs ys
  | _ => none

def binOpC (P : Program) (op : BinOp) (t : TypeId) (x y : PV) : Option (Bool × PV) :=
  match x, y with
  | .c (.int k a), .c (.int k' b) =>
    match op with
    | .shl | .shr => (shiftOp op k a b).map fun (g, c) => (g, .c c)
    | _ => if k = k' then (intOp op k a b).map fun (g, c) => (g, .c c) else none
  | .c (.str a), .c (.str b) => (strOp op a b).map fun (g, c) => (g, .c c)
  | .c (.bool a), .c (.bool b) =>
    match P.underlying t, op with
    | some .bool, .eql => some (true, .c (.bool (a == b)))
    | some .bool, .neq => some (true, .c (.bool (!(a == b))))
    | _, _ => none
  | .agg xs, .agg ys =>
    match op, eqAgg P t xs ys with
    | .eql, some r => some (true, .c (.bool r))
    | .neq, some r => some (true, .c (.bool (!r)))
    | _, _ => none
  | _, _ => none

def unOpC (op : UnOp) (x : PV) : Option (Bool × PV) :=
  match op, x with
  | .neg, .c (.int k n) => some (true, .c (.int k (k.wrap (0 - n))))
  | .xor, .c (.int k n) => some (true, .c (.int k (ibits .xor k (if k.signed then -1 else k.max) n)))
  | .not, .c (.bool b) => some (true, .c (.bool (!b)))
  | _, _ => none

def encRune (n : Int) : List Int := bl (Utf8.encode n)

/-- A text's characters: what the model's decoding says, on the list of bytes. -/
def toBA (l : List Int) : ByteArray := ⟨(l.map fun n => UInt8.ofNat n.toNat).toArray⟩
def decRune (l : List Int) (i : Nat) : Nat × Nat := Utf8.decode (toBA l) i
def runesFrom (l : List Int) : Nat → Nat → List Int
  | 0, _ => []
  | b + 1, i => if i < l.length then (decRune l i).1 :: runesFrom l b (i + (decRune l i).2) else []
def runes (l : List Int) : List Int := runesFrom l l.length 0
def encRunes : List Int → List Int
  | [] => []
  | n :: r => encRune n ++ encRunes r

/-! ### Places in a list of cells -/
def placeAt {α : Type} (cs : List α) (off : Nat) : List α → List α
  | [] => cs
  | x :: r => placeAt (cs.set off x) (off + 1) r

def getPart (P : Program) (t : TypeId) (cs : List C) (off : Nat) : Option PV :=
  match sizeT P t, aggT P t with
  | some n, some true => if off + n ≤ cs.length then some (.agg ((cs.drop off).take n)) else none
  | some _, some false => match cs[off]? with
      | some c => some (.c c)
      | none => none
  | _, _ => none

def fieldsOf (P : Program) (t : TypeId) : Option (List Field) :=
  match P.underlying t with
  | some (.struct fs) => some fs.toList
  | _ => none

/-- The parts of a struct's or an array's literal. -/
def fillParts (place : Nat → Option (Nat × Nat)) (cs : List C) : List (Nat × PV) → Option (List C)
  | [] => some cs
  | (i, v) :: r => match place i, v.cells with
    | some (off, n), some xs => if xs.length = n ∧ off + n ≤ cs.length then fillParts place (placeAt cs off xs) r else none
    | _, _ => none

def structPlaces (P : Program) (fs : List Field) (i : Nat) : Option (Nat × Nat) :=
  match fs[i]? with
  | some f => (sizeT P f.type).map fun n => (f.offset, n)
  | none => none

/-- The elements of a slice's literal, all of them, in order. -/
def litElems (τ : Ty) : Nat → List (Nat × PV) → Option (List τ.den)
  | _, [] => some []
  | i, (i', v) :: r => if i' = i then match v.cells with
      | some cs => match ofCells τ cs, litElems τ (i + 1) r with
        | some (x, []), some l => some (x :: l)
        | _, _ => none
      | none => none
    else none

/-- The elements of an array that lies in cells. -/
def arrElems (τ : Ty) : Nat → List C → Option (List τ.den)
  | 0, [] => some []
  | 0, _ :: _ => none
  | n + 1, cs => match ofCells τ cs with
    | some (x, r) => match arrElems τ n r with
      | some l => some (x :: l)
      | none => none
    | none => none

/-- A great array in memory is told as a row. -/
def rowOf (P : Program) (t : TypeId) (cs : List C) : Option AObj :=
  match P.underlying t with
  | some (.array n e) => if 8 < n ∧ n ≤ 65536 then match elemTy P e with
      | some τ => if τ.size ≠ 0 then (arrElems τ n cs).map fun l => .row τ l false else none
      | none => none
    else none
  | _ => none

def objOf (P : Program) (t : TypeId) (cs : List C) : AObj := (rowOf P t cs).getD (.cells cs)

/-- The cells of the first n elements of a row. -/
def flatN (τ : Ty) (l : List τ.den) : Nat → List C
  | 0 => []
  | n + 1 => flatN τ l n ++ toCells τ (l.getD n τ.dflt)

/-- The whole of a row that is an array: how many elements it must have; what is read. -/
def wholeRow (P : Program) (t : TypeId) (τ : Ty) (l : List τ.den) : Option (Nat × PV) :=
  match P.underlying t with
  | some (.array n _) => (getPart P t (flatN τ l n) 0).map fun v => (n, v)
  | _ => none

/-- The integers of a row of cells. -/
def arrInts (k : IntKind) : List C → Option (List Int)
  | [] => some []
  | .int k' n :: r => if k' = k then (arrInts k r).map (n :: ·) else none
  | _ :: _ => none

/-- One integer in a row of cells is turned: told cell by cell. -/
def setInts (k : IntKind) (l : List Int) (i : Nat) (v : Int) : Nat → Nat → List C
  | _, 0 => []
  | j, n + 1 => .int k ((l.set i v).getD j 0) :: setInts k l i v (j + 1) n

def cellsPV (agg : Option Bool) (cs : List C) : Option PV :=
  match agg, cs with
  | some true, cs => some (.agg cs)
  | some false, [c] => some (.c c)
  | _, _ => none

/-! ### The operations that make a value and touch no state -/
def undInt (P : Program) (e : TypeId) : Option IntKind :=
  match P.underlying e with
  | some (.int k) => some k
  | _ => none

def convC (P : Program) (src dst : TypeId) (x : PV) : Option (Bool × PV) :=
  match P.underlying src, P.underlying dst, x with
  | some _, some (.int k), .c (.int _ n) => some (true, .c (.int k (k.wrap n)))
  | some _, some .string, .c (.int _ n) => some (true, .c (.str (encRune n)))
  | some _, some .string, .c (.str l) => some (true, .c (.str l))
  | some (.slice e), some .string, .c (.slice _ (.int .u8) l) =>
    if undInt P e = some .u8 then some (true, .c (.str l)) else none
  | some (.slice e), some .string, .c (.slice _ (.int .i32) l) =>
    if undInt P e = some .i32 then some (decide (4 * l.length ≤ 9223372036854775807), .c (.str (encRunes l))) else none
  | some (.slice e), some .string, .c .nils =>
    if undInt P e = some .u8 ∨ undInt P e = some .i32 then some (true, .c (.str [])) else none
  | _, _, _ => none

def idx (n : Int) (len : Nat) : Bool := decide (0 ≤ n ∧ n < (len : Int))

def boundLo (lo : Option PV) : Option Int :=
  match lo with
  | none => some 0
  | some (.c (.int _ n)) => some n
  | _ => none

def boundHi (hi : Option PV) (len : Nat) : Option Int :=
  match hi with
  | none => some len
  | some (.c (.int _ n)) => some n
  | _ => none

def sliceC (P : Program) (t : TypeId) (x : PV) (lo hi : Option PV) : Option (Bool × PV) :=
  match P.underlying t, x with
  | some .string, .c (.str l) => match boundLo lo, boundHi hi l.length with
    | some a, some b => some (decide (0 ≤ a ∧ a ≤ b ∧ b ≤ (l.length : Int)), .c (.str ((l.take b.toNat).drop a.toNat)))
    | _, _ => none
  | some (.slice e), .c (.slice _ τ l) => match boundLo lo, boundHi hi l.length with
    | some a, some b => if sizeT P e = some τ.size then some (decide (0 ≤ a ∧ a ≤ b ∧ b ≤ (l.length : Int)), .c (.slice .ro τ ((l.take b.toNat).drop a.toNat))) else none
    | _, _ => none
  | some (.slice e), .c .nils => match boundLo lo, boundHi hi 0, sizeT P e with
    | some a, some b, some _ => some (decide (0 ≤ a ∧ a ≤ b ∧ b ≤ ((0 : Nat) : Int)), .c .nils)
    | _, _, _ => none
  | _, _ => none

/-- A full slice expression: what it may grow to is within what it is taken of. -/
def slice3C (P : Program) (t : TypeId) (x : PV) (lo : Option PV) (hi mx : PV) : Option (Bool × PV) :=
  match P.underlying t, x, hi, mx with
  | some (.slice e), .c (.slice _ τ l), .c (.int _ c), .c (.int _ d) => match boundLo lo with
    | some a => if sizeT P e = some τ.size then some (decide (0 ≤ a ∧ a ≤ c ∧ c ≤ d ∧ d ≤ (l.length : Int)), .c (.slice .ro τ ((l.take c.toNat).drop a.toNat))) else none
    | none => none
  | some (.slice e), .c .nils, .c (.int _ c), .c (.int _ d) => match boundLo lo, sizeT P e with
    | some a, some _ => some (decide (0 ≤ a ∧ a ≤ c ∧ c ≤ d ∧ d ≤ ((0 : Nat) : Int)), .c .nils)
    | _, _ => none
  | _, _, _, _ => none

def capOf : PV → Option (Nat × Nat)
  | .c (.ptr o off) => some (o, off)
  | _ => none

def capsOf : List PV → Option (List (Nat × Nat))
  | [] => some []
  | x :: r => match capOf x, capsOf r with
    | some a, some l => some (a :: l)
    | _, _ => none

/-- guard, value -/
def valA (P : Program) (ρ : Operand → PV) (st : St) : Op → Option (Bool × PV)
  | .move x | .assign x => some (true, ρ x)
  | .nilCheck x => match ρ x with
    | .c (.ptr o off) => some (true, .c (.ptr o off))
    | .c (.eptr o i z) => some (true, .c (.eptr o i z))
    | .c (.fptr o i z f) => some (true, .c (.fptr o i z f))
    | .c (.gptr n off) => some (true, .c (.gptr n off))
    | .rptr cs => some (true, .rptr cs)
    | .c (.func f caps) => some (true, .c (.func f caps))
    | _ => none
  | .binOp op t x y _ => binOpC P op t (ρ x) (ρ y)
  | .unOp op _ x => unOpC op (ρ x)
  | .convert src dst x => convC P src dst (ρ x)
  | .makeFunc (.func f) first caps =>
    if first.isEmpty then (capsOf (caps.toList.map ρ)).map fun l => (true, .c (.func f l)) else none
  | .build t parts =>
    match fieldsOf P t, zeroCells P t with
    | some fs, some z => if fs.any (fun f => (sizeT P f.type).isNone) then none else (fillParts (structPlaces P fs) z (parts.toList.map fun (i, x) => (i, ρ x))).map fun cs => (true, .agg cs)
    | _, _ => none
  | .slice t x lo hi none => sliceC P t (ρ x) (lo.map ρ) (hi.map ρ)
  | .slice t x lo (some hi) (some mx) => slice3C P t (ρ x) (lo.map ρ) (ρ hi) (ρ mx)
  | .field t x f => match ρ x, fieldsOf P t with
    | .agg cs, some fs => match fs[f]? with
      | some fd => (getPart P fd.type cs fd.offset).map fun v => (true, v)
      | none => none
    | _, _ => none
  | .fieldAddr t x f => match fieldsOf P t with
    | some fs => match fs[f]? with
      | some fd => match sizeT P fd.type with
        | some n => if n = 0 then none else match ρ x with
          | .c (.ptr o off) => some (true, .c (.ptr o (off + fd.offset)))
          | .c (.gptr n' off) => some (true, .c (.gptr n' (off + fd.offset)))
          | .c (.eptr o i z) => some (true, .c (.fptr o i z fd.offset))
          | .c (.fptr o i z f) => some (true, .c (.fptr o i z (f + fd.offset)))
          | .rptr cs => some (true, .rptr (cs.drop fd.offset))
          | _ => none
        | none => none
      | none => none
    | none => none
  | .indexAddr t x i => match P.underlying t, ρ x, ρ i with
    | some (.slice e), .c (.slice _ τ l), .c (.int _ n) =>
      if sizeT P e = some τ.size ∧ τ.size ≠ 0 then some (idx n l.length, .rptr (toCells τ (l.getD n.toNat τ.dflt))) else none
    | some (.slice e), .c (.mslice o), .c (.int _ n) => match st.objs[o]? with
      | some (.row τ l _) => if sizeT P e = some τ.size ∧ τ.size ≠ 0 then some (idx n l.length, .c (.eptr o n.toNat τ.size)) else none
      | _ => none
    | some (.slice e), .c (.vslice o), .c (.int _ n) => match st.objs[o]? with
      | some (.vec τ l _) => if sizeT P e = some τ.size ∧ τ.size ≠ 0 then some (idx n l.length, .c (.eptr o n.toNat τ.size)) else none
      | _ => none
    | some (.array len e), .c (.gptr v off), .c (.int _ n) => match globC v, elemTy P e with
      | some cs, some τ => match arrElems τ len ((cs.drop off).take (len * τ.size)) with
        | some l => if sizeT P e = some τ.size then some (idx n len, .rptr (toCells τ (l.getD n.toNat τ.dflt))) else none
        | none => none
      | _, _ => none
    | some (.array len e), .c (.ptr o off), .c (.int _ n) => match st.objs[o]?, P.underlying e with
      | some (.row τ l _), _ => if off = 0 ∧ sizeT P e = some τ.size ∧ τ.size ≠ 0 then some (idx n len && decide (l.length = len), .c (.eptr o n.toNat τ.size)) else none
      | some (.cells cs), some (.int k) => if (arrInts k ((cs.drop off).take len)).isSome ∧ off + len ≤ cs.length ∧ sizeT P e = some 1 then some (idx n len, .c (.aptr o off len n.toNat k)) else none
      | _, _ => none
    | _, _, _ => none
  | .index t x i => match P.underlying t, ρ x, ρ i with
    | some .string, .c (.str l), .c (.int _ n) => some (idx n l.length, .c (.int .u8 (l.getD n.toNat 0)))
    | some (.array len e), .agg cs, .c (.int _ n) => match elemTy P e with
      | some τ => match arrElems τ len cs with
        | some l => (cellsPV (aggT P e) (toCells τ (l.getD n.toNat τ.dflt))).map fun v => (idx n len, v)
        | none => none
      | none => none
    | _, _, _ => none
  | .extract t i => match ρ t with
    | .tup vs => match vs[i]? with
      | some p => some (true, PV.ofPart p)
      | none => none
    | _ => none
  | .load t a => match ρ a with
    | .c (.ptr o off) => match st.objs[o]? with
      | some (.cells cs) => (getPart P t cs off).map fun v => (true, v)
      | some (.row τ l _) => if off = 0 then (wholeRow P t τ l).map fun (n, v) => (decide (l.length = n), v) else none
      | _ => none
    | .c (.eptr o i z) => match st.objs[o]? with
      | some (.row τ l _) => if sizeT P t = some τ.size ∧ z = τ.size ∧ τ.size ≠ 0 then (cellsPV (aggT P t) (toCells τ (l.getD i τ.dflt))).map fun v => (decide (i < l.length), v) else none
      | some (.vec τ l _) => if sizeT P t = some τ.size ∧ z = τ.size ∧ τ.size ≠ 0 then (cellsPV (aggT P t) (toCells τ (l.getD i τ.dflt))).map fun v => (decide (i < l.length), v) else none
      | _ => none
    | .c (.fptr o i z f) => match st.objs[o]? with
      | some (.row τ l _) => if z = τ.size then (getPart P t (toCells τ (l.getD i τ.dflt)) f).map fun v => (decide (i < l.length), v) else none
      | some (.vec τ l _) => if z = τ.size then (getPart P t (toCells τ (l.getD i τ.dflt)) f).map fun v => (decide (i < l.length), v) else none
      | _ => none
    | .rptr cs => (getPart P t cs 0).map fun v => (true, v)
    | .c (.gptr n off) => match globC n with
      | some cs => (getPart P t cs off).map fun v => (true, v)
      | none => none
    | .c (.aptr o off n i k) => match st.objs[o]?, P.underlying t with
      | some (.cells cs), some (.int k') => if k' = k ∧ off + n ≤ cs.length then match arrInts k ((cs.drop off).take n) with
          | some l => some (decide (i < n), .c (.int k (l.getD i 0)))
          | none => none
        else none
      | _, _ => none
    | _ => none
  | _ => none

/-! ### The operations that turn the state -/
def setObj (st : St) (o : Nat) (x : AObj) : St := { st with objs := st.objs.set o x }
def addObj (st : St) (x : AObj) : St := { st with objs := st.objs ++ [x] }

def lenC (P : Program) (t : TypeId) (st : St) (x : PV) : Option C :=
  match P.underlying t, x with
  | some .string, .c (.str l) => some (.int .i64 l.length)
  | some (.slice _), .c (.slice _ _ l) => some (.int .i64 l.length)
  | some (.slice _), .c .nils => some (.int .i64 0)
  | some (.slice _), .c (.mslice o) => match st.objs[o]? with
    | some (.row _ l _) => some (.int .i64 l.length)
    | _ => none
  | some (.slice _), .c (.vslice o) => match st.objs[o]? with
    | some (.vec _ l _) => some (.int .i64 l.length)
    | _ => none
  | some (.array n _), _ => if n ≤ 9223372036854775807 then some (.int .i64 n) else none
  | _, _ => none

/-- The less (or the greater) of two integers. -/
def extremeC (less : Bool) : PV → PV → Option C
  | .c (.int k x), .c (.int k' y) => if k = k' then some (.int k (if less then min x y else max x y)) else none
  | _, _ => none

/-- What is appended: as elements of the type τ. -/
def appSrc (P : Program) (τ : Ty) (t : TypeId) (st : St) (x : PV) : Option (List τ.den) :=
  match P.underlying t, x with
  | some (.slice _), .c (.slice _ τ' l) => castL τ τ' l
  | some (.slice _), .c .nils => some []
  | some (.slice _), .c (.mslice o) => match st.objs[o]? with
    | some (.row τ' l _) => castL τ τ' l
    | _ => none
  | some (.slice _), .c (.vslice o) => match st.objs[o]? with
    | some (.vec τ' l _) => castL τ τ' l
    | _ => none
  | some .string, .c (.str l) => castL τ (.int .u8) l
  | _, _ => none

/-- The slice that is appended to: its elements; the token that is used up. -/
def appDst (τ : Ty) (st : St) (x : PV) : Option (List τ.den × Option Nat) :=
  match x with
  | .c (.slice (.own t) τ' l) => if st.live.contains t then (castL τ τ' l).map fun l' => (l', some t) else none
  | .c .nils => some ([], none)
  | _ => none

/-- What is appended to, where it is stored into too: its elements; the object that it was. -/
def vecDst (τ : Ty) (st : St) (x : PV) : Option (List τ.den × Option Nat) :=
  match x with
  | .c (.vslice o) => match st.objs[o]? with
    | some (.vec τ' l false) => (castL τ τ' l).map fun l' => (l', some o)
    | _ => none
  | .c .nils => some ([], none)
  | _ => none

def dieO (objs : List AObj) : Option Nat → List AObj
  | some o => objs.set o .dead
  | none => objs

def kill (live : List Nat) : Option Nat → List Nat
  | some t => live.filter (· != t)
  | none => live

def builtinW (P : Program) (vd : Bool) (st : St) (c : Nat) (ρ : Operand → PV) (b : Builtin) (args : List Operand) (tys : List TypeId) : Option (Bool × PV × St) :=
  match b with
  | .append => match args, tys with
    | [s, x], [t, t'] => match P.underlying t with
      | some (.slice e) => match elemTy P e, bytesT P e, zeroCells P e with
        | some τ, some b, some z => if b = 0 ∨ z.length ≠ τ.size then none else
          if vd then if τ.size = 0 then none else match vecDst τ st (ρ s), appSrc P τ t' st (ρ x) with
            | some (l, old), some l' => some (decide ((l.length + l'.length) * b ≤ 140737488355328), .c (.vslice st.objs.length), { st with objs := dieO st.objs old ++ [.vec τ (l ++ l') false] })
            | _, _ => none
          else match appDst τ st (ρ s), appSrc P τ t' st (ρ x) with
          | some (l, old), some l' => some (decide ((l.length + l'.length) * b ≤ 140737488355328), .c (.slice (.own c) τ (l ++ l')), { st with live := c :: kill st.live old })
          | _, _ => none
        | _, _, _ => none
      | _ => none
    | _, _ => none
  | .len => match args, tys with
    | [x], [t] => (lenC P t st (ρ x)).map fun v => (true, .c v, st)
    | _, _ => none
  | .min => match args with
    | [x, y] => (extremeC true (ρ x) (ρ y)).map fun v => (true, .c v, st)
    | _ => none
  | .max => match args with
    | [x, y] => (extremeC false (ρ x) (ρ y)).map fun v => (true, .c v, st)
    | _ => none
  | _ => none

/-- c: the token that this operation may take. guard, value, state. -/
def valW (P : Program) (cfg : Cfg) (fid : Nat) (dst : Option Nat) (ρ : Operand → PV) (st : St) (c : Nat) : Op → Option (Bool × PV × St)
  | .alloc t => (zeroCells P t).map fun cs => (true, .c (.ptr st.objs.length 0), addObj st (objOf P t cs))
  | .box t x => match (ρ x).cells, sizeT P t with
    | some cs, some n => if cs.length = n then some (true, .c (.ptr st.objs.length 0), addObj st (objOf P t cs)) else none
    | _, _ => none
  | .store t a x => match ρ a, (ρ x).cells, sizeT P t with
    | .c (.ptr o off), some xs, some n => match st.objs[o]? with
      | some (.cells cs) => if xs.length = n ∧ off + n ≤ cs.length then some (true, .any, setObj st o (.cells (placeAt cs off xs))) else none
      | some (.row τ l false) => match P.underlying t with
        | some (.array m _) => if off = 0 ∧ xs.length = n then match arrElems τ m xs with
            | some l' => some (decide (l.length = m), .any, setObj st o (.row τ l' false))
            | none => none
          else none
        | _ => none
      | _ => none
    | .c (.eptr o i z), some xs, some n => match st.objs[o]? with
      | some (.row τ l false) => if n = τ.size ∧ xs.length = n ∧ z = n then match ofCells τ xs with
        | some (y, []) => some (decide (i < l.length), .any, setObj st o (.row τ (l.set i y) false))
        | _ => none else none
      | some (.vec τ l false) => if n = τ.size ∧ xs.length = n ∧ z = n ∧ n ≠ 0 then match ofCells τ xs with
        | some (y, []) => some (decide (i < l.length), .any, setObj st o (.vec τ (l.set i y) false))
        | _ => none else none
      | _ => none
    | .c (.fptr o i z f), some xs, some n => match st.objs[o]? with
      | some (.row τ l false) => if xs.length = n ∧ z = τ.size ∧ f + n ≤ τ.size then match ofCells τ (placeAt (toCells τ (l.getD i τ.dflt)) f xs) with
        | some (y, []) => some (decide (i < l.length), .any, setObj st o (.row τ (l.set i y) false))
        | _ => none else none
      | some (.vec τ l false) => if xs.length = n ∧ z = τ.size ∧ f + n ≤ τ.size ∧ τ.size ≠ 0 then match ofCells τ (placeAt (toCells τ (l.getD i τ.dflt)) f xs) with
        | some (y, []) => some (decide (i < l.length), .any, setObj st o (.vec τ (l.set i y) false))
        | _ => none else none
      | _ => none
    | .c (.aptr o off n i k), some _, some s => match st.objs[o]?, ρ x with
      | some (.cells cs), .c (.int k' v) => if k' = k ∧ s = 1 ∧ off + n ≤ cs.length then match arrInts k ((cs.drop off).take n) with
          | some l => some (decide (i < n), .any, setObj st o (.cells (placeAt cs off (setInts k l i v 0 n))))
          | none => none
        else none
      | _, _ => none
    | _, _, _ => none
  | .buildSlice t n parts => match P.underlying t with
    | some (.slice e) => match elemTy P e, zeroCells P e with
      | some τ, some _ => if n * τ.size ≤ 2 ^ 24 ∧ n ≤ 2 ^ 24 then
          match litElems τ 0 (parts.toList.map fun (i, x) => (i, ρ x)) with
          | some l => if l.length ≠ n then none else match dst with
            | some d => if cfg.ros.contains (fid, d) then some (true, .c (.slice .ro τ l), st)
              else if cfg.vecs.contains (fid, d) then (if l.isEmpty ∨ τ.size = 0 then none else some (true, .c (.vslice st.objs.length), addObj st (.vec τ l false)))
              else if cfg.muts.contains (fid, d) then some (true, .c (.mslice st.objs.length), addObj st (.row τ l false))
              else some (true, .c (.slice (.own c) τ l), { st with live := c :: st.live })
            | none => none
          | none => none
        else none
      | _, _ => none
    | _ => none
  | .makeSlice t ln cp => match P.underlying t, ρ ln, ρ cp with
    | some (.slice e), .c (.int _ n), .c (.int _ m) => match elemTy P e, zeroCells P e, bytesT P e with
      | some τ, some z, some b => match ofCells τ z with
        | some (x, []) => if b = 0 then none else
            let g := decide (0 ≤ n ∧ n ≤ m ∧ m * b ≤ 140737488355328)
            match dst with
            | some d => if cfg.muts.contains (fid, d) then some (g && decide (n = m), .c (.mslice st.objs.length), addObj st (.row τ (List.replicate n.toNat x) false))
              else some (g, .c (.slice (.own c) τ (List.replicate n.toNat x)), { st with live := c :: st.live })
            | none => none
        | _ => none
      | _, _, _ => none
    | _, _, _ => none
  | .convert src dstT x => match P.underlying src, P.underlying dstT, ρ x, dst with
    | some .string, some (.slice e), .c (.str l), some d =>
      match P.underlying e with
      | some (.int .u8) => if cfg.muts.contains (fid, d) then some (decide (l.length ≤ 140737488355328), .c (.mslice st.objs.length), addObj st (.row (.int .u8) l false))
          else some (decide (l.length ≤ 140737488355328), .c (.slice .ro (.int .u8) l), st)
      | some (.int .i32) => some (decide (l.length ≤ 35184372088832), .c (.slice .ro (.int .i32) (runes l)), st)
      | _ => none
    | some (.slice e), some .string, .c (.mslice o), _ => match st.objs[o]? with
      | some (.row (.int .u8) l _) => if undInt P e = some .u8 then some (true, .c (.str l), st) else none
      | _ => none
    | some (.slice _), some (.slice e), .c (.slice (.own t) (.int .u8) l), _ => if src = dstT ∧ undInt P e = some .u8 ∧ st.live.contains t = true then some (decide (0 < l.length), .c (.slice .ro (.int .u8) l), { st with live := kill st.live (some t) }) else none
    | _, _, _, _ => none
  | .range t x => match P.underlying t, ρ x with
    | some .string, .c (.str l) => some (true, .c (.ptr st.objs.length 0), addObj st (.siter l 0))
    | _, _ => none
  | .call { callee := .builtin b, args, argTypes } => builtinW P (dst.any fun d => cfg.vecs.contains (fid, d)) st c ρ b args.toList argTypes.toList
  | _ => none


/-! ### Calls: what is handed over, what comes back -/
/-- A slice that may still be written is handed over as it now reads, and is never written again. -/
def settleC (st : St) : C → Option (C × St)
  | .mslice o => match st.objs[o]? with
    | some (.row τ l _) => some (.slice .ro τ l, setObj st o (.row τ l true))
    | _ => none
  | .slice _ τ l => some (.slice .ro τ l, st)
  | .vslice o => match st.objs[o]? with
    | some (.vec τ l _) => some (.slice .ro τ l, setObj st o (.vec τ l true))
    | _ => none
  | x => some (x, st)

def settleCs (st : St) : List C → Option (List C × St)
  | [] => some ([], st)
  | x :: r => match settleC st x with
    | some (x', st1) => match settleCs st1 r with
      | some (r', st2) => some (x' :: r', st2)
      | none => none
    | none => none

def settlePV (st : St) : PV → Option (PV × St)
  | .c x => (settleC st x).map fun (y, s) => (.c y, s)
  | .agg cs => (settleCs st cs).map fun (y, s) => (.agg y, s)
  | _ => none

def settlePVs (st : St) : List PV → Option (List PV × St)
  | [] => some ([], st)
  | x :: r => match settlePV st x with
    | some (x', st1) => match settlePVs st1 r with
      | some (r', st2) => some (x' :: r', st2)
      | none => none
    | none => none

/-- The types of a function's results, and whether each is a struct or an array. -/
def resTys (P : Program) : List TypeId → Option (List (Ty × Bool))
  | [] => some []
  | t :: r => match tyOf P 12 t, aggT P t, resTys P r with
    | some τ, some agg, some l => if sizeT P t = some τ.size ∧ (agg = false → τ.size = 1) then some ((τ, agg) :: l) else none
    | _, _, _ => none

def resTysF (P : Program) (f : Nat) : Option (List (Ty × Bool)) :=
  match P.funcs[f]? with
  | some fn => resTys P fn.resultTypes.toList
  | none => none

def RTy (P : Program) (f : Nat) : Ty :=
  match resTysF P f with
  | some [(τ, _)] => τ
  | some l => l.foldr (fun p r => .pair p.1 r) .unit
  | none => .unit

def partCells : C ⊕ List C → List C
  | .inl x => [x]
  | .inr cs => cs

def resCells : PV → Option (List C)
  | .any => none
  | .c x => some [x]
  | .agg cs => some cs
  | .tup vs => some (vs.flatMap partCells)
  | .rptr _ => none

def partShape : Ty × Bool → C ⊕ List C → Bool
  | (τ, false), .inl _ => τ.size == 1
  | (τ, true), .inr cs => cs.length == τ.size
  | _, _ => false

def partsShape : List (Ty × Bool) → List (C ⊕ List C) → Bool
  | [], [] => true
  | q :: l, p :: r => partShape q p && partsShape l r
  | _, _ => false

/-- Is a result of the shape that its types say? -/
def resShape (P : Program) (f : Nat) (pv : PV) : Bool :=
  match resTysF P f, pv with
  | some [(_, false)], .c _ => true
  | some [(_, true)], .agg _ => true
  | some [_], _ => false
  | some tys, .tup ps => partsShape tys ps
  | _, _ => false

/-- Is a result of the callee's own, where it is said to be? -/
def ownOk (f : Nat) (pv : PV) (st : St) : Bool :=
  !ownRes f || match pv with
    | .c .nils => true
    | .c (.slice (.own t) _ _) => st.live.contains t
    | _ => false

/-- A result, as its type tells it: whatever could still be written is written no more. -/
def decRes (P : Program) (f : Nat) (pv : PV) (st : St) : Option (RTy P f).den :=
  match (if resShape P f pv && ownOk f pv st then resCells pv else none) with
  | some cs => match settleCs st cs with
    | some (l, _) => match ofCells (RTy P f) l with
      | some (x, []) => some x
      | _ => none
    | none => none
  | none => none

def splitParts : List (Ty × Bool) → List C → List (C ⊕ List C)
  | [], _ => []
  | (τ, agg) :: r, cs => (if agg then .inr (cs.take τ.size) else .inl ((cs.headD .nilptr))) :: splitParts r (cs.drop τ.size)

def encRes (P : Program) (f : Nat) (cs : List C) : PV :=
  match resTysF P f with
  | some [(_, agg)] => if agg then .agg cs else .c (cs.headD .nilptr)
  | some l => .tup (splitParts l cs)
  | none => .any

/-- What a call hands back; a slice of the callee's own comes with a token. -/
def retOwn (c : Nat) (st : St) (d : PV) : (τ : Ty) → τ.den → PV × St
  | .slice τ, l => (.c (.slice (.own c) τ l), { st with live := c :: st.live })
  | _, _ => (d, st)

def retPV (P : Program) (f : Nat) (x : (RTy P f).den) (c : Nat) (st : St) : PV × St :=
  if ownRes f then retOwn c st (encRes P f (toCells (RTy P f) x)) (RTy P f) x else (encRes P f (toCells (RTy P f) x), st)

def belowC (base : Nat → Bool) (m : Nat) : C → Bool
  | .slice (.own t) _ _ => base t
  | .ptr o _ | .eptr o _ _ | .mslice o | .yield o | .aptr o _ _ _ _ | .vslice o | .fptr o _ _ _ => o < m
  | .func _ caps => caps.all fun p => p.1 < m
  | _ => true

def belowPV (base : Nat → Bool) (m : Nat) : PV → Bool
  | .any => true
  | .c x => belowC base m x
  | .agg cs | .rptr cs => cs.all (belowC base m)
  | .tup vs => vs.all fun p => (partCells p).all (belowC base m)

inductive Tgt where
  | fn (f : Nat)
  | round (o : Nat)

abbrev Run := (R : Type) → Tgt → List PV → St → (PV → St → Option R) → Option R

def pcall (P : Program) (rn : Run) (f : Nat) (args : List PV) : Option (RTy P f).den :=
  rn _ (.fn f) args .empty fun pv st => decRes P f pv st

def extName (P : Program) (f : Nat) : Option String :=
  match P.funcs[f]? with
  | some fn => if fn.body.isNone then some fn.name else none
  | none => none

def indexByteL (l : List Int) (c : Int) : Int :=
  match l.findIdx? (· == c) with
  | some i => i
  | none => -1

/-- A function of the library's that has no Go body. -/
def extC (name : String) (args : List PV) : Option PV :=
  if name = "internal/bytealg.IndexByte" then match args with
    | [.c (.slice _ (.int .u8) l), .c (.int .u8 c)] => some (.c (.int .i64 (indexByteL l c)))
    | [.c .nils, .c (.int .u8 _)] => some (.c (.int .i64 (-1)))
    | _ => none
  else if name = "internal/bytealg.IndexByteString" then match args with
    | [.c (.str l), .c (.int .u8 c)] => some (.c (.int .i64 (indexByteL l c)))
    | _ => none
  else none

/-- strings.Join -/
def joinL (l : List (List Int)) (s : List Int) : List Int := (List.intersperse s l).flatten

/-- What is known of a function of the library's: where, and what it answers. -/
def shC (k : Nat) (args : List PV) : Option (Bool × PV) :=
  if k = 0 then match args with
    | [.c (.slice _ .str l), .c (.str s)] => some (decide ((joinL l s).length ≤ 140737488355328 ∧ l.length ≤ 140737488355328), .c (.str (joinL l s)))
    | [.c .nils, .c (.str _)] => some (true, .c (.str []))
    | _ => none
  else none

def shelfC {R : Type} (k : Nat) (args : List PV) (st : St) (K : PV → St → Option R) : Option R :=
  match settlePVs st args with
  | some (args', _) => match shC k args' with
    | some (q, v) => if q = true then K v st else none
    | none => none
  | none => none

def callC (P : Program) (rn : Run) {R : Type} (f : Nat) (args : List PV) (st : St) (c : Nat) (K : PV → St → Option R) : Option R :=
  match shNum f with
  | some k => shelfC k args st K
  | none => match extName P f with
  | some name => match settlePVs st args with
    | some (args', _) => match extC name args' with
      | some v => K v st
      | none => none
    | none => none
  | none => match settlePVs st args, resTysF P f with
    | some (args', st'), some _ =>
      if args'.all (belowPV (fun _ => false) 0) then (pcall P rn f args').bind fun x => K (retPV P f x c st').1 (retPV P f x c st').2
      else rn R (.fn f) args st K
    | _, _ => rn R (.fn f) args st K

def pureArgs (P : Program) (f : Nat) (args : List PV) (st : St) : Bool :=
  match settlePVs st args, resTysF P f with
  | some (args', _), some _ => args'.all (belowPV (fun _ => false) 0)
  | _, _ => false

/-- A run in which every call sees nothing of its caller's state. -/
def rnPure (P : Program) (rn : Run) : Run := fun R tgt args st K => match tgt with
  | .fn f => if pureArgs P f args st then rn R (.fn f) args st K else none
  | .round _ => none

/-! ### Operations in their order -/
def guardOf (ops : Array Oper) (tmps : List PV) (j : Nat) : PV :=
  match (ops[j]?).bind (·.dst) with
  | some d => tmps.getD d .any
  | none => .any

def ptrsOf (l : List (Nat × Nat)) : List PV := l.map fun (o, off) => .c (.ptr o off)

/-- The answer of an operation without branches, handed on. -/
def stepK {R : Type} (va : Option (Bool × PV)) (vw : Option (Bool × PV × St)) (st : St) (K : PV → St → Option R) : Option R :=
  match va with
  | some (g, v) => if g then K v st else none
  | none => match vw with
    | some (g, v, st') => if g then K v st' else none
    | none => none

def opK (P : Program) (cfg : Cfg) (rn : Run) {R : Type} (o : Oper) (c : Nat) (fr : Fr) (st : St) (K : Fr → St → Option R) : Option R :=
  match o.op with
  | .pick x a b => match evalO fr.tmps x with
    | .c (.bool t) => if t then K (fr.put o.dst (evalO fr.tmps a)) st else K (fr.put o.dst (evalO fr.tmps b)) st
    | _ => none
  | .next it true => match evalO fr.tmps it with
    | .c (.ptr l off) => if off ≠ 0 then none else match st.objs[l]? with
      | some (.siter s pos) =>
        if pos < s.length then K (fr.put o.dst (.tup [.inl (.bool true), .inl (.int .i64 pos), .inl (.int .i32 (decRune s pos).1)])) (setObj st l (.siter s (pos + (decRune s pos).2)))
        else K (fr.put o.dst (.tup [.inl (.bool false)])) st
      | _ => none
    | _ => none
  | .call { callee := .value f, args, argTypes := _ } => match evalO fr.tmps f with
    | .c (.func g caps) => callC P rn g (args.toList.map (evalO fr.tmps) ++ ptrsOf caps) st c fun v st' => K (fr.put o.dst v) st'
    | .c (.yield l) => rn R (.round l) (args.toList.map (evalO fr.tmps)) st fun v st' => K (fr.put o.dst v) st'
    | _ => none
  | op => stepK (valA P (evalO fr.tmps) st op) (valW P cfg fr.fid o.dst (evalO fr.tmps) st c op) st fun v st' => K (fr.put o.dst v) st'

def operK (P : Program) (cfg : Cfg) (rn : Run) {R : Type} (ops : Array Oper) (o : Oper) (c : Nat) (fr : Fr) (st : St) (K : Fr → St → Option R) : Option R :=
  match o.guard with
  | none => opK P cfg rn o c fr st K
  | some (j, want) => match guardOf ops fr.tmps j with
    | .c (.bool b) => match want with
      | true => if b then opK P cfg rn o c fr st K else K (fr.put o.dst (.tup [])) st
      | false => if b then K (fr.put o.dst (.tup [])) st else opK P cfg rn o c fr st K
    | .tup [] => K (fr.put o.dst (.tup [])) st
    | _ => none

def opsK (P : Program) (cfg : Cfg) (rn : Run) {R : Type} (ops : Array Oper) (c0 : Nat) : List Nat → Fr → St → (Fr → St → Option R) → Option R
  | [], fr, st, K => K fr st
  | i :: r, fr, st, K => match ops[i]? with
    | none => opsK P cfg rn ops c0 r fr st K
    | some o => operK P cfg rn ops o (c0 + 8 * i) fr st fun fr' st' => opsK P cfg rn ops c0 r fr' st' K

/-- What is known of a guard: its place; its value (none: it was itself passed over). -/
abbrev GMode := Option (Nat × Option Bool)

def keepMode (ops : Array Oper) (m : GMode) (o : Oper) : GMode :=
  match m with
  | some (j, s) => if (ops[j]?).bind (·.dst) = o.dst then none else some (j, s)
  | none => none

/-- The same as opsK; a guard that several operations share is looked at once. -/
def opsG (P : Program) (cfg : Cfg) (rn : Run) {R : Type} (ops : Array Oper) (c0 : Nat) : GMode → List Nat → Fr → St → (Fr → St → Option R) → Option R
  | _, [], fr, st, K => K fr st
  | m, i :: r, fr, st, K => match ops[i]? with
    | none => opsG P cfg rn ops c0 m r fr st K
    | some o => match o.guard with
      | none => opK P cfg rn o (c0 + 8 * i) fr st fun fr' st' => opsG P cfg rn ops c0 (keepMode ops m o) r fr' st' K
      | some (j, want) =>
        let go (m : GMode) (run : Bool) : Option R := match run with
          | true => opK P cfg rn o (c0 + 8 * i) fr st fun fr' st' => opsG P cfg rn ops c0 (keepMode ops m o) r fr' st' K
          | false => opsG P cfg rn ops c0 (keepMode ops m o) r (fr.put o.dst (.tup [])) st K
        let fresh : Option R := match guardOf ops fr.tmps j with
          | .c (.bool b) => if b then go (some (j, some true)) want else go (some (j, some false)) (!want)
          | .tup [] => go (some (j, none)) false
          | _ => none
        match m with
        | some (j', s) => if j' = j then go m (match s with
            | some b => b == want
            | none => false) else fresh
        | none => fresh

/-! ### Where an order is left open: which operations may trade places -/
inductive Kind where
  | pure | reads | calls | writes
  deriving DecidableEq

def callKind (c : Call) : Kind :=
  match c.callee with
  | .value _ => .calls
  | .builtin .len | .builtin .min | .builtin .max => .reads
  | _ => .writes

def opKind (P : Program) : Op → Kind
  | .load .. | .indexAddr .. => .reads
  | .next .. | .alloc _ | .box .. | .store .. | .buildSlice .. | .makeSlice .. | .range .. => .writes
  | .call c => callKind c
  | .convert src dst _ => match P.underlying src, P.underlying dst with
    | some (.slice _), some .string => .reads
    | some .string, some (.slice _) => .writes
    | some (.slice _), some (.slice _) => .writes
    | _, _ => .pure
  | _ => .pure


/-- A literal that is never appended to makes a value alone. -/
def opKindO (P : Program) (ro : Nat → Bool) (o : Oper) : Kind :=
  match o.op with
  | .buildSlice .. => match o.dst with
    | some d => if ro d then .pure else .writes
    | none => .writes
  | op => opKind P op

def roOf (cfg : Cfg) (fid : Nat) : Nat → Bool := fun d => cfg.ros.contains (fid, d)

/-- Which slots an operation looks at. -/
def looks (ops : Array Oper) (o : Oper) : List Nat :=
  (o.op.operands.toList.filterMap fun
    | .tmp t => some t
    | _ => none) ++
  (match o.guard with
   | some (g, _) => ((ops[g]?).bind (·.dst)).toList
   | none => [])

/-- q: calls see nothing of their callers' states and leave nothing in them. -/
def kindsApart (q : Bool) : Kind → Kind → Bool
  | .pure, _ | _, .pure => true
  | .reads, .reads => true
  | .reads, .calls | .calls, .reads => q
  | _, _ => false

/-- Two operations may trade places. -/
def apartC (P : Program) (q : Bool) (ro : Nat → Bool) (ops : Array Oper) (x y : Oper) : Bool :=
  kindsApart q (opKindO P ro x) (opKindO P ro y) &&
  (match x.dst with
   | some d => !(looks ops y).contains d && y.dst != some d
   | none => true) &&
  (match y.dst with
   | some d => !(looks ops x).contains d
   | none => true)

/-- Which operations certainly come before operation i: by the edges that always bind, from each to each. -/
def edgesOf (o : Oper) : List Nat := (o.after.toList.filter fun e => Region.binds .any e).map (·.on)

/-- Rows of what comes before, built from the first operation on. -/
def beforeRows (ops : Array Oper) : Nat → List (List Nat)
  | 0 => []
  | n + 1 => let rows := beforeRows ops n
    rows ++ [match ops[n]? with
      | some o => (edgesOf o).flatMap fun j => j :: rows.getD j []
      | none => []]

/-- Each two operations of a region whose order is open either lie in a fixed order or may trade places. -/
def drawOk (P : Program) (q : Bool) (ro : Nat → Bool) (ops : Array Oper) : Bool :=
  let rows := beforeRows ops ops.size
  (List.range ops.size).all fun j => match ops[j]? with
    | some y => (edgesOf y).all (· < j) && (List.range j).all fun i => (rows.getD j []).contains i || (match ops[i]? with
      | some x => apartC P q ro ops x y
      | none => false)
    | none => false

def regionK (P : Program) (cfg : Cfg) (rn : Run) {R : Type} (ops : Array Oper) (draw : Bool) (fr : Fr) (st : St) (K : Fr → St → Option R) : Option R :=
  if draw then
    if drawOk P false (roOf cfg fr.fid) ops then opsG P cfg rn ops st.next none (List.range ops.size) fr { st with next := st.next + 8 * ops.size } K
    else if drawOk P true (roOf cfg fr.fid) ops then opsG P cfg (rnPure P rn) ops st.next none (List.range ops.size) fr { st with next := st.next + 8 * ops.size } K
    else none
  else opsG P cfg rn ops st.next none (List.range ops.size) fr { st with next := st.next + 8 * ops.size } K

/-! ### The head of a loop: what is kept, in a form that is alike in every round -/
def newToks : Nat → Nat → List Nat
  | _, 0 => []
  | c, n + 1 => c :: newToks (c + 1) n

structure Nrm where
  /-- the old token of each new one; none: the slice was nil -/
  news : List (Option Nat)

def findNew (base t : Nat) : List (Option Nat) → Nat → Option Nat
  | [], _ => none
  | some t' :: r, i => if t' = t then some (base + i) else findNew base t r (i + 1)
  | none :: r, i => findNew base t r (i + 1)

def normC (base m : Nat) (live : List Nat) (md : Mode) (news : List (Option Nat)) (x : C) : Option (C × List (Option Nat)) :=
  match md, x with
  | .own τ, .nils => some (.slice (.own (base + news.length)) τ [], news ++ [none])
  | .own τ, .slice (.own t) τ' l => match castL τ τ' l with
    | some l' => if live.contains t then match findNew base t news 0 with
        | some t' => some (.slice (.own t') τ l', news)
        | none => some (.slice (.own (base + news.length)) τ l', news ++ [some t])
      else none
    | none => none
  | .own _, _ => none
  | .ro τ, .nils => some (.slice .ro τ [], news)
  | .ro τ, .slice _ τ' l => match castL τ τ' l with
    | some l' => some (.slice .ro τ l', news)
    | none => none
  | .ro _, _ => none
  | .keep, .slice _ τ l => some (.slice .ro τ l, news)
  | .keep, .ptr o off => if o < m then some (.ptr o off, news) else none
  | .keep, .eptr o i z => if o < m then some (.eptr o i z, news) else none
  | .keep, .aptr o f n i k => if o < m then some (.aptr o f n i k, news) else none
  | .keep, .mslice o => if o < m then some (.mslice o, news) else none
  | .keep, .vslice o => if o < m then some (.vslice o, news) else none
  | .keep, .fptr o i z f => if o < m then some (.fptr o i z f, news) else none
  | .keep, .func f caps => if caps.all (fun p => p.1 < m) then some (.func f caps, news) else none
  | .keep, .yield o => if o < m then some (.yield o, news) else none
  | .keep, y => some (y, news)

def normCs (base m : Nat) (live : List Nat) (news : List (Option Nat)) : List C → Option (List C × List (Option Nat))
  | [] => some ([], news)
  | x :: r => match normC base m live .keep news x with
    | some (x', n1) => match normCs base m live n1 r with
      | some (r', n2) => some (x' :: r', n2)
      | none => none
    | none => none

def normPV (base m : Nat) (live : List Nat) (md : Mode) (news : List (Option Nat)) : PV → Option (PV × List (Option Nat))
  | .any => some (.any, news)
  | .c x => (normC base m live md news x).map fun (y, n) => (.c y, n)
  | .agg cs => (normCs base m live news cs).map fun (y, n) => (.agg y, n)
  | .rptr cs => (normCs base m live news cs).map fun (y, n) => (.rptr y, n)
  | .tup vs => if vs.isEmpty then some (.tup [], news) else none

/-- The kept slots, one by one; all others are forgotten. -/
def normSlots (base m : Nat) (live : List Nat) (tmps : List PV) : List (Nat × Mode) → List (Option Nat) → List PV → Option (List PV × List (Option Nat))
  | [], news, out => some (out, news)
  | (s, md) :: r, news, out => match normPV base m live md news (tmps.getD s .any) with
    | some (v, n1) => normSlots base m live tmps r n1 (out.set s v)
    | none => none

def modeOf (cells : List (Nat × Nat × Mode)) (o i : Nat) : Mode :=
  match cells.find? fun (o', i', _) => o' == o && i' == i with
  | some (_, _, md) => md
  | none => .keep

def normObjCells (base m : Nat) (live : List Nat) (cells : List (Nat × Nat × Mode)) (o : Nat) : Nat → List (Option Nat) → List C → Option (List C × List (Option Nat))
  | _, news, [] => some ([], news)
  | i, news, x :: r => match normC base m live (modeOf cells o i) news x with
    | some (x', n1) => match normObjCells base m live cells o (i + 1) n1 r with
      | some (r', n2) => some (x' :: r', n2)
      | none => none
    | none => none

def normObjs (base m : Nat) (live : List Nat) (cells : List (Nat × Nat × Mode)) : Nat → List (Option Nat) → List AObj → Option (List AObj × List (Option Nat))
  | _, news, [] => some ([], news)
  | o, news, .cells cs :: r => match normObjCells base m live cells o 0 news cs with
    | some (cs', n1) => match normObjs base m live cells (o + 1) n1 r with
      | some (r', n2) => some (.cells cs' :: r', n2)
      | none => none
    | none => none
  | o, news, .loop rec :: r => if rec.tmps.all (belowPV (fun t => decide (t < base)) m) then match normObjs base m live cells (o + 1) news r with
      | some (r', n2) => some (.loop rec :: r', n2)
      | none => none
    else none
  | o, news, x :: r => match normObjs base m live cells (o + 1) news r with
    | some (r', n2) => some (x :: r', n2)
    | none => none

def norm (h : Hint) (fr : Fr) (st : St) : Option (Fr × St) :=
  if fr.obase ≤ h.objs ∧ h.objs ≤ st.objs.length then
    match normSlots fr.base h.objs st.live fr.tmps h.slots [] (List.replicate fr.tmps.length .any) with
    | some (tmps, n1) => match normObjs fr.base h.objs st.live h.cells 0 n1 (st.objs.take h.objs) with
      | some (objs, n2) => some ({ fr with tmps }, { objs, live := newToks fr.base n2.length ++ st.live.filter (fun t => decide (t < fr.base) && !n2.contains (some t)), next := fr.base + n2.length })
      | none => none
    | none => none
  else none

/-- A slice that is appended to and stored into takes its place behind all other objects. -/
def vecAt (τ : Ty) (st : St) (x : PV) : Option (List τ.den × Bool × Option Nat) :=
  match x with
  | .c .nils => some ([], false, none)
  | .c (.vslice o) => match st.objs[o]? with
    | some (.vec τ' l fz) => (castL τ τ' l).map fun l' => (l', fz, some o)
    | _ => none
  | _ => none

/-- K: what is done in between, while the slice is told nowhere. -/
def normV (h : Hint) (fr : Fr) : List (Nat × Ty) → St → Option (Fr × St)
  | [], st => norm h fr st
  | (s, τ) :: r, st => match vecAt τ st (fr.tmps.getD s .any) with
    | some (l, fz, o) => if τ.size = 0 then none else match normV h fr r { st with objs := dieO st.objs o } with
      | some (fr', st') => if s < fr'.tmps.length then some ({ fr' with tmps := fr'.tmps.set s (.c (.vslice st'.objs.length)) }, { st' with objs := st'.objs ++ [.vec τ l fz] }) else none
      | none => none
    | none => none

/-- The first hint that serves; none: as it is. -/
def normH (p tag : Nat) (fr : Fr) (st : St) : List ((Nat × Nat) × Hint) → Fr × St
  | [] => (fr, st)
  | (q, h) :: r => if q.1 == fr.fid && q.2 == p && h.tag == tag && h.obase == fr.obase then match normV h fr h.vecs st with
      | some x => x
      | none => normH p tag fr st r
    else normH p tag fr st r

def normK (cfg : Cfg) (p tag : Nat) {R : Type} (fr : Fr) (st : St) (K : Fr → St → Option R) : Option R :=
  K (normH p tag fr st cfg.hints).1 (normH p tag fr st cfg.hints).2

def Ex.tag : Ex → Nat
  | .normal => 0
  | .ret => 1
  | .exit id => id + 2

/-- The same, where a part of code is taken by itself. -/
def Ex.ctag (e : Ex) : Nat := e.tag + 100000

def maskT (keep : List Nat) : Nat → List PV → List PV
  | _, [] => []
  | i, v :: r => (if keep.contains i then v else .any) :: maskT keep (i + 1) r

def keepT (cfg : Cfg) (fid p : Nat) (tmps : List PV) : List PV :=
  match cfg.keeps.lookup (fid, p) with
  | some l => maskT l 0 tmps
  | none => tmps

/-! ### Code -/
def loopK {R : Type} (step : Fr → St → (Ex → Fr → St → Option R) → Option R) (K : Ex → Fr → St → Option R) : Nat → Fr → St → Option R
  | 0, _, _ => none
  | n + 1, fr, st => step fr st fun e fr' st' => match e with
    | .normal => loopK step K n fr' st'
    | e => K e fr' st'

def codeK (P : Program) (cfg : Cfg) (rn : Run) (n : Nat) {R : Type} : Code → Nat → Fr → St → (Ex → Fr → St → Option R) → Option R
  | .skip, _, fr, st, K => K .normal fr st
  | .label _, _, fr, st, K => K .normal fr st
  | .region _ ops draw, _, fr, st, K => regionK P cfg rn ops draw fr st (K .normal)
  | .seq a b, p, fr, st, K => if cfg.cuts.contains (fr.fid, p) then
      normK cfg p 0 fr st fun fr st => match cfg.lp with
      | some h => h R a fr.fid (2 * p + 1) fr st fun e fr' st' => match e with
        | .normal => codeK P cfg rn n b (2 * p + 1) fr' st' K
        | e => K e fr' st'
      | none => codeK P cfg rn n a (2 * p) fr st fun e fr' st' => normK cfg p e.ctag fr' st' fun fr' st' => match e with
        | .normal => codeK P cfg rn n b (2 * p + 1) fr' st' K
        | e => K e fr' st'
    else codeK P cfg rn n a (2 * p) fr st fun e fr' st' => match e with
    | .normal => codeK P cfg rn n b (2 * p + 1) fr' st' K
    | e => K e fr' st'
  | .cond x a b, p, fr, st, K => match evalO fr.tmps x with
    | .c (.bool t) => if t then codeK P cfg rn n a (2 * p) fr st K else codeK P cfg rn n b (2 * p + 1) fr st K
    | _ => none
  | .block id a, p, fr, st, K => codeK P cfg rn n a (2 * p) fr st fun e fr' st' => match e with
    | .exit id' => if id' = id then K .normal fr' st' else K (.exit id') fr' st'
    | e => K e fr' st'
  | .scope a, p, fr, st, K => codeK P cfg rn n a (2 * p) fr st K
  | .loop a, p, fr, st, K => normK cfg p 0 fr st fun fr st => match cfg.lp with
    | some h => h R a fr.fid (2 * p) fr st K
    | none => loopK (fun fr st K' => codeK P cfg rn n a (2 * p) fr st fun e fr st => normK cfg p e.tag fr st (K' e)) K n fr st
  | .exit id, _, fr, st, K => K (.exit id) fr st
  | .ret, _, fr, st, K => K .ret fr st
  | .rangeFunc g ps assign body, p, fr, st, K => match evalO fr.tmps g with
    | .c (.func f caps) =>
      if fr.round.isSome then none else
      if (extName P f).isSome then none else
      rn R (.fn f) (.c (.yield st.objs.length) :: ptrsOf caps)
        (addObj st (.loop { state := .ready, pending := none, fid := fr.fid, tmps := keepT cfg fr.fid p fr.tmps, params := ps.toList, assign, body, path := p }))
        fun _ st2 => match st2.objs[st.objs.length]? with
        | some (.loop r) =>
          if r.state = .busy then none else
          match r.pending with
          | none => K .normal fr (setObj st2 st.objs.length (.loop { r with state := .exhausted }))
          | some .ret => K .ret fr (setObj st2 st.objs.length (.loop { r with state := .exhausted }))
          | some (.exit id) => K (.exit id) fr (setObj st2 st.objs.length (.loop { r with state := .exhausted }))
          | _ => none
        | _ => none
    | _ => none
  | _, _, _, _, _ => none

def resultPart (P : Program) (fr : Fr) (st : St) : ResultVar → Option PV
  | .tmp t => some (fr.tmps.getD t .any)
  | .cell a t => match fr.tmps.getD a .any with
    | .c (.ptr o off) => match st.objs[o]? with
      | some (.cells cs) => getPart P t cs off
      | some (.row τ l _) => if off = 0 then (wholeRow P t τ l).map (·.2) else none
      | _ => none
    | _ => none

/-- The rows among the results have their types' lengths. -/
def resChk (P : Program) (fr : Fr) (st : St) {R : Type} : List ResultVar → Option R → Option R
  | [], k => k
  | .tmp _ :: rs, k => resChk P fr st rs k
  | .cell a t :: rs, k => match fr.tmps.getD a .any with
    | .c (.ptr o _) => match st.objs[o]? with
      | some (.row τ l _) => match wholeRow P t τ l with
        | some (n, _) => if l.length = n then resChk P fr st rs k else none
        | none => none
      | _ => resChk P fr st rs k
    | _ => resChk P fr st rs k

def partOf : PV → Option (C ⊕ List C)
  | .c x => some (.inl x)
  | .agg cs => some (.inr cs)
  | _ => none

def resultParts (P : Program) (fr : Fr) (st : St) : List ResultVar → Option (List (C ⊕ List C))
  | [] => some []
  | r :: rs => match resultPart P fr st r with
    | some v => match partOf v, resultParts P fr st rs with
      | some p, some l => some (p :: l)
      | _, _ => none
    | none => none

def resultPV (P : Program) (fn : Func) (fr : Fr) (st : St) : Option PV :=
  match fn.results.toList with
  | [r] => match resultPart P fr st r with
    | some (.tup _) => none
    | some (.rptr _) => none
    | v => v
  | rs => (resultParts P fr st rs).map .tup

def setParams : List PV → List Nat → List PV → List PV
  | tmps, p :: ps, a :: as => setParams (tmps.set p a) ps as
  | tmps, _, _ => tmps

/-- One call, or one round of a loop over an iterator; rn: what is called within; n: rounds of loops. -/
def runStep (P : Program) (cfg : Cfg) (rn : Run) (n : Nat) : Run := fun R tgt args st K => match tgt with
    | .fn f => match P.funcs[f]? with
      | some fn => match fn.body with
        | some c => codeK P cfg rn n c 1 { tmps := args ++ List.replicate (fn.ntmps - args.length) (.tup []), fid := f, base := st.next, obase := st.objs.length, round := none } st
            fun e fr' st' => match e with
            | .exit _ => none
            | _ => match resultPV P fn fr' st' with
              | some v => resChk P fr' st' fn.results.toList (K v st')
              | none => none
        | none => none
      | none => none
    | .round o => match st.objs[o]? with
      | some (.loop r) =>
        if r.state = .ready ∧ r.params.length = args.length then
          codeK P cfg rn n r.assign (4 * r.path + 2) { tmps := setParams r.tmps r.params args, fid := r.fid, base := st.next, obase := st.objs.length, round := some o } st
            fun e fr1 st1 => match e with
            | .normal => match st1.objs[o]? with
              | some (.loop r1) => if r1.state = .ready then
                  codeK P cfg rn n r.body (4 * r.path + 3) fr1 (setObj st1 o (.loop { r1 with state := .busy }))
                    fun e fr2 st2 => match st2.objs[o]? with
                    | some (.loop r2) => match e with
                      | .normal => K (.c (.bool true)) (setObj st2 o (.loop { r2 with state := .ready, pending := none }))
                      | .ret => K (.c (.bool false)) (setObj st2 o (.loop { r2 with state := .done, pending := some .ret }))
                      | .exit id => K (.c (.bool false)) (setObj st2 o (.loop { r2 with state := .done, pending := some (.exit id) }))
                    | _ => none
                else none
              | _ => none
            | _ => none
        else none
      | _ => none

/-- n: rounds of loops and depth of calls. -/
def runK (P : Program) (cfg : Cfg) : Nat → Run
  | 0 => fun _ _ _ _ _ => none
  | n + 1 => runStep P cfg (runK P cfg n) n

end Go.Proofs.YthhllkiefncbnaaDoorSim
