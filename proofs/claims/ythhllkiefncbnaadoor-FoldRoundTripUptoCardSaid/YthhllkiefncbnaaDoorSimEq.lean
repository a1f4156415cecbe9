/- Are two pieces of code alike? A test that the kernel can compute. -/
import GoSem.Step
namespace Go.Proofs.YthhllkiefncbnaaDoorSim
open Go
set_option linter.unusedVariables false

def listB {α : Type} (f : α → α → Bool) : List α → List α → Bool
  | [], [] => true
  | a :: x, b :: y => f a b && listB f x y
  | _, _ => false

theorem listB_eq {α : Type} {f : α → α → Bool} (hf : ∀ a b, f a b = true → a = b) : ∀ {x y : List α}, listB f x y = true → x = y
  | [], [], _ => rfl
  | a :: x, b :: y, h => by
    simp only [listB, Bool.and_eq_true] at h
    rw [hf _ _ h.1, listB_eq hf h.2]
  | [], _ :: _, h => by simp [listB] at h
  | _ :: _, [], h => by simp [listB] at h

def arrB {α : Type} (f : α → α → Bool) (x y : Array α) : Bool := listB f x.toList y.toList

theorem arrB_eq {α : Type} {f : α → α → Bool} (hf : ∀ a b, f a b = true → a = b) {x y : Array α} (h : arrB f x y = true) : x = y := by
  have := listB_eq hf h
  cases x; cases y; simp_all

def optB {α : Type} (f : α → α → Bool) : Option α → Option α → Bool
  | none, none => true
  | some a, some b => f a b
  | _, _ => false

theorem optB_eq {α : Type} {f : α → α → Bool} (hf : ∀ a b, f a b = true → a = b) : ∀ {x y : Option α}, optB f x y = true → x = y
  | none, none, _ => rfl
  | some a, some b, h => by rw [hf a b h]
  | none, some _, h => by simp [optB] at h
  | some _, none, h => by simp [optB] at h

def bytesB (s t : ByteArray) : Bool := listB (fun x y => Nat.beq x.toNat y.toNat) s.data.toList t.data.toList

theorem bytesB_eq {s t : ByteArray} (h : bytesB s t = true) : s = t := by
  have := listB_eq (f := fun (x y : UInt8) => Nat.beq x.toNat y.toNat) (fun a b (h : Nat.beq a.toNat b.toNat = true) => UInt8.toNat_inj.1 (Nat.eq_of_beq_eq_true h)) h
  cases s; cases t
  simp only [ByteArray.mk.injEq]
  rename_i a b
  cases a; cases b; simp_all

def valB : Value → Value → Bool
  | .bool x, .bool y => x == y
  | .int k x, .int k' y => k == k' && x == y
  | .string s, .string t => bytesB s t
  | .slice none x y, .slice none x' y' => x == x' && y == y'
  | .pointer none, .pointer none => true
  | .nilFunc, .nilFunc => true
  | .nilIface, .nilIface => true
  | .agg a, .agg b => a.isEmpty && b.isEmpty
  | _, _ => false

theorem valB_eq {a b : Value} (h : valB a b = true) : a = b := by
  unfold valB at h
  split at h
  · simp_all
  · simp_all
  · rw [bytesB_eq h]
  · simp_all
  all_goals first | rfl | simp_all

def opdB : Operand → Operand → Bool
  | .tmp x, .tmp y => x == y
  | .const x, .const y => valB x y
  | .global x, .global y => x == y
  | .func x, .func y => x == y
  | _, _ => false

theorem opdB_eq (a b : Operand) (h : opdB a b = true) : a = b := by
  unfold opdB at h
  split at h
  · simp_all
  · rw [valB_eq h]
  · simp_all
  · simp_all
  · cases h

def calB : Callee → Callee → Bool
  | .value x, .value y => opdB x y
  | .invoke x m, .invoke y m' => opdB x y && m == m'
  | .builtin x, .builtin y => x == y
  | _, _ => false

theorem calB_eq (a b : Callee) (h : calB a b = true) : a = b := by
  unfold calB at h
  split at h
  · rw [opdB_eq _ _ h]
  · simp only [Bool.and_eq_true, beq_iff_eq] at h; rw [opdB_eq _ _ h.1, h.2]
  · simp_all
  · cases h

def callB (a b : Call) : Bool := calB a.callee b.callee && arrB opdB a.args b.args && arrB (fun x y => Nat.beq x y) a.argTypes b.argTypes

theorem callB_eq (a b : Call) (h : callB a b = true) : a = b := by
  cases a; cases b
  simp only [callB, Bool.and_eq_true] at h
  rw [calB_eq _ _ h.1.1, arrB_eq opdB_eq h.1.2, arrB_eq (fun a b h => Nat.eq_of_beq_eq_true h) h.2]

def partB (a b : Nat × Operand) : Bool := a.1 == b.1 && opdB a.2 b.2
theorem partB_eq (a b : Nat × Operand) (h : partB a b = true) : a = b := by
  cases a; cases b
  simp only [partB, Bool.and_eq_true, beq_iff_eq] at h
  rw [h.1, opdB_eq _ _ h.2]

def opB2 : Op → Op → Bool
  | .move x, .move y => opdB x y
  | .assign x, .assign y => opdB x y
  | .pick c a b, .pick c' a' b' => opdB c c' && opdB a a' && opdB b b'
  | .alloc t, .alloc t' => t == t'
  | .box t x, .box t' x' => t == t' && opdB x x'
  | .build t p, .build t' p' => t == t' && arrB partB p p'
  | .buildSlice t n p, .buildSlice t' n' p' => t == t' && n == n' && arrB partB p p'
  | .load t x, .load t' x' => t == t' && opdB x x'
  | .store t x y, .store t' x' y' => t == t' && opdB x x' && opdB y y'
  | .nilCheck x, .nilCheck y => opdB x y
  | .binOp o t x y u, .binOp o' t' x' y' u' => o == o' && t == t' && opdB x x' && opdB y y' && u == u'
  | .unOp o t x, .unOp o' t' x' => o == o' && t == t' && opdB x x'
  | .convert s t x, .convert s' t' x' => s == s' && t == t' && opdB x x'
  | .makeFunc f p q, .makeFunc f' p' q' => f == f' && arrB opdB p p' && arrB opdB q q'
  | .makeSlice t x y, .makeSlice t' x' y' => t == t' && opdB x x' && opdB y y'
  | .slice t x a b c, .slice t' x' a' b' c' => t == t' && opdB x x' && optB opdB a a' && optB opdB b b' && optB opdB c c'
  | .fieldAddr t x n, .fieldAddr t' x' n' => t == t' && opdB x x' && n == n'
  | .field t x n, .field t' x' n' => t == t' && opdB x x' && n == n'
  | .indexAddr t x y, .indexAddr t' x' y' => t == t' && opdB x x' && opdB y y'
  | .index t x y, .index t' x' y' => t == t' && opdB x x' && opdB y y'
  | .range t x, .range t' x' => t == t' && opdB x x'
  | .next x b, .next x' b' => opdB x x' && b == b'
  | .extract x n, .extract x' n' => opdB x x' && n == n'
  | .call c, .call c' => callB c c'
  | .panic x, .panic y => opdB x y
  | _, _ => false

theorem opB2_eq (a b : Op) (h : opB2 a b = true) : a = b := by
  unfold opB2 at h
  split at h <;> first
    | (cases h; done)
    | (try simp only [Bool.and_eq_true, beq_iff_eq] at h
       have e := opdB_eq
       have e2 := fun x y (h : arrB partB x y = true) => arrB_eq partB_eq h
       have e3 := fun x y (h : arrB opdB x y = true) => arrB_eq opdB_eq h
       have e4 := fun x y (h : optB opdB x y = true) => optB_eq opdB_eq h
       have e5 := callB_eq
       congr 1 <;> first | exact e _ _ (by simp_all) | exact e2 _ _ (by simp_all) | exact e3 _ _ (by simp_all) | exact e4 _ _ (by simp_all) | exact e5 _ _ (by simp_all) | simp_all)

def edgeB (a b : Edge) : Bool := a.on == b.on && decide (a.ground = b.ground)
theorem edgeB_eq (a b : Edge) (h : edgeB a b = true) : a = b := by
  cases a; cases b; simp_all [edgeB]

def guardB (a b : Nat × Bool) : Bool := a.1 == b.1 && a.2 == b.2
theorem guardB_eq (a b : Nat × Bool) (h : guardB a b = true) : a = b := by
  cases a; cases b; simp_all [guardB]

def strB (a b : String) : Bool := bytesB a.toByteArray b.toByteArray
theorem strB_eq {a b : String} (h : strB a b = true) : a = b := by
  have := bytesB_eq h
  cases a; cases b; simp_all

def operB (a b : Oper) : Bool :=
  optB (fun x y => Nat.beq x y) a.dst b.dst && opB2 a.op b.op && a.type == b.type && strB a.pos b.pos && arrB edgeB a.after b.after && optB guardB a.guard b.guard

theorem operB_eq (a b : Oper) (h : operB a b = true) : a = b := by
  cases a; cases b
  simp only [operB, Bool.and_eq_true, beq_iff_eq] at h
  obtain ⟨⟨⟨⟨⟨h1, h2⟩, h3⟩, h4⟩, h5⟩, h6⟩ := h
  rw [optB_eq (fun a b h => Nat.eq_of_beq_eq_true h) h1, opB2_eq _ _ h2, h3, strB_eq h4, arrB_eq edgeB_eq h5, optB_eq guardB_eq h6]

def codeB : Code → Code → Bool
  | .skip, b => match b with
    | .skip => true
    | _ => false
  | .region i o d, b => match b with
    | .region i' o' d' => i == i' && arrB operB o o' && d == d'
    | _ => false
  | .seq x y, b => match b with
    | .seq x' y' => codeB x x' && codeB y y'
    | _ => false
  | .cond c x y, b => match b with
    | .cond c' x' y' => opdB c c' && codeB x x' && codeB y y'
    | _ => false
  | .block i x, b => match b with
    | .block i' x' => i == i' && codeB x x'
    | _ => false
  | .loop x, b => match b with
    | .loop x' => codeB x x'
    | _ => false
  | .rangeFunc f p x y, b => match b with
    | .rangeFunc f' p' x' y' => opdB f f' && arrB (fun x y => Nat.beq x y) p p' && codeB x x' && codeB y y'
    | _ => false
  | .scope x, b => match b with
    | .scope x' => codeB x x'
    | _ => false
  | .goto i, b => match b with
    | .goto i' => i == i'
    | _ => false
  | .exit i, b => match b with
    | .exit i' => i == i'
    | _ => false
  | .ret, b => match b with
    | .ret => true
    | _ => false
  | .label i, b => match b with
    | .label i' => i == i'
    | _ => false
  | _, _ => false

theorem codeB_eq : ∀ (a b : Code), codeB a b = true → a = b
  | .skip, b, h => by cases b <;> simp_all [codeB]
  | .region i o d, b, h => by
    cases b <;> simp only [codeB, Bool.and_eq_true, beq_iff_eq] at h <;> first | (rw [h.1.1, arrB_eq operB_eq h.1.2, h.2]) | cases h
  | .seq x y, b, h => by
    cases b <;> simp only [codeB, Bool.and_eq_true] at h <;> first | (rw [codeB_eq _ _ h.1, codeB_eq _ _ h.2]) | cases h
  | .cond c x y, b, h => by
    cases b <;> simp only [codeB, Bool.and_eq_true] at h <;> first | (rw [opdB_eq _ _ h.1.1, codeB_eq _ _ h.1.2, codeB_eq _ _ h.2]) | cases h
  | .block i x, b, h => by
    cases b <;> simp only [codeB, Bool.and_eq_true, beq_iff_eq] at h <;> first | (rw [h.1, codeB_eq _ _ h.2]) | cases h
  | .loop x, b, h => by
    cases b <;> simp only [codeB] at h <;> first | (rw [codeB_eq _ _ h]) | cases h
  | .rangeFunc f p x y, b, h => by
    cases b <;> simp only [codeB, Bool.and_eq_true] at h <;> first | (rw [opdB_eq _ _ h.1.1.1, arrB_eq (fun a b h => Nat.eq_of_beq_eq_true h) h.1.1.2, codeB_eq _ _ h.1.2, codeB_eq _ _ h.2]) | cases h
  | .exit i, b, h => by cases b <;> simp_all [codeB]
  | .ret, b, h => by cases b <;> simp_all [codeB]
  | .label i, b, h => by cases b <;> simp_all [codeB]
  | .scope x, b, h => by
    cases b <;> simp only [codeB] at h <;> first | (rw [codeB_eq _ _ h]) | cases h
  | .goto i, b, h => by cases b <;> simp_all [codeB]
  | .refuse _, b, h => by simp [codeB] at h

end Go.Proofs.YthhllkiefncbnaaDoorSim
