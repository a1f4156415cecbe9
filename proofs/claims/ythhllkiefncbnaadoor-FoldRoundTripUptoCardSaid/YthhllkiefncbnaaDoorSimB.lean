/- The relation between abstract and concrete values and states; what a step keeps. -/
import Derived.RangeFuncCalls
import Derived.RangeFuncRecord
import Derived.Below
import Derived.Laws.AppendOwn
import Derived.Laws.World
import Derived.Laws.Sem
import Derived.Test.YthhllkiefncbnaaDoorSimA
namespace Go.Proofs.YthhllkiefncbnaaDoorSim
open Go
set_option linter.unusedVariables false
set_option linter.unusedSimpArgs false

def All2 {α β : Type} (R : α → β → Prop) : List α → List β → Prop
  | [], [] => True
  | a :: x, b :: y => R a b ∧ All2 R x y
  | _, _ => False

section All2
variable {α β : Type} {R S : α → β → Prop}
theorem All2.length : ∀ {l : List α} {m : List β}, All2 R l m → l.length = m.length
  | [], [], _ => rfl
  | _ :: _, _ :: _, h => by simp [All2.length h.2]
  | [], _ :: _, h => h.elim
  | _ :: _, [], h => h.elim
theorem All2.mono (h : ∀ a b, R a b → S a b) : ∀ {l : List α} {m : List β}, All2 R l m → All2 S l m
  | [], [], _ => trivial
  | _ :: _, _ :: _, h' => ⟨h _ _ h'.1, All2.mono h h'.2⟩
  | [], _ :: _, h' => h'.elim
  | _ :: _, [], h' => h'.elim
theorem All2.mono_mem : ∀ {l : List α} {m : List β}, (∀ a ∈ l, ∀ b, R a b → S a b) → All2 R l m → All2 S l m
  | [], [], _, _ => trivial
  | a :: _, b :: _, h, h' => ⟨h a (by simp) b h'.1, All2.mono_mem (fun a ha => h a (by simp [ha])) h'.2⟩
  | [], _ :: _, _, h' => h'.elim
  | _ :: _, [], _, h' => h'.elim
theorem All2.append : ∀ {l l' : List α} {m m' : List β}, All2 R l m → All2 R l' m' → All2 R (l ++ l') (m ++ m')
  | [], _, [], _, _, h => h
  | _ :: _, _, _ :: _, _, h, h' => ⟨h.1, All2.append h.2 h'⟩
  | [], _, _ :: _, _, h, _ => h.elim
  | _ :: _, _, [], _, h, _ => h.elim
theorem All2.get : ∀ {l : List α} {m : List β}, All2 R l m → ∀ (i : Nat) (a : α), l[i]? = some a → ∃ b, m[i]? = some b ∧ R a b
  | [], [], _, i, a, h => by simp at h
  | x :: _, y :: _, h, 0, a, e => ⟨y, rfl, by simp at e; exact e ▸ h.1⟩
  | x :: _, y :: _, h, i + 1, a, e => by
    obtain ⟨b, hb, r⟩ := All2.get h.2 i a (by simpa using e)
    exact ⟨b, by simpa using hb, r⟩
  | [], _ :: _, h, _, _, _ => h.elim
  | _ :: _, [], h, _, _, _ => h.elim
theorem All2.get' : ∀ {l : List α} {m : List β}, All2 R l m → ∀ (i : Nat) (b : β), m[i]? = some b → ∃ a, l[i]? = some a ∧ R a b
  | [], [], _, i, a, h => by simp at h
  | x :: _, y :: _, h, 0, a, e => ⟨x, rfl, by simp at e; exact e ▸ h.1⟩
  | x :: _, y :: _, h, i + 1, a, e => by
    obtain ⟨b, hb, r⟩ := All2.get' h.2 i a (by simpa using e)
    exact ⟨b, by simpa using hb, r⟩
  | [], _ :: _, h, _, _, _ => h.elim
  | _ :: _, [], h, _, _, _ => h.elim
theorem All2.of_get : ∀ {l : List α} {m : List β}, l.length = m.length → (∀ (i : Nat) (a : α) (b : β), l[i]? = some a → m[i]? = some b → R a b) → All2 R l m
  | [], [], _, _ => trivial
  | a :: l, b :: m, hl, h => ⟨h 0 a b rfl rfl, All2.of_get (by simpa using hl) (fun i x y hx hy => h (i + 1) x y (by simpa using hx) (by simpa using hy))⟩
  | [], _ :: _, hl, _ => by simp at hl
  | _ :: _, [], hl, _ => by simp at hl
theorem All2.take {l : List α} {m : List β} (h : All2 R l m) (n : Nat) : All2 R (l.take n) (m.take n) := by
  refine All2.of_get (by simp [h.length]) fun i a b ha hb => ?_
  rw [List.getElem?_take] at ha hb
  split at ha
  · rename_i hi
    rw [if_pos hi] at hb
    obtain ⟨b', hb', r⟩ := h.get i a ha
    rw [hb] at hb'; cases hb'; exact r
  · cases ha
theorem All2.drop {l : List α} {m : List β} (h : All2 R l m) (n : Nat) : All2 R (l.drop n) (m.drop n) := by
  refine All2.of_get (by simp [h.length]) fun i a b ha hb => ?_
  rw [List.getElem?_drop] at ha hb
  obtain ⟨b', hb', r⟩ := h.get _ a ha
  rw [hb] at hb'; cases hb'; exact r
theorem All2.set {l : List α} {m : List β} (h : All2 R l m) (i : Nat) {a : α} {b : β} (hab : R a b) : All2 R (l.set i a) (m.set i b) := by
  refine All2.of_get (by simp [h.length]) fun j x y hx hy => ?_
  rw [List.getElem?_set] at hx hy
  by_cases e : i = j
  · subst e
    simp only [if_true] at hx hy
    split at hx
    · rename_i hi
      rw [if_pos (by rw [← h.length]; exact hi)] at hy
      cases hx; cases hy; exact hab
    · cases hx
  · rw [if_neg e] at hx hy
    obtain ⟨b', hb', r⟩ := h.get _ x hx
    rw [hy] at hb'; cases hb'; exact r
end All2

def wf (k : IntKind) (n : Int) : Prop := k.min ≤ n ∧ n ≤ k.max

/-- The ghost: blocks that are never touched; cells that never turn; where the abstract objects and the tokens' rows lie. -/
structure Row where
  v : Value
  sz : Nat
  e : TypeId

structure Gh where
  hid : Nat → Prop
  prot : Nat → Nat → Prop
  phi : Nat → Nat
  mrow : Nat → Nat × Nat
  tok : Nat → Option Row

def maxL : Nat := 9223372036854775807

def SliceR {α : Type} (w : World) (prot : Nat → Nat → Prop) (R : α → List Value → Prop) (sz : Nat) (l : List α) (v : Value) : Prop :=
  ∃ a cap, v = .slice a l.length cap ∧ l.length ≤ cap ∧ cap ≤ maxL ∧
    ∀ i x, l[i]? = some x → ∃ b off cs, a = some ⟨b, off, none⟩ ∧ R x cs ∧ cs.length = sz ∧
      ∀ j u, cs[j]? = some u → prot b (off + i * sz + j) ∧ w.cell? ⟨b, off + i * sz + j, none⟩ = some u

def StrR (l : List Int) (v : Value) : Prop := ∃ s : ByteArray, v = .string s ∧ bl s = l ∧ s.size ≤ maxL

def RelD (w : World) (prot : Nat → Nat → Prop) : (τ : Ty) → τ.den → List Value → Prop
  | .int k, n, cs => cs = [.int k n] ∧ wf k n
  | .bool, b, cs => cs = [.bool b]
  | .str, l, cs => ∃ v, cs = [v] ∧ StrR l v
  | .unit, _, cs => cs = []
  | .slice τ, l, cs => ∃ v, cs = [v] ∧ SliceR w prot (RelD w prot τ) τ.size l v
  | .pair a b, x, cs => ∃ c1 c2, cs = c1 ++ c2 ∧ RelD w prot a x.1 c1 ∧ RelD w prot b x.2 c2

def ptrV (g : Gh) (p : Nat × Nat) : Value := .pointer (some ⟨g.phi p.1, p.2, none⟩)

/-- A slice that is appended to and stored into, as a value: its block; its length and its capacity. -/
def vecV (k : Nat) (m : Nat × Nat) : Value := if m.1 = 0 then .slice none 0 0 else .slice (some ⟨k, 0, none⟩) m.1 m.2

def RelC (g : Gh) (w : World) : C → Value → Prop
  | .int k n, v => v = .int k n ∧ wf k n
  | .bool b, v => v = .bool b
  | .str l, v => StrR l v
  | .nilptr, v => v = .pointer none
  | .ptr o off, v => v = .pointer (some ⟨g.phi o, off, none⟩)
  | .eptr o i sz, v => v = .pointer (some ⟨g.phi o, i * sz, none⟩)
  | .gptr n off, v => v = .pointer (some ⟨n, off, none⟩)
  | .aptr o off n i k, v => v = .pointer (some ⟨g.phi o, off + i, none⟩)
  | .nils, v => v = .slice none 0 0
  | .slice t τ l, v => SliceR w g.prot (RelD w g.prot τ) τ.size l v ∧ ∀ k r, t = .own k → g.tok k = some r → v = r.v ∧ r.sz = τ.size
  | .mslice o, v => v = .slice (some ⟨g.phi o, 0, none⟩) (g.mrow o).1 (g.mrow o).2
  | .vslice o, v => v = vecV (g.phi o) (g.mrow o)
  | .fptr o i sz f, v => v = .pointer (some ⟨g.phi o, i * sz + f, none⟩)
  | .func f caps, v => v = .func (.func f) #[] (caps.map (ptrV g)).toArray
  | .yield o, v => v = .func (.yield (g.phi o)) #[] #[]
  | .nilfunc, v => v = .nilFunc
  | .niliface, v => v = .nilIface

def RelPart (g : Gh) (w : World) : C ⊕ List C → Value → Prop
  | .inl x, v => RelC g w x v
  | .inr cs, v => ∃ vs, v = .agg vs.toArray ∧ All2 (RelC g w) cs vs

def RelPV (g : Gh) (w : World) : PV → Value → Prop
  | .any, _ => True
  | .c x, v => RelC g w x v
  | .agg cs, v => ∃ vs, v = .agg vs.toArray ∧ All2 (RelC g w) cs vs
  | .tup ps, v => ∃ vs, v = .tuple vs.toArray ∧ All2 (RelPart g w) ps vs
  | .rptr cs, v => ∃ b off vs, v = .pointer (some ⟨b, off, none⟩) ∧ All2 (RelC g w) cs vs ∧
      ∀ j u, vs[j]? = some u → g.prot b (off + j) ∧ w.cell? ⟨b, off + j, none⟩ = some u

/-- The cells of a row: element after element. -/
def RowR {α : Type} (R : α → List Value → Prop) (sz : Nat) (l : List α) (vs : List Value) : Prop :=
  l.length * sz ≤ vs.length ∧ ∀ i x, l[i]? = some x → R x ((vs.drop (i * sz)).take sz)

def ObjOk (g : Gh) (w : World) (o : Nat) : AObj → Prop
  | .cells cs => (∀ off, ¬ g.prot (g.phi o) off) ∧ ∃ vs ty, w.heap[g.phi o]? = some (.cells vs.toArray ty (0, 0)) ∧ All2 (RelC g w) cs vs
  | .row τ l fz => (fz = false → ∀ off, ¬ g.prot (g.phi o) off) ∧ (fz = true → ∀ off, g.prot (g.phi o) off) ∧
      ∃ vs ty fr cap, w.heap[g.phi o]? = some (.cells vs.toArray ty fr) ∧ (fr.1 < fr.2 → vs.length ≤ fr.1) ∧ g.mrow o = (l.length, cap) ∧ l.length ≤ cap ∧ cap ≤ maxL ∧ RowR (RelD w g.prot τ) τ.size l vs
  | .vec τ l fz => ∃ cap, g.mrow o = (l.length, cap) ∧ (l ≠ [] → τ.size ≠ 0 ∧ (fz = false → ∀ off, ¬ g.prot (g.phi o) off) ∧ (fz = true → ∀ off, g.prot (g.phi o) off) ∧
      ∃ vs ty, w.heap[g.phi o]? = some (.cells vs.toArray ty (0, 0)) ∧ vs.length = cap * τ.size ∧ l.length ≤ cap ∧ cap ≤ maxL ∧ RowR (RelD w g.prot τ) τ.size l vs)
  | .dead => True
  | .loop r => (∀ off, ¬ g.prot (g.phi o) off) ∧ ∃ fid tmps D, w.heap[g.phi o]? = some (.loop { state := r.state, pending := r.pending, fn := fid, tmps := tmps, params := r.params.toArray, assign := r.assign, body := r.body, defers := D }) ∧
      All2 (RelPV g w) r.tmps tmps.toList
  | .siter l pos => (∀ off, ¬ g.prot (g.phi o) off) ∧ ∃ s, w.heap[g.phi o]? = some (.stringIter s pos) ∧ bl s = l ∧ s.size ≤ maxL

def Row.block (r : Row) : Option Nat :=
  match r.v with
  | .slice (some a) _ _ => some a.block
  | _ => none

def RowOk (g : Gh) (w : World) (r : Row) : Prop :=
  r.v = .slice none 0 0 ∨
  ∃ b n cap cur, r.v = .slice (some ⟨b, 0, none⟩) n cap ∧ w.heap[b]? = some (.cells cur r.e (0, 0)) ∧ cur.size = cap * r.sz ∧ n ≤ cap ∧ cap ≤ maxL ∧ ¬ g.hid b ∧
    ∀ off, n * r.sz ≤ off → ¬ g.prot b off

def belowObj (base : Nat → Bool) (m : Nat) : AObj → Prop
  | .cells cs => ∀ x ∈ cs, belowC base m x = true
  | .loop r => ∀ x ∈ r.tmps, belowPV base m x = true
  | _ => True

/-- A package-level variable holds what is listed, and is never written. -/
def GlobAt (g : Gh) (w : World) (n : Nat) (cs : List C) : Prop := (∀ x ∈ cs, belowC (fun _ => false) 0 x = true) ∧
  ∃ vs, All2 (RelC g w) cs vs ∧ ∀ j u, vs[j]? = some u → g.prot n j ∧ w.cell? ⟨n, j, none⟩ = some u

/-- An object that has a block of its own. -/
def solid : AObj → Prop
  | .vec _ l _ => l ≠ []
  | .dead => False
  | _ => True

def Sol (l : List AObj) (o : Nat) : Prop := ∃ x, l[o]? = some x ∧ solid x

theorem Sol.lt {l : List AObj} {o : Nat} (h : Sol l o) : o < l.length := by
  obtain ⟨x, h, _⟩ := h
  exact (List.getElem?_eq_some_iff.1 h).1

structure Inv (g : Gh) (b : Nat → Bool) (st : St) (w : World) : Prop where
  objs : ∀ (o : Nat) (x : AObj), st.objs[o]? = some x → ObjOk g w o x
  ohid : ∀ o, Sol st.objs o → ¬ g.hid (g.phi o)
  inj : ∀ o o', Sol st.objs o → Sol st.objs o' → g.phi o = g.phi o' → o = o'
  below : ∀ (o : Nat) (x : AObj), st.objs[o]? = some x → belowObj b st.objs.length x
  toks : ∀ t, t ∈ st.live → ∃ r, g.tok t = some r ∧ RowOk g w r
  dead : ∀ t, t ∉ st.live → g.tok t = none
  lt : ∀ t, t ∈ st.live → b t = true
  dist : ∀ t t' r r' b, g.tok t = some r → g.tok t' = some r' → r.block = some b → r'.block = some b → t = t'
  sep : ∀ t r b o, g.tok t = some r → r.block = some b → Sol st.objs o → g.phi o ≠ b
  hidLt : ∀ b, g.hid b → b < w.heap.size
  protEx : ∀ b off, g.prot b off → b < w.heap.size
  glob : ∀ n cs, globC n = some cs → GlobAt g w n cs

/-- What a stretch of the run keeps, for tokens below b and objects below m. -/
structure Ext (b : Nat → Bool) (m : Nat) (g : Gh) (w : World) (g' : Gh) (w' : World) : Prop where
  os : w'.os = w.os
  tape : w'.tape = w.tape
  output : w'.output = w.output
  size : w.heap.size ≤ w'.heap.size
  hid : ∀ k, g.hid k → g'.hid k
  hidden : ∀ k, g.hid k → w'.heap[k]? = w.heap[k]?
  cells : ∀ k off, g.prot k off → w'.cell? ⟨k, off, none⟩ = w.cell? ⟨k, off, none⟩
  prot : ∀ k off, g.prot k off → g'.prot k off
  newp : ∀ k off, g.hid k → g'.prot k off → g.prot k off
  phi : ∀ o, o < m → g'.phi o = g.phi o
  mrow : ∀ o, o < m → g'.mrow o = g.mrow o
  tok : ∀ t, b t = true → g'.tok t = g.tok t ∨ g'.tok t = none

theorem Ext.refl (b : Nat → Bool) (m : Nat) (g : Gh) (w : World) : Ext b m g w g w :=
  ⟨rfl, rfl, rfl, Nat.le_refl _, fun _ h => h, fun _ _ => rfl, fun _ _ _ => rfl, fun _ _ h => h, fun _ _ _ h => h, fun _ _ => rfl, fun _ _ => rfl, fun _ _ => .inl rfl⟩

theorem Ext.trans {b : Nat → Bool} {m : Nat} {g1 g2 g3 : Gh} {w1 w2 w3 : World} (h : Ext b m g1 w1 g2 w2) (k : Ext b m g2 w2 g3 w3) : Ext b m g1 w1 g3 w3 where
  os := k.os.trans h.os
  tape := k.tape.trans h.tape
  output := k.output.trans h.output
  size := Nat.le_trans h.size k.size
  hid := fun x hx => k.hid x (h.hid x hx)
  hidden := fun x hx => (k.hidden x (h.hid x hx)).trans (h.hidden x hx)
  cells := fun x o hx => (k.cells x o (h.prot x o hx)).trans (h.cells x o hx)
  prot := fun x o hx => k.prot x o (h.prot x o hx)
  newp := fun x o hx hp => h.newp x o hx (k.newp x o (h.hid x hx) hp)
  phi := fun o ho => (k.phi o ho).trans (h.phi o ho)
  mrow := fun o ho => (k.mrow o ho).trans (h.mrow o ho)
  tok := fun t ht => by
    rcases k.tok t ht with e | e
    · rw [e]; exact h.tok t ht
    · exact .inr e

theorem Ext.weaken {b b' : Nat → Bool} {m m' : Nat} {g g' : Gh} {w w' : World} (h : Ext b m g w g' w') (hb : ∀ t, b' t = true → b t = true) (hm : m' ≤ m) : Ext b' m' g w g' w' :=
  { h with phi := fun o ho => h.phi o (by omega), mrow := fun o ho => h.mrow o (by omega), tok := fun t ht => h.tok t (hb t ht) }

/-! ### What is related stays related -/
theorem SliceR.mono {α : Type} {w w' : World} {prot prot' : Nat → Nat → Prop} {R R' : α → List Value → Prop} {sz : Nat} {l : List α} {v : Value}
    (hR : ∀ x cs, R x cs → R' x cs) (hp : ∀ k off, prot k off → prot' k off) (hc : ∀ k off, prot k off → w'.cell? ⟨k, off, none⟩ = w.cell? ⟨k, off, none⟩)
    (h : SliceR w prot R sz l v) : SliceR w' prot' R' sz l v := by
  obtain ⟨a, cap, hv, h1, h2, h3⟩ := h
  refine ⟨a, cap, hv, h1, h2, fun i x hx => ?_⟩
  obtain ⟨b, off, cs, ha, hr, hl, hall⟩ := h3 i x hx
  exact ⟨b, off, cs, ha, hR _ _ hr, hl, fun j u hu => ⟨hp _ _ (hall j u hu).1, (hc _ _ (hall j u hu).1).trans (hall j u hu).2⟩⟩

theorem RelD.mono {w w' : World} {prot prot' : Nat → Nat → Prop}
    (hp : ∀ k off, prot k off → prot' k off) (hc : ∀ k off, prot k off → w'.cell? ⟨k, off, none⟩ = w.cell? ⟨k, off, none⟩) :
    ∀ (τ : Ty) (x : τ.den) (cs : List Value), RelD w prot τ x cs → RelD w' prot' τ x cs
  | .int _, _, _, h => h
  | .bool, _, _, h => h
  | .str, _, _, h => h
  | .unit, _, _, h => h
  | .slice τ, l, cs, h => by
    obtain ⟨v, hv, hs⟩ := h
    exact ⟨v, hv, hs.mono (fun x cs => RelD.mono hp hc τ x cs) hp hc⟩
  | .pair a b, x, cs, h => by
    obtain ⟨c1, c2, e, h1, h2⟩ := h
    exact ⟨c1, c2, e, RelD.mono hp hc a _ _ h1, RelD.mono hp hc b _ _ h2⟩

theorem RelD.length {w : World} {prot : Nat → Nat → Prop} : ∀ (τ : Ty) (x : τ.den) (cs : List Value), RelD w prot τ x cs → cs.length = τ.size
  | .int _, _, _, h => by rw [h.1]; rfl
  | .bool, _, _, h => by rw [show _ = _ from h]; rfl
  | .str, _, _, h => by obtain ⟨v, e, _⟩ := h; rw [e]; rfl
  | .unit, _, _, h => by rw [show _ = _ from h]; rfl
  | .slice _, _, _, h => by obtain ⟨v, e, _⟩ := h; rw [e]; rfl
  | .pair a b, x, cs, h => by
    obtain ⟨c1, c2, e, h1, h2⟩ := h
    rw [e, List.length_append, RelD.length a _ _ h1, RelD.length b _ _ h2]; rfl

variable {g g' : Gh} {w w' : World} {b : Nat → Bool} {m : Nat}

theorem ptrV_ext (h : Ext b m g w g' w') {p : Nat × Nat} (hp : p.1 < m) : ptrV g' p = ptrV g p := by
  unfold ptrV; rw [h.phi _ hp]

theorem RelC.mono (h : Ext b m g w g' w') : ∀ {x : C} {v : Value}, belowC b m x = true → RelC g w x v → RelC g' w' x v
  | .int _ _, _, _, hr => hr
  | .bool _, _, _, hr => hr
  | .str _, _, _, hr => hr
  | .nilptr, _, _, hr => hr
  | .ptr o off, _, hb, hr => by
    simp only [belowC, decide_eq_true_eq] at hb
    simp only [RelC] at hr ⊢; rw [h.phi _ hb]; exact hr
  | .eptr o i z, _, hb, hr => by
    simp only [belowC, decide_eq_true_eq] at hb
    simp only [RelC] at hr ⊢; rw [h.phi _ hb]; exact hr
  | .gptr _ _, _, _, hr => hr
  | .aptr o f n i k, _, hb, hr => by
    simp only [belowC, decide_eq_true_eq] at hb
    simp only [RelC] at hr ⊢; rw [h.phi _ hb]; exact hr
  | .nils, _, _, hr => hr
  | .slice t τ l, v, hb, hr => by
    refine ⟨hr.1.mono (fun x cs => RelD.mono h.prot h.cells τ x cs) h.prot h.cells, fun k r ht hk => ?_⟩
    subst ht
    simp only [belowC] at hb
    rcases h.tok k hb with e | e
    · exact hr.2 k r rfl (e ▸ hk)
    · rw [e] at hk; cases hk
  | .mslice o, _, hb, hr => by
    simp only [belowC, decide_eq_true_eq] at hb
    simp only [RelC] at hr ⊢; rw [h.phi _ hb, h.mrow _ hb]; exact hr
  | .vslice o, _, hb, hr => by
    simp only [belowC, decide_eq_true_eq] at hb
    simp only [RelC] at hr ⊢; rw [h.phi _ hb, h.mrow _ hb]; exact hr
  | .fptr o i z f, _, hb, hr => by
    simp only [belowC, decide_eq_true_eq] at hb
    simp only [RelC] at hr ⊢; rw [h.phi _ hb]; exact hr
  | .func f caps, _, hb, hr => by
    simp only [belowC, List.all_eq_true, decide_eq_true_eq] at hb
    simp only [RelC] at hr ⊢
    rw [hr]
    congr 2
    exact List.map_congr_left fun p hp => (ptrV_ext h (hb p hp)).symm
  | .yield o, _, hb, hr => by
    simp only [belowC, decide_eq_true_eq] at hb
    simp only [RelC] at hr ⊢; rw [h.phi _ hb]; exact hr
  | .nilfunc, _, _, hr => hr
  | .niliface, _, _, hr => hr

theorem RelCs.mono (h : Ext b m g w g' w') {cs : List C} {vs : List Value} (hb : ∀ x ∈ cs, belowC b m x = true) (hr : All2 (RelC g w) cs vs) : All2 (RelC g' w') cs vs :=
  All2.mono_mem (fun a ha _ hr => RelC.mono h (hb a ha) hr) hr

theorem RelPart.mono (h : Ext b m g w g' w') {p : C ⊕ List C} {v : Value} (hb : ∀ x ∈ partCells p, belowC b m x = true) (hr : RelPart g w p v) : RelPart g' w' p v := by
  cases p with
  | inl x => exact RelC.mono h (hb x (by simp [partCells])) hr
  | inr cs => obtain ⟨vs, e, hr⟩ := hr; exact ⟨vs, e, RelCs.mono h (fun x hx => hb x hx) hr⟩

theorem RelPV.mono (h : Ext b m g w g' w') : ∀ {x : PV} {v : Value}, belowPV b m x = true → RelPV g w x v → RelPV g' w' x v
  | .any, _, _, _ => trivial
  | .c x, _, hb, hr => RelC.mono h hb hr
  | .agg cs, _, hb, ⟨vs, e, hr⟩ => ⟨vs, e, RelCs.mono h (by simpa [belowPV] using hb) hr⟩
  | .tup ps, _, hb, ⟨vs, e, hr⟩ => ⟨vs, e, All2.mono_mem (fun p hp v hr => RelPart.mono h (by
      simp only [belowPV, List.all_eq_true] at hb; exact hb p hp) hr) hr⟩
  | .rptr cs, _, hb, ⟨k, off, vs, e, hr, hall⟩ => ⟨k, off, vs, e, RelCs.mono h (by simpa [belowPV] using hb) hr,
      fun j u hu => ⟨h.prot _ _ (hall j u hu).1, (h.cells _ _ (hall j u hu).1).trans (hall j u hu).2⟩⟩

theorem belowC.mono {b b' : Nat → Bool} {m m' : Nat} (hb : ∀ t, b t = true → b' t = true) (hm : m ≤ m') : ∀ {x : C}, belowC b m x = true → belowC b' m' x = true := by
  intro x h
  cases x <;> simp only [belowC, decide_eq_true_eq, List.all_eq_true] at h ⊢
  case slice t τ l =>
    cases t with
    | ro => rfl
    | own t => exact hb t h
  all_goals first | omega | (intro p hp; have := h p hp; omega)

theorem belowPV.mono {b b' : Nat → Bool} {m m' : Nat} (hb : ∀ t, b t = true → b' t = true) (hm : m ≤ m') : ∀ {x : PV}, belowPV b m x = true → belowPV b' m' x = true := by
  intro x h
  cases x with
  | any => rfl
  | c x => exact belowC.mono hb hm h
  | agg cs => simp only [belowPV, List.all_eq_true] at h ⊢; exact fun x hx => belowC.mono hb hm (h x hx)
  | rptr cs => simp only [belowPV, List.all_eq_true] at h ⊢; exact fun x hx => belowC.mono hb hm (h x hx)
  | tup ps => simp only [belowPV, List.all_eq_true] at h ⊢; exact fun p hp x hx => belowC.mono hb hm (h p hp x hx)

/-- What is told without the state's objects and tokens. -/
theorem RelC.closed (hp : ∀ k off, g.prot k off → g'.prot k off) (hc : ∀ k off, g.prot k off → w'.cell? ⟨k, off, none⟩ = w.cell? ⟨k, off, none⟩) : ∀ {x : C} {v : Value}, belowC (fun _ => false) 0 x = true → RelC g w x v → RelC g' w' x v
  | .int _ _, _, _, hr => hr
  | .bool _, _, _, hr => hr
  | .str _, _, _, hr => hr
  | .nilptr, _, _, hr => hr
  | .ptr o off, _, hb, hr => by simp [belowC] at hb
  | .eptr o i z, _, hb, hr => by simp [belowC] at hb
  | .gptr _ _, _, _, hr => hr
  | .aptr o f n i k, _, hb, hr => by simp [belowC] at hb
  | .nils, _, _, hr => hr
  | .slice t τ l, v, hb, hr => by
    refine ⟨hr.1.mono (fun x cs => RelD.mono hp hc τ x cs) hp hc, fun k r ht hk => ?_⟩
    subst ht
    simp [belowC] at hb
  | .mslice o, _, hb, hr => by simp [belowC] at hb
  | .vslice o, _, hb, hr => by simp [belowC] at hb
  | .fptr o i z f, _, hb, hr => by simp [belowC] at hb
  | .func f caps, _, hb, hr => by
    simp only [belowC, List.all_eq_true, decide_eq_true_eq] at hb
    have : caps = [] := by
      cases caps with
      | nil => rfl
      | cons p l => exact absurd (hb p (by simp)) (by omega)
    subst this
    exact hr
  | .yield o, _, hb, hr => by simp [belowC] at hb
  | .nilfunc, _, _, hr => hr
  | .niliface, _, _, hr => hr

theorem GlobAt.mono (hp : ∀ k off, g.prot k off → g'.prot k off) (hc : ∀ k off, g.prot k off → w'.cell? ⟨k, off, none⟩ = w.cell? ⟨k, off, none⟩) {n : Nat} {cs : List C} (hr : GlobAt g w n cs) : GlobAt g' w' n cs := by
  obtain ⟨hb, vs, h1, h2⟩ := hr
  exact ⟨hb, vs, All2.mono_mem (fun x hx v hr => RelC.closed hp hc (hb x hx) hr) h1, fun j u hu => ⟨hp _ _ (h2 j u hu).1, (hc _ _ (h2 j u hu).1).trans (h2 j u hu).2⟩⟩

theorem belowObj.mono {b b' : Nat → Bool} {m m' : Nat} (hb : ∀ t, b t = true → b' t = true) (hm : m ≤ m') {x : AObj} (h : belowObj b m x) : belowObj b' m' x := by
  cases x with
  | cells cs => exact fun x hx => belowC.mono hb hm (h x hx)
  | loop r => exact fun x hx => belowPV.mono hb hm (h x hx)
  | _ => trivial

/-- A cell's value is the value of one cell. -/
theorem RelC.one : ∀ {x : C} {v : Value}, RelC g w x v → v.oneCell' = true := by
  intro x v h
  cases x <;> simp only [RelC] at h
  case str => obtain ⟨s, e, _⟩ := h; rw [e]; rfl
  case slice => obtain ⟨⟨a, cap, e, _⟩, _⟩ := h; rw [e]; rfl
  case vslice => rw [h, vecV]; split <;> rfl
  case int => rw [h.1]; rfl
  all_goals (rw [h]; rfl)

theorem RelD.one {prot : Nat → Nat → Prop} : ∀ (τ : Ty) (x : τ.den) (cs : List Value), RelD w prot τ x cs → ∀ u ∈ cs, u.oneCell' = true
  | .int _, _, _, h, u, hu => by rw [h.1] at hu; simp at hu; subst hu; rfl
  | .bool, _, _, h, u, hu => by rw [show _ = _ from h] at hu; simp at hu; subst hu; rfl
  | .str, _, _, h, u, hu => by obtain ⟨v, e, s, hs, _⟩ := h; rw [e] at hu; simp at hu; subst hu; rw [hs]; rfl
  | .unit, _, _, h, u, hu => by rw [show _ = _ from h] at hu; simp at hu
  | .slice _, _, _, h, u, hu => by obtain ⟨v, e, a, cap, hs, _⟩ := h; rw [e] at hu; simp at hu; subst hu; rw [hs]; rfl
  | .pair a b, x, cs, h, u, hu => by
    obtain ⟨c1, c2, e, h1, h2⟩ := h
    rw [e] at hu
    rcases List.mem_append.1 hu with hu | hu
    · exact RelD.one a _ _ h1 u hu
    · exact RelD.one b _ _ h2 u hu

/-- A told element, as cells. -/
theorem toCells_rel : ∀ (τ : Ty) (x : τ.den) (cs : List Value), RelD w g.prot τ x cs → All2 (RelC g w) (toCells τ x) cs
  | .int _, _, _, h => by rw [h.1]; exact ⟨⟨rfl, h.2⟩, trivial⟩
  | .bool, _, _, h => by rw [show _ = _ from h]; exact ⟨rfl, trivial⟩
  | .str, _, _, h => by obtain ⟨v, e, hs⟩ := h; rw [e]; exact ⟨hs, trivial⟩
  | .unit, _, _, h => by rw [show _ = _ from h]; exact trivial
  | .slice _, _, _, h => by obtain ⟨v, e, hs⟩ := h; rw [e]; exact ⟨⟨hs, fun k r ht _ => by cases ht⟩, trivial⟩
  | .pair a b, x, cs, h => by
    obtain ⟨c1, c2, e, h1, h2⟩ := h
    rw [e]
    exact All2.append (toCells_rel a _ _ h1) (toCells_rel b _ _ h2)

theorem castL_eq {τ τ' : Ty} {l : List τ'.den} {l' : List τ.den} (h : castL τ τ' l = some l') : ∃ e : τ' = τ, l' = e ▸ l := by
  unfold castL at h
  split at h
  · rename_i e; exact ⟨e, by simpa using h.symm⟩
  · cases h

theorem ofCells_rel : ∀ (τ : Ty) (cs : List C) (x : τ.den) (r : List C) (vs : List Value), ofCells τ cs = some (x, r) → All2 (RelC g w) cs vs →
    ∃ v1 v2, vs = v1 ++ v2 ∧ RelD w g.prot τ x v1 ∧ All2 (RelC g w) r v2
  | .int k, cs, x, r, vs, h, hr => by
    match cs, vs, h, hr with
    | .int k' n :: rest, v :: vs, h, hr =>
      simp only [ofCells] at h
      split at h
      · rename_i e; subst e
        simp only [Option.some.injEq, Prod.mk.injEq] at h
        obtain ⟨rfl, rfl⟩ := h
        exact ⟨[v], vs, rfl, ⟨by rw [hr.1.1], hr.1.2⟩, hr.2⟩
      · cases h
  | .bool, cs, x, r, vs, h, hr => by
    match cs, vs, h, hr with
    | .bool b :: rest, v :: vs, h, hr =>
      simp only [ofCells, Option.some.injEq, Prod.mk.injEq] at h
      obtain ⟨rfl, rfl⟩ := h
      exact ⟨[v], vs, rfl, by show _ = _; rw [show v = _ from hr.1], hr.2⟩
  | .str, cs, x, r, vs, h, hr => by
    match cs, vs, h, hr with
    | .str l :: rest, v :: vs, h, hr =>
      simp only [ofCells, Option.some.injEq, Prod.mk.injEq] at h
      obtain ⟨rfl, rfl⟩ := h
      exact ⟨[v], vs, rfl, ⟨v, rfl, hr.1⟩, hr.2⟩
  | .unit, cs, x, r, vs, h, hr => by
    simp only [ofCells, Option.some.injEq, Prod.mk.injEq] at h
    obtain ⟨_, rfl⟩ := h
    exact ⟨[], vs, rfl, rfl, hr⟩
  | .slice τ, cs, x, r, vs, h, hr => by
    match cs, vs, h, hr with
    | .nils :: rest, v :: vs, h, hr =>
      simp only [ofCells, Option.some.injEq, Prod.mk.injEq] at h
      obtain ⟨rfl, rfl⟩ := h
      exact ⟨[v], vs, rfl, ⟨v, rfl, none, 0, hr.1, Nat.le_refl _, by simp [maxL], fun i x hx => by simp at hx⟩, hr.2⟩
    | .slice t τ' l :: rest, v :: vs, h, hr =>
      simp only [ofCells] at h
      split at h
      · rename_i l' e
        simp only [Option.some.injEq, Prod.mk.injEq] at h
        obtain ⟨rfl, rfl⟩ := h
        obtain ⟨rfl, rfl⟩ := castL_eq e
        exact ⟨[v], vs, rfl, ⟨v, rfl, hr.1.1⟩, hr.2⟩
      · cases h
  | .pair a b, cs, x, r, vs, h, hr => by
    simp only [ofCells] at h
    split at h
    · rename_i y r1 e1
      split at h
      · rename_i z r2 e2
        simp only [Option.some.injEq, Prod.mk.injEq] at h
        obtain ⟨rfl, rfl⟩ := h
        obtain ⟨v1, v2, rfl, h1, hr1⟩ := ofCells_rel a cs y r1 vs e1 hr
        obtain ⟨v3, v4, rfl, h2, hr2⟩ := ofCells_rel b r1 z _ v2 e2 hr1
        exact ⟨v1 ++ v3, v4, by simp, ⟨v1, v3, rfl, h1, h2⟩, hr2⟩
      · cases h
    · cases h

end Go.Proofs.YthhllkiefncbnaaDoorSim
