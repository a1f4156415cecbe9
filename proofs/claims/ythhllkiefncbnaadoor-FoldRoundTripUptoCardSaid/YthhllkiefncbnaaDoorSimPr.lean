/- What is asked of a program: the functions without a Go body. -/
import Derived.Test.YthhllkiefncbnaaDoorSimSh
import Derived.Lib.BytesEntry
import Derived.KernelRfl
namespace Go.Proofs.YthhllkiefncbnaaDoorSim
open Go
set_option linter.unusedVariables false
set_option linter.unusedSimpArgs false

variable {P : Program} {g : Gh} {w : World}

theorem byte_eq {x : UInt8} {c : Int} (h0 : 0 ≤ c) (h1 : c ≤ 255) : ((x.toNat : Int) == c) = (x == c.toNat.toUInt8) := by
  have hx := x.toNat_lt
  obtain ⟨n, rfl⟩ := Int.eq_ofNat_of_zero_le h0
  have hn : n < 256 := by omega
  rw [Bool.eq_iff_iff]
  simp only [beq_iff_eq, Int.toNat_natCast]
  constructor
  · intro h
    have h : x.toNat = n := by exact_mod_cast h
    subst h
    simp
  · intro h
    subst h
    simp [Nat.mod_eq_of_lt hn]

theorem indexByteL_eq (c : Int) (h0 : 0 ≤ c) (h1 : c ≤ 255) : ∀ l : List UInt8, indexByteL (l.map fun b => (b.toNat : Int)) c = Lib.indexByte l c.toNat.toUInt8
  | [] => rfl
  | b :: l => by
    have ih := indexByteL_eq c h0 h1 l
    unfold indexByteL at ih ⊢
    simp only [List.map_cons, List.findIdx?_cons, byte_eq h0 h1]
    unfold Lib.indexByte
    by_cases hb : (b == c.toNat.toUInt8) = true
    · simp [hb]
    · simp only [Bool.not_eq_true] at hb
      simp only [hb, Bool.false_eq_true, if_false]
      rw [← ih]
      cases hf : List.findIdx? (fun x => x == c) (l.map fun b => (b.toNat : Int)) with
      | none => simp
      | some i =>
        have : ((i : Int) == -1) = false := by rw [beq_eq_false_iff_ne]; omega
        simp [this]

theorem wf_byte {n : Int} (h : wf .u8 n) : 0 ≤ n ∧ n ≤ 255 := by
  have e1 : IntKind.u8.min = 0 := by decide
  have e2 : IntKind.u8.max = 255 := by decide
  unfold wf at h
  rw [e1, e2] at h
  exact h

theorem indexByte_ge {l : List Int} {c : Int} : -1 ≤ indexByteL l c ∧ indexByteL l c ≤ l.length := by
  unfold indexByteL
  cases hf : l.findIdx? (· == c) with
  | none => simp
  | some i =>
    have := List.findIdx?_eq_some_iff_getElem.1 hf
    obtain ⟨h, _⟩ := this
    simp; omega

theorem wf_index {l : List Int} {c : Int} (h : l.length ≤ maxL) : wf .i64 (indexByteL l c) := by
  have e1 : IntKind.i64.min = -9223372036854775808 := by decide
  have e2 : IntKind.i64.max = 9223372036854775807 := by decide
  have := @indexByte_ge l c
  unfold maxL at h
  exact ⟨by rw [e1]; omega, by rw [e2]; omega⟩

/-- The entry, at whatever the interpreter takes it at. -/
theorem indexByte_ok {args : List PV} {v : PV} {name : String} (h : extC name args = some v) {vals : List Value} (hr : All2 (RelPV g w) args vals) :
    ∃ u, (Extern.BytealgIndexByte.indexByte vals.toArray).run P w = .ok u w ∧ (∀ (g : Gh) (w : World), RelPV g w v u) ∧ ∀ (b : Nat → Bool) (m : Nat), belowPV b m v = true := by
  unfold extC at h
  split at h
  · split at h
    · rename_i tk l c
      cases h
      match vals, hr with
      | [x, y], hr =>
        obtain ⟨hx, hy, _⟩ := hr
        obtain ⟨rfl, hw⟩ := hy
        obtain ⟨hc0, hc1⟩ := wf_byte hw
        obtain ⟨⟨a, cap, rfl, hle, hcap, hall⟩, _⟩ := hx
        have hlm : l.length ≤ maxL := Nat.le_trans hle hcap
        refine ⟨.int .i64 (indexByteL l c), ?_, fun _ _ => ⟨rfl, wf_index hlm⟩, fun _ _ => rfl⟩
        cases l with
        | nil =>
          cases a with
          | none => rfl
          | some a => rfl
        | cons z l =>
          obtain ⟨bk, off, cs, rfl, _⟩ := hall 0 z rfl
          have key : ∀ i x, (z :: l)[i]? = some x → w.cell? ⟨bk, off + i, none⟩ = some (.int .u8 x) ∧ wf .u8 x := fun i x hx => by
            obtain ⟨b', o', cs', e, hd, _, hc⟩ := hall i x hx
            cases e
            have e1 : cs' = [.int .u8 x] := hd.1
            subst e1
            have := (hc 0 _ rfl).2
            simp only [Ty.size, Nat.mul_one, Nat.add_zero] at this
            exact ⟨this, hd.2⟩
          rw [show [Value.slice (some ⟨bk, off, none⟩) (z :: l).length cap, .int .u8 c].toArray = #[.slice (some ⟨bk, off, none⟩) (z :: l).length cap, .int .u8 c] from rfl]
          rw [Lib.run_indexByteSlice (P := P) w bk off (z :: l).length cap (z :: l) rfl (fun i hi => by
            have := key i _ (List.getElem?_eq_getElem hi)
            rw [this.1, List.getD_eq_getElem?_getD, List.getElem?_eq_getElem hi]; rfl) c]
          congr 2
          rw [← indexByteL_eq c hc0 hc1]
          congr 1
          unfold Lib.bytesOf
          rw [List.map_map]
          conv => rhs; rw [← List.map_id (z :: l)]
          refine List.map_congr_left fun x hx => ?_
          obtain ⟨i, hi⟩ := List.getElem?_of_mem hx
          obtain ⟨x0, x1⟩ := wf_byte (key i x hi).2
          show ((x.toNat.toUInt8).toNat : Int) = x
          simp
          omega
    · rename_i c
      cases h
      match vals, hr with
      | [x, y], hr =>
        obtain ⟨hx, hy, _⟩ := hr
        obtain ⟨rfl, hw⟩ := hy
        have hx : x = .slice none 0 0 := hx
        subst hx
        exact ⟨.int .i64 (-1), rfl, fun _ _ => ⟨rfl, by unfold wf; decide⟩, fun _ _ => rfl⟩
    · cases h
  · split at h
    · split at h
      · rename_i l c
        cases h
        match vals, hr with
        | [x, y], hr =>
          obtain ⟨hx, hy, _⟩ := hr
          obtain ⟨rfl, hw⟩ := hy
          obtain ⟨hc0, hc1⟩ := wf_byte hw
          obtain ⟨s, rfl, rfl, hs⟩ := hx
          refine ⟨.int .i64 (indexByteL (bl s) c), ?_, fun _ _ => ⟨rfl, wf_index (by rw [bl_length]; exact hs)⟩, fun _ _ => rfl⟩
          rw [show [Value.string s, .int .u8 c].toArray = #[.string s, .int .u8 c] from rfl, Lib.run_indexByteString (P := P) s c w]
          congr 2
          exact (indexByteL_eq c hc0 hc1 _).symm
      · cases h
    · cases h

theorem gen1 : Extern.allGenericRows.lookup "internal/bytealg.IndexByte" = none := by kernel_rfl
theorem gen2 : Extern.allGenericRows.lookup "internal/bytealg.IndexByteString" = none := by kernel_rfl
theorem typ1 : Extern.allTypedRows.lookup "internal/bytealg.IndexByte" = none := by kernel_rfl
theorem typ2 : Extern.allTypedRows.lookup "internal/bytealg.IndexByteString" = none := by kernel_rfl
theorem all1 : Extern.allRows.lookup "internal/bytealg.IndexByte" = some Extern.BytealgIndexByte.indexByte := by kernel_rfl
theorem all2 : Extern.allRows.lookup "internal/bytealg.IndexByteString" = some Extern.BytealgIndexByte.indexByte := by kernel_rfl
theorem nxt0 : Extern.allNextRows.lookup "" = none := by kernel_rfl
theorem nxt1 : Extern.allNextRows.lookup "internal/bytealg.IndexByte" = none := by kernel_rfl
theorem nxt2 : Extern.allNextRows.lookup "internal/bytealg.IndexByteString" = none := by kernel_rfl

theorem find_indexByte {fn : Func} (ho : fn.origin = "") (hn : fn.name = "internal/bytealg.IndexByte" ∨ fn.name = "internal/bytealg.IndexByteString") :
    Extern.findNext fn = none ∧ Extern.find fn = some Extern.BytealgIndexByte.indexByte := by
  rcases hn with hn | hn
  · unfold Extern.findNext Extern.find
    simp only [hn, ho, gen1, typ1, all1, nxt0, nxt1]
    exact ⟨rfl, rfl⟩
  · unfold Extern.findNext Extern.find
    simp only [hn, ho, gen2, typ2, all2, nxt0, nxt2]
    exact ⟨rfl, rfl⟩

/-- No function of the library is taken by what is known of it. -/
theorem shOk_none (h : shList = [(1000000, 1000000)]) : ShOk P := fun f k args v hk hv => by
  have hk' : List.lookup f [(1000000, 1000000)] = some k := by rw [← h]; exact hk
  by_cases e : f = 1000000
  · subst e
    have : k = 1000000 := by simpa [List.lookup] using hk'.symm
    subst this
    simp [shC] at hv
  · have : (f == 1000000) = false := by simpa using e
    simp [List.lookup, this] at hk'

/-- A program that the theorem serves, told by what can be looked up. -/
theorem progOk (hn : P.funcs.toList.all (fun fn => !(fn.name == "runtime.NumGoroutine")) = true) (hm : P.follows .mixedOrders = true)
    (hx : P.funcs.toList.all (fun fn => fn.origin == "" || !(fn.name == "internal/bytealg.IndexByte" || fn.name == "internal/bytealg.IndexByteString")) = true) (hsh : ShOk P) : ProgOk P where
  shelf := hsh
  names := fun f fn hf => by
    rw [List.all_eq_true] at hn
    have := hn fn (by simpa using Array.mem_of_getElem? hf)
    simpa using this
  mixed := hm
  ext := fun f name args v hf hc g w vals hr => by
    unfold extName at hf
    split at hf
    · rename_i fn hfn
      split at hf
      · rename_i hb
        cases hf
        have hname : fn.name = "internal/bytealg.IndexByte" ∨ fn.name = "internal/bytealg.IndexByteString" := by
          unfold extC at hc
          split at hc
          · rename_i h; exact .inl h
          · split at hc
            · rename_i h; exact .inr h
            · cases hc
        rw [List.all_eq_true] at hx
        have hx' := hx fn (by simpa using Array.mem_of_getElem? hfn)
        have ho : fn.origin = "" := by
          rw [Bool.or_eq_true] at hx'
          rcases hx' with q | q
          · simpa using q
          · rcases hname with e | e <;> rw [e] at q <;> simp at q
        obtain ⟨h1, h2⟩ := find_indexByte ho hname
        obtain ⟨u, k1, k2, k3⟩ := indexByte_ok (P := P) hc hr
        have hnn : (fn.name == "runtime.NumGoroutine") = false := by rcases hname with e | e <;> rw [e] <;> decide
        exact ⟨u, by rw [run_callFunc_extern hfn hnn hb h1 h2, k1]; rfl, k2, k3⟩
      · cases hf
    · cases hf

end Go.Proofs.YthhllkiefncbnaaDoorSim
