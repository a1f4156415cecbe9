/- The orders that the model may draw. -/
import Derived.Test.YthhllkiefncbnaaDoorSimM
import Derived.Orders
namespace Go.Proofs.YthhllkiefncbnaaDoorSim
open Go
set_option linter.unusedVariables false
set_option linter.unusedSimpArgs false

variable {P : Program} {cfg : Cfg} {rn : Run}

theorem nodup_le : ∀ (n : Nat) (l : List Nat), l.Nodup → (∀ a ∈ l, a < n) → l.length ≤ n
  | 0, l, _, h => by
    cases l with
    | nil => simp
    | cons a l => have := h a (by simp); omega
  | n + 1, l, hd, h => by
    by_cases hm : n ∈ l
    · have := nodup_le n (l.erase n) (hd.erase n) (fun a ha => by
        have h1 := h a (List.mem_of_mem_erase ha)
        have h2 : a ≠ n := fun e => (List.Nodup.mem_erase_iff hd).1 (e ▸ ha) |>.1 rfl
        omega)
      rw [List.length_erase_of_mem hm] at this
      omega
    · have := nodup_le n l hd (fun a ha => by
        have h1 := h a ha
        have h2 : a ≠ n := fun e => hm (e ▸ ha)
        omega)
      omega

theorem all_le : ∀ (n : Nat) (l : List Nat), l.Nodup → (∀ i, i < n → i ∈ l) → n ≤ l.length
  | 0, _, _, _ => Nat.zero_le _
  | n + 1, l, hd, h => by
    have hm := h n (by omega)
    have := all_le n (l.erase n) (hd.erase n) (fun i hi => (List.Nodup.mem_erase_iff hd).2 ⟨by omega, h i (by omega)⟩)
    rw [List.length_erase_of_mem hm] at this
    have := List.length_pos_of_mem hm
    omega

/-- In a list of operations each comes behind those that its edges name. -/
def Closed (ops : Array Oper) (σ : List Nat) : Prop := ∀ X a Y, σ = X ++ a :: Y → ∀ o, ops[a]? = some o → ∀ k ∈ edgesOf o, k ∈ X

theorem go_spec {ops : Array Oper} (hed : ∀ (j : Nat) (o : Oper), ops[j]? = some o → ∀ k ∈ edgesOf o, k < j) : ∀ (fuel t : Nat) (listed : Array Bool) (acc : List Nat), listed.size = ops.size →
    (∀ i, i < ops.size → (listed.getD i true = true ↔ i ∈ acc)) → acc.Nodup → (∀ i ∈ acc, i < ops.size) → Closed ops acc.reverse → acc.length + fuel = ops.size →
    (Region.linearise.go .any ops fuel t listed acc).Nodup ∧ (∀ i, i ∈ Region.linearise.go .any ops fuel t listed acc ↔ i < ops.size) ∧ Closed ops (Region.linearise.go .any ops fuel t listed acc)
  | 0, t, listed, acc, hs, hl, hd, hb, hc, hf => by
    simp only [Region.linearise.go]
    refine ⟨List.pairwise_reverse.2 (hd.imp fun h => h.symm), fun i => ⟨fun h => hb i (by simpa using h), fun h => ?_⟩, hc⟩
    rw [List.mem_reverse]
    refine Classical.byContradiction fun hn => ?_
    have := nodup_le ops.size (i :: acc) (List.nodup_cons.2 ⟨hn, hd⟩) (fun a ha => by
      rcases List.mem_cons.1 ha with rfl | ha
      · exact h
      · exact hb a ha)
    simp at this; omega
  | fuel + 1, t, listed, acc, hs, hl, hd, hb, hc, hf => by
    simp only [Region.linearise.go]
    change let r := (match (Region.ready .any ops listed)[t % (Region.ready .any ops listed).length]? with
      | some i => Region.linearise.go .any ops fuel (t / (Region.ready .any ops listed).length) (listed.setIfInBounds i true) (i :: acc)
      | none => acc.reverse); r.Nodup ∧ (∀ i, i ∈ r ↔ i < ops.size) ∧ Closed ops r
    cases hi : (Region.ready .any ops listed)[t % (Region.ready .any ops listed).length]? with
    | none =>
      exfalso
      have hnil : Region.ready .any ops listed = [] := by
        cases hr : Region.ready .any ops listed with
        | nil => rfl
        | cons x xs =>
          rw [hr] at hi
          have hlt : t % (x :: xs).length < (x :: xs).length := Nat.mod_lt _ (by simp)
          rw [List.getElem?_eq_getElem hlt] at hi
          cases hi
      -- the least one that is not listed could go
      have hall : ∀ i, i < ops.size → i ∈ acc := by
        intro i
        induction i using Nat.strongRecOn with
        | _ i ih =>
          intro hlt
          refine Classical.byContradiction fun hn => ?_
          have hmem : i ∈ Region.ready .any ops listed := by
            unfold Region.ready
            rw [List.mem_filter]
            refine ⟨by simpa using hlt, ?_⟩
            have h1 : listed.getD i true = false := by
              cases hq : listed.getD i true with
              | false => rfl
              | true => exact absurd ((hl i hlt).1 hq) hn
            rw [h1]
            simp only [Bool.not_false, Bool.true_and]
            have ho : ops[i]? = some ops[i] := Array.getElem?_eq_getElem hlt
            rw [ho]
            simp only [Option.map_some, Option.getD_some, Array.all_eq_true_iff_forall_mem]
            intro e he
            by_cases hbe : Region.binds .any e = true
            · have hk : e.on ∈ edgesOf ops[i] := by
                unfold edgesOf
                rw [List.mem_map]
                exact ⟨e, by rw [List.mem_filter]; exact ⟨by simpa using he, hbe⟩, rfl⟩
              have hlt' := hed i _ ho e.on hk
              have hin := ih e.on hlt' (by omega)
              have := (hl e.on (by omega)).2 hin
              have e2 : listed.getD e.on false = true := by
                rw [Array.getD_eq_getD_getElem?] at this ⊢
                rw [Array.getElem?_eq_getElem (by omega)] at this ⊢
                simpa using this
              simp [e2]
            · simp [hbe]
          rw [hnil] at hmem
          cases hmem
      have := all_le ops.size acc hd hall
      omega
    | some i =>
      simp only
      have hmem := List.mem_of_getElem? hi
      unfold Region.ready at hmem
      rw [List.mem_filter] at hmem
      obtain ⟨hlt, hrdy⟩ := hmem
      have hlt : i < ops.size := by simpa using hlt
      simp only [Bool.and_eq_true, Bool.not_eq_true'] at hrdy
      have hna : i ∉ acc := fun h => by
        have := (hl i hlt).2 h
        rw [this] at hrdy; cases hrdy.1
      refine go_spec hed fuel _ _ (i :: acc) (by simp [hs]) (fun k hk => ?_) (List.nodup_cons.2 ⟨hna, hd⟩) (fun k hk => ?_) ?_ (by simp; omega)
      · rw [Array.getD_eq_getD_getElem?, Array.getElem?_setIfInBounds]
        by_cases e : i = k
        · subst e; simp [hs, hlt]
        · rw [if_neg e, ← Array.getD_eq_getD_getElem?, hl k hk]
          simp [Ne.symm e]
      · rcases List.mem_cons.1 hk with rfl | hk
        · exact hlt
        · exact hb k hk
      · intro X a Y hX o ho k hk
        rw [List.reverse_cons] at hX
        rcases List.eq_nil_or_concat Y with rfl | ⟨Y', y, rfl⟩
        · -- a is i itself
          have h1 := congrArg List.reverse hX
          simp at h1
          obtain ⟨rfl, rfl⟩ := h1
          have ho' : ops[i]? = some ops[i] := Array.getElem?_eq_getElem hlt
          rw [ho'] at ho; cases ho
          have h2 := hrdy.2
          rw [ho'] at h2
          simp only [Option.map_some, Option.getD_some, Array.all_eq_true_iff_forall_mem] at h2
          unfold edgesOf at hk
          rw [List.mem_map] at hk
          obtain ⟨e, he, rfl⟩ := hk
          rw [List.mem_filter] at he
          have h3 := h2 e (by simpa using he.1)
          rw [he.2] at h3
          simp only [Bool.not_true, Bool.false_or] at h3
          have hon : e.on < ops.size := by
            refine Classical.byContradiction fun q => ?_
            rw [Array.getD_eq_getD_getElem?, Array.getElem?_eq_none (by omega)] at h3
            cases h3
          have h4 : listed.getD e.on true = true := by
            rw [Array.getD_eq_getD_getElem?] at h3 ⊢
            rw [Array.getElem?_eq_getElem (by omega)] at h3 ⊢
            simpa using h3
          simpa using (hl e.on hon).1 h4
        · have h1 : acc.reverse = X ++ a :: Y' := by
            have := congrArg List.dropLast hX
            rw [List.dropLast_concat] at this
            rw [this, List.concat_eq_append, ← List.cons_append, ← List.append_assoc, List.dropLast_concat]
          exact hc X a Y' h1 o ho k hk


theorem beforeRows_length (ops : Array Oper) : ∀ n, (beforeRows ops n).length = n
  | 0 => rfl
  | n + 1 => by simp [beforeRows, beforeRows_length ops n]

theorem beforeRows_get (ops : Array Oper) : ∀ (n j : Nat), j < n → (beforeRows ops n).getD j [] = match ops[j]? with
    | some o => (edgesOf o).flatMap fun k => k :: (beforeRows ops j).getD k []
    | none => []
  | 0, j, h => by omega
  | n + 1, j, h => by
    simp only [beforeRows]
    by_cases e : j = n
    · subst e
      rw [List.getD_eq_getElem?_getD, List.getElem?_append_right (by rw [beforeRows_length]; omega), beforeRows_length]
      simp only [Nat.sub_self, List.getElem?_cons_zero, Option.getD_some]
      cases ops[j]? <;> rfl
    · rw [List.getD_eq_getElem?_getD, List.getElem?_append_left (by rw [beforeRows_length]; omega), ← List.getD_eq_getElem?_getD]
      exact beforeRows_get ops n j (by omega)

theorem beforeRows_stable (ops : Array Oper) {n m j : Nat} (h : j < n) (h' : j < m) : (beforeRows ops n).getD j [] = (beforeRows ops m).getD j [] := by
  rw [beforeRows_get ops n j h, beforeRows_get ops m j h']

/-- Whatever certainly comes before does. -/
theorem rows_before {ops : Array Oper} {σ : List Nat} (hed : ∀ (j : Nat) (o : Oper), ops[j]? = some o → ∀ k ∈ edgesOf o, k < j) (hc : Closed ops σ) : ∀ (a : Nat) (X Y : List Nat), σ = X ++ a :: Y → a < ops.size → ∀ i ∈ (beforeRows ops ops.size).getD a [], i ∈ X := by
  intro a
  induction a using Nat.strongRecOn with
  | _ a ih =>
    intro X Y hσ ha i hi
    rw [beforeRows_get ops _ a ha] at hi
    have ho : ops[a]? = some ops[a] := Array.getElem?_eq_getElem ha
    rw [ho] at hi
    simp only [List.mem_flatMap] at hi
    obtain ⟨k, hk, hi⟩ := hi
    have hka := hed a _ ho k hk
    have hkX := hc X a Y hσ _ ho k hk
    rcases List.mem_cons.1 hi with rfl | hi
    · exact hkX
    · rw [beforeRows_stable ops hka (Nat.lt_trans hka ha)] at hi
      obtain ⟨X1, X2, rfl⟩ := List.append_of_mem hkX
      have := ih k hka X1 (X2 ++ a :: Y) (by rw [hσ]; simp) (by omega) i hi
      simp [this]

/-- Every order that may be drawn ends as the order of the text. -/
theorem draw_sound {q : Bool} {ro : Nat → Bool} (hqt : q = true → Quiet P rn) {ops : Array Oper} (hd : drawOk P q ro ops = true) (c0 t : Nat) (s s' : Fr × St) (hro : ro = roOf cfg s.1.fid) (h : opsP P cfg rn ops c0 (List.range ops.size) s = some s') :
    opsP P cfg rn ops c0 (Region.linearise .any ops t) s = some s' := by
  have hall : ∀ j, j < ops.size → (match ops[j]? with
      | some y => (edgesOf y).all (· < j) && (List.range j).all fun i => ((beforeRows ops ops.size).getD j []).contains i || (match ops[i]? with
        | some x => apartC P q ro ops x y
        | none => false)
      | none => false) = true := fun j hj => by
    unfold drawOk at hd
    simp only [List.all_eq_true, List.mem_range] at hd
    exact hd j hj
  have hed : ∀ (j : Nat) (o : Oper), ops[j]? = some o → ∀ k ∈ edgesOf o, k < j := fun j o ho k hk => by
    have hj := (Array.getElem?_eq_some_iff.1 ho).1
    have := hall j hj
    rw [ho] at this
    simp only [Bool.and_eq_true, List.all_eq_true, decide_eq_true_eq] at this
    exact this.1 k hk
  obtain ⟨h1, h2, h3⟩ := go_spec hed ops.size t (Array.replicate ops.size false) [] (by simp) (fun i hi => by
    rw [Array.getD_eq_getD_getElem?, Array.getElem?_replicate, if_pos hi]; simp) List.nodup_nil (fun i hi => by cases hi) (fun X a Y h => by simp at h) (by simp)
  change (Region.linearise .any ops t).Nodup at h1
  change ∀ i, i ∈ Region.linearise .any ops t ↔ i < ops.size at h2
  change Closed ops (Region.linearise .any ops t) at h3
  refine opsP_perm hqt (List.range ops.size) _ s s' hro ?_ List.pairwise_lt_range ?_ h
  · rw [List.perm_ext_iff_of_nodup List.nodup_range h1]
    intro a
    rw [List.mem_range, h2]
  · rw [List.pairwise_iff_getElem]
    intro p q hp hq hpq hlt
    obtain ⟨σ, hσ⟩ : ∃ σ, σ = Region.linearise .any ops t := ⟨_, rfl⟩
    rw [← hσ] at h1 h2 h3
    have hp' : p < σ.length := by rw [hσ]; exact hp
    have hq' : q < σ.length := by rw [hσ]; exact hq
    have ea : (Region.linearise .any ops t)[p] = σ[p] := by simp [hσ]
    have ei : (Region.linearise .any ops t)[q] = σ[q] := by simp [hσ]
    rw [ea, ei] at hlt ⊢
    have hap := (h2 σ[p]).1 (List.getElem_mem hp')
    have haq := (h2 σ[q]).1 (List.getElem_mem hq')
    have := hall σ[p] hap
    have ho : ops[σ[p]]? = some ops[σ[p]] := Array.getElem?_eq_getElem hap
    rw [ho] at this
    simp only [Bool.and_eq_true, List.all_eq_true, List.mem_range, Bool.or_eq_true] at this
    rcases this.2 σ[q] hlt with hc | hc
    · exfalso
      have hsplit : σ = σ.take p ++ σ[p] :: σ.drop (p + 1) := by
        rw [List.getElem_cons_drop]; exact (List.take_append_drop p σ).symm
      have hin := rows_before hed h3 σ[p] _ _ hsplit hap σ[q] (by simpa using hc)
      obtain ⟨r, hr, hre⟩ := List.mem_iff_getElem.1 hin
      rw [List.getElem_take] at hre
      have hrl : r < p := by simp at hr; omega
      have := (List.pairwise_iff_getElem.1 h1) r q (by omega) hq' (by omega)
      exact this hre
    · have hoq : ops[σ[q]]? = some ops[σ[q]] := Array.getElem?_eq_getElem haq
      rw [hoq] at hc
      exact ⟨_, _, hoq, ho, hc⟩

end Go.Proofs.YthhllkiefncbnaaDoorSim
