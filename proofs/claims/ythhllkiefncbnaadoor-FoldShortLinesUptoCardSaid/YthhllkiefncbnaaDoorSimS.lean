/- Regions. -/
import Derived.Test.YthhllkiefncbnaaDoorSimR
namespace Go.Proofs.YthhllkiefncbnaaDoorSim
open Go
set_option linter.unusedVariables false
set_option linter.unusedSimpArgs false

variable {P : Program} {cfg : Cfg} {rn : Run} {g g' : Gh} {w w' : World} {st st' : St} {b : Nat → Bool} {m : Nat}

theorem guard_bool {ops : Array Oper} {tmps : List PV} {vs : Array Value} {j : Nat} {t : Bool} (h : guardOf ops tmps j = .c (.bool t)) (hs : RelSlots g w b m tmps vs) : yielded ops vs j = some t := by
  unfold guardOf at h
  unfold yielded
  cases hd : (ops[j]?).bind (·.dst) with
  | none => rw [hd] at h; cases h
  | some d =>
    rw [hd] at h
    dsimp only at h
    cases ht : tmps[d]? with
    | none => simp [List.getD, ht] at h
    | some pv =>
      simp only [List.getD, ht, Option.getD_some] at h
      subst h
      obtain ⟨v, hv, r⟩ := hs.1.get d _ ht
      simp only [Array.getElem?_toList] at hv
      rw [show v = _ from r] at hv
      simp [hv]

theorem guard_skip {ops : Array Oper} {tmps : List PV} {vs : Array Value} {j : Nat} (h : guardOf ops tmps j = .tup []) (hs : RelSlots g w b m tmps vs) : yielded ops vs j = none := by
  unfold guardOf at h
  unfold yielded
  cases hd : (ops[j]?).bind (·.dst) with
  | none => rw [hd] at h; cases h
  | some d =>
    rw [hd] at h
    dsimp only at h
    cases ht : tmps[d]? with
    | none => simp [List.getD, ht] at h
    | some pv =>
      simp only [List.getD, ht, Option.getD_some] at h
      subst h
      obtain ⟨v, hv, us, e, r⟩ := hs.1.get d _ ht
      simp only [Array.getElem?_toList] at hv
      rw [e] at hv
      simp [hv]

/-- The tokens within a region: those before it; those of the operations that have been carried out; those of calls. -/
def inR (b0 : Nat → Bool) (c0 n8 : Nat) (ex : Nat → Bool) (hi : Nat) : Nat → Bool := fun t => b0 t || (decide (c0 ≤ t) && decide (t < n8) && ex ((t - c0) / 8)) || (decide (n8 ≤ t) && decide (t < hi))

def SameFr (fr fr' : Fr) : Prop := fr'.fid = fr.fid ∧ fr'.base = fr.base ∧ fr'.obase = fr.obase ∧ fr'.round = fr.round

theorem SameFr.put {fr fr' : Fr} (h : SameFr fr fr') (d : Option Nat) (v : PV) : SameFr fr (fr'.put d v) := by cases d <;> exact h
theorem SameFr.trans {a b' c : Fr} (h : SameFr a b') (k : SameFr b' c) : SameFr a c := ⟨k.1.trans h.1, k.2.1.trans h.2.1, k.2.2.1.trans h.2.2.1, k.2.2.2.trans h.2.2.2⟩

/-- What holds behind a region. -/
def RegPost {R : Type} (K : Fr → St → Option R) (r : R) (b0 : Nat → Bool) (c0 n8 m0 : Nat) (fr0 : Fr) (df : List Deferred) (g0 : Gh) (w0 : World) (a' : Act) (w' : World) : Prop :=
  ∃ fr' st' g', K fr' st' = some r ∧ RelSlots g' w' (tk b0 c0 st'.next) st'.objs.length fr'.tmps a'.tmps ∧ Inv g' (tk b0 c0 st'.next) st' w' ∧ Ext b0 m0 g0 w0 g' w' ∧ SameFr fr0 fr' ∧ a'.defers = df ∧ n8 ≤ st'.next ∧ m0 ≤ st'.objs.length

theorem put_defers (a : Act) (d : Option Nat) (v : Value) : (a.put d v).defers = a.defers := by cases d <;> rfl

theorem inR_tk {b0 : Nat → Bool} {c0 n8 hi t : Nat} {ex : Nat → Bool} (hle : c0 ≤ n8) (hn : n8 ≤ hi) (h : inR b0 c0 n8 ex hi t = true) : tk b0 c0 hi t = true := by
  simp only [inR, Bool.or_eq_true, Bool.and_eq_true, decide_eq_true_eq] at h
  rw [tk_iff]
  rcases h with (h | h) | h
  · exact .inl h
  · right; omega
  · right; omega

theorem opsK_sound (hP : ProgOk P) (hrn : RunOk P rn) {R : Type} {K : Fr → St → Option R} {r : R} {ops : Array Oper} {c0 n8 m0 : Nat} {b0 : Nat → Bool} {g0 : Gh} {w0 : World} {fr0 : Fr} {df : List Deferred} {ro : Option Nat} {n : Nat} {Q : Exit → Act → World → Prop}
    (hn8 : n8 = c0 + 8 * ops.size) (hb0 : ∀ t, b0 t = true → t < c0) (hQ : ∀ a' w', RegPost K r b0 c0 n8 m0 fr0 df g0 w0 a' w' → Q .normal a' w') :
    ∀ (l : List Nat) (fr : Fr) (st : St) (g : Gh) (w : World) (a : Act) (ex : Nat → Bool), opsK P cfg rn ops c0 l fr st K = some r → l.Nodup → (∀ i ∈ l, ex i = false) →
      RelSlots g w (inR b0 c0 n8 ex st.next) st.objs.length fr.tmps a.tmps → Inv g (inR b0 c0 n8 ex st.next) st w → Ext b0 m0 g0 w0 g w → SameFr fr0 fr → a.defers = df → n8 ≤ st.next → m0 ≤ st.objs.length →
      wpOpsIn (FW ro) n P ops Q l a w
  | [], fr, st, g, w, a, ex, h, _, _, hs, hi, he, hf, hd, hn, hm => by
    have hmono : ∀ t, inR b0 c0 n8 ex st.next t = true → tk b0 c0 st.next t = true := fun t h => inR_tk (by omega) hn h
    exact hQ a w ⟨fr, st, g, h, ⟨hs.1, fun x hx => belowPV.mono hmono (Nat.le_refl _) (hs.2 x hx)⟩, hi.mono_b hmono, he, hf, hd, hn, hm⟩
  | i :: l, fr, st, g, w, a, ex, h, hnd, hex, hs, hi, he, hf, hd, hn, hm => by
    have hnd' := List.nodup_cons.1 hnd
    simp only [opsK] at h
    simp only [wpOpsIn]
    cases ho : ops[i]? with
    | none =>
      rw [ho] at h
      exact opsK_sound hP hrn hn8 hb0 hQ l fr st g w a ex h hnd'.2 (fun j hj => hex j (by simp [hj])) hs hi he hf hd hn hm
    | some o =>
      rw [ho] at h
      dsimp only at h ⊢
      have hisz := (Array.getElem?_eq_some_iff.1 ho).1
      have hei := hex i (by simp)
      obtain ⟨ex', hex'⟩ : ∃ ex' : Nat → Bool, ex' = fun j => ex j || j == i := ⟨_, rfl⟩
      have hexl : ∀ j ∈ l, ex' j = false := fun j hj => by
        have h1 := hex j (by simp [hj])
        have h2 : j ≠ i := fun e => hnd'.1 (e ▸ hj)
        simp [hex', h1, h2]
      have hlt : ∀ t, inR b0 c0 n8 ex st.next t = true → t < st.next := fun t ht => by
        simp only [inR, Bool.or_eq_true, Bool.and_eq_true, decide_eq_true_eq] at ht
        rcases ht with (h | h) | h
        · have := hb0 t h; omega
        · omega
        · omega
      have hc : inR b0 c0 n8 ex st.next (c0 + 8 * i) = false := by
        have h1 : b0 (c0 + 8 * i) = false := by
          cases hq : b0 (c0 + 8 * i) with
          | false => rfl
          | true => have := hb0 _ hq; omega
        have h2 : (c0 + 8 * i - c0) / 8 = i := by omega
        simp [inR, h1, h2, hei]
        omega
      have hgrow : ∀ (st1 : St), st.next ≤ st1.next → ∀ t, opB (inR b0 c0 n8 ex st.next) (c0 + 8 * i) st st1 t = true → inR b0 c0 n8 ex' st1.next t = true := fun st1 hle t ht => by
        simp only [opB, inR, Bool.or_eq_true, Bool.and_eq_true, decide_eq_true_eq, beq_iff_eq] at ht ⊢
        rcases ht with ((((h | h) | h) | h)) | h
        · exact .inl (.inl h)
        · exact .inl (.inr ⟨h.1, by rw [hex']; simp [h.2]⟩)
        · right; omega
        · left; right
          subst h
          refine ⟨by omega, ?_⟩
          have h2 : (c0 + 8 * i - c0) / 8 = i := by omega
          rw [hex', h2]; simp
        · right; omega
      -- the rest, behind this operation
      have rest : ∀ (v : Value) (pv : PV) (st1 : St) (g1 : Gh) (w1 : World), opsK P cfg rn ops c0 l (fr.put o.dst pv) st1 K = some r → RelPV g1 w1 pv v → belowPV (opB (inR b0 c0 n8 ex st.next) (c0 + 8 * i) st st1) st1.objs.length pv = true →
          Inv g1 (opB (inR b0 c0 n8 ex st.next) (c0 + 8 * i) st st1) st1 w1 → Ext (inR b0 c0 n8 ex st.next) st.objs.length g w g1 w1 → st.next ≤ st1.next → st.objs.length ≤ st1.objs.length →
          wpOpsIn (FW ro) n P ops Q l (a.put o.dst v) w1 := fun v pv st1 g1 w1 h1 h2 h3 h4 h5 h6 h7 => by
        have hg := hgrow st1 h6
        have hs1 := hs.step h5 (fun t ht => hg t (opB_of ht)) h7
        refine opsK_sound hP hrn hn8 hb0 hQ l _ st1 g1 w1 _ ex' h1 hnd'.2 hexl (hs1.put h2 (belowPV.mono hg (Nat.le_refl _) h3) o.dst) (h4.mono_b hg) (he.trans (h5.weaken (fun t ht => by simp [inR, ht]) hm)) (hf.put _ _) (by rw [put_defers]; exact hd) (by omega) (by omega)
      have opgo : opK P cfg rn o (c0 + 8 * i) fr st (fun fr' st' => opsK P cfg rn ops c0 l fr' st' K) = some r → o.wpIn (FW ro) n P a w (wpOpsIn (FW ro) n P ops Q l) Q := fun h =>
        opK_sound hP hrn h hs hi hc hlt (fun v pv st1 g1 w1 h1 h2 h3 h4 h5 h6 h7 => rest v pv st1 g1 w1 h1 h2 h3 h4 h5 h6 h7)
      have skip : opsK P cfg rn ops c0 l (fr.put o.dst (.tup [])) st K = some r → wpOpsIn (FW ro) n P ops Q l (a.put o.dst undef) w := fun h =>
        rest undef (.tup []) st g w h ⟨[], rfl, trivial⟩ rfl (hi.mono_b fun t h => opB_of h) (Ext.refl _ _ _ _) (Nat.le_refl _) (Nat.le_refl _)
      have goW : Region.wanted o (yielded ops a.tmps) = true → opK P cfg rn o (c0 + 8 * i) fr st (fun fr' st' => opsK P cfg rn ops c0 l fr' st' K) = some r →
          (if Region.wanted o (yielded ops a.tmps) = true then o.wpIn (FW ro) n P a w (wpOpsIn (FW ro) n P ops Q l) Q
           else (∀ f, o.about P w a.eval = some f → (FW ro).fn f) ∧ wpOpsIn (FW ro) n P ops Q l (a.put o.dst undef) w) := fun hw h => by
        rw [if_pos hw]; exact opgo h
      have goS : ¬ Region.wanted o (yielded ops a.tmps) = true → opsK P cfg rn ops c0 l (fr.put o.dst (.tup [])) st K = some r →
          (if Region.wanted o (yielded ops a.tmps) = true then o.wpIn (FW ro) n P a w (wpOpsIn (FW ro) n P ops Q l) Q
           else (∀ f, o.about P w a.eval = some f → (FW ro).fn f) ∧ wpOpsIn (FW ro) n P ops Q l (a.put o.dst undef) w) := fun hw h => by
        rw [if_neg hw]; exact ⟨fun f _ => FW_fn ro f, skip h⟩
      have hwant : ∀ j want y, o.guard = some (j, want) → yielded ops a.tmps j = y → Region.wanted o (yielded ops a.tmps) = (y == some want) := fun j want y h1 h2 => by
        unfold Region.wanted; rw [h1]; dsimp only; rw [h2]
      unfold operK at h
      cases hgd : o.guard with
      | none =>
        rw [hgd] at h
        exact goW (by unfold Region.wanted; rw [hgd]) h
      | some q =>
        obtain ⟨j, want⟩ := q
        rw [hgd] at h
        dsimp only at h
        split at h
        · rename_i t ht
          have hy := hwant j want _ hgd (guard_bool ht hs)
          cases want with
          | true =>
            cases t with
            | true => exact goW (by rw [hy]; rfl) (by simpa using h)
            | false => exact goS (by rw [hy]; simp) (by simpa using h)
          | false =>
            cases t with
            | true => exact goS (by rw [hy]; simp) (by simpa using h)
            | false => exact goW (by rw [hy]; rfl) (by simpa using h)
        · rename_i ht
          exact goS (by rw [hwant j want _ hgd (guard_skip ht hs)]; simp) h
        · cases h

theorem rnPure_nat (hn : RunNat rn) : RunNat (rnPure P rn) := fun R tgt args st K => by
  cases tgt with
  | fn f =>
    simp only [rnPure]
    split
    · exact hn _ _ _ _ _
    · rfl
  | round o => rfl

theorem rnPure_ok (hrn : RunOk P rn) : RunOk P (rnPure P rn) := fun R tgt args st K r h => by
  cases tgt with
  | fn f =>
    unfold rnPure at h
    dsimp only at h
    split at h
    · exact hrn R (.fn f) args st K r h
    · cases h
  | round o => cases h

/-- A region whose order the model draws. -/
theorem draw_region (hP : ProgOk P) (hrn : RunOk P rn) (hnat : RunNat rn) {q : Bool} (hqt : q = true → Quiet P rn) {R : Type} {K : Fr → St → Option R} {r : R} {id : Nat} {ops : Array Oper} {fr : Fr} {a : Act} {ro : Option Nat} {n : Nat} {Q : Exit → Act → World → Prop}
    (hdr' : drawOk P q (roOf cfg fr.fid) ops = true) (h : opsK P cfg rn ops st.next (List.range ops.size) fr { st with next := st.next + 8 * ops.size } K = some r) (hlt : ∀ t, b t = true → t < st.next) (hs : RelSlots g w b st.objs.length fr.tmps a.tmps) (hi : Inv g b st w)
    (hQ : ∀ a' w', RegPost K r b st.next (st.next + 8 * ops.size) st.objs.length fr a.defers g w a' w' → Q .normal a' w') : (Code.region id ops true).wpIn (FW ro) n P Q a w := by
  have hmono : ∀ t, b t = true → inR b st.next (st.next + 8 * ops.size) (fun _ => false) (st.next + 8 * ops.size) t = true := fun t h => by simp [inR, h]
  have key : ∀ (σ : List Nat) (W : World), W.heap = w.heap → W.os = w.os → W.tape = w.tape → W.output = w.output → σ.Nodup → opsK P cfg rn ops st.next σ fr { st with next := st.next + 8 * ops.size } K = some r → wpOpsIn (FW ro) n P ops Q σ a W := fun σ W h1 h2 h3 h4 hnd hσ => by
    obtain ⟨iW, eW⟩ := hi.same_heap h1 h2 h3 h4
    have sW := hs.step eW (fun _ h => h) (Nat.le_refl _)
    have iW2 : Inv g b { st with next := st.next + 8 * ops.size } W := { iW with }
    exact opsK_sound hP hrn rfl hlt hQ σ fr { st with next := st.next + 8 * ops.size } g W a (fun _ => false) hσ hnd (fun _ _ => rfl)
      ⟨sW.1, fun x hx => belowPV.mono hmono (Nat.le_refl _) (sW.2 x hx)⟩ (iW2.mono_b hmono) eW ⟨rfl, rfl, rfl, rfl⟩ rfl (Nat.le_refl _) (Nat.le_refl _)
  refine wpIn_region_draw fun t => ?_
  have hsched : Region.schedule (P.follows .mixedOrders) ops t = Region.linearise .any ops t := by simp [Region.schedule, hP.mixed]
  rw [hsched]
  have hed : ∀ (j : Nat) (o : Oper), ops[j]? = some o → ∀ k ∈ edgesOf o, k < j := fun j o ho k hk => by
    have hj := (Array.getElem?_eq_some_iff.1 ho).1
    unfold drawOk at hdr'
    simp only [List.all_eq_true, List.mem_range] at hdr'
    have := hdr' j hj
    rw [ho] at this
    simp only [Bool.and_eq_true, List.all_eq_true, decide_eq_true_eq] at this
    exact this.1 k hk
  obtain ⟨hnd, _, _⟩ := go_spec hed ops.size t (Array.replicate ops.size false) [] (by simp) (fun i hi => by
    rw [Array.getD_eq_getD_getElem?, Array.getElem?_replicate, if_pos hi]; simp) List.nodup_nil (fun i hi => by cases hi) (fun X a Y h => by simp at h) (by simp)
  refine key _ _ rfl rfl rfl rfl hnd ?_
  rw [opsK_eq hnat] at h ⊢
  rw [Option.bind_eq_some_iff] at h
  obtain ⟨s', hs', hK⟩ := h
  change (opsP P cfg rn ops st.next (Region.linearise .any ops t) (fr, { st with next := st.next + 8 * ops.size })).bind _ = some r
  rw [draw_sound hqt hdr' st.next t _ s' rfl hs']
  exact hK

theorem regionK_sound (hP : ProgOk P) (hrn : RunOk P rn) (hnat : RunNat rn) {R : Type} {K : Fr → St → Option R} {r : R} {id : Nat} {ops : Array Oper} {draw : Bool} {fr : Fr} {a : Act} {ro : Option Nat} {n : Nat} {Q : Exit → Act → World → Prop}
    (h : regionK P cfg rn ops draw fr st K = some r) (hlt : ∀ t, b t = true → t < st.next) (hs : RelSlots g w b st.objs.length fr.tmps a.tmps) (hi : Inv g b st w)
    (hQ : ∀ a' w', RegPost K r b st.next (st.next + 8 * ops.size) st.objs.length fr a.defers g w a' w' → Q .normal a' w') : (Code.region id ops draw).wpIn (FW ro) n P Q a w := by
  unfold regionK at h
  have none_ok : ∀ fr : Fr, ModeOk ops none fr := fun fr g run e => by cases e
  rw [opsG_eq hnat _ _ _ _ _ _ _ (none_ok _), opsG_eq (rnPure_nat hnat) _ _ _ _ _ _ _ (none_ok _)] at h
  cases draw with
  | true =>
    rw [if_pos rfl] at h
    split at h
    · rename_i hd
      exact draw_region hP hrn hnat (q := false) (fun h => by cases h) hd h hlt hs hi hQ
    · split at h
      · rename_i hd
        exact draw_region hP (rnPure_ok hrn) (rnPure_nat hnat) (q := true) (fun _ => rnPure_quiet) hd h hlt hs hi hQ
      · cases h
  | false =>
    rw [if_neg (by simp)] at h
    have hmono : ∀ t, b t = true → inR b st.next (st.next + 8 * ops.size) (fun _ => false) (st.next + 8 * ops.size) t = true := fun t h => by simp [inR, h]
    have iW2 : Inv g b { st with next := st.next + 8 * ops.size } w := { hi with }
    exact wpIn_region (opsK_sound hP hrn rfl hlt hQ _ fr { st with next := st.next + 8 * ops.size } g w a (fun _ => false) h List.nodup_range (fun _ _ => rfl)
      ⟨hs.1, fun x hx => belowPV.mono hmono (Nat.le_refl _) (hs.2 x hx)⟩ (iW2.mono_b hmono) (Ext.refl _ _ _ _) ⟨rfl, rfl, rfl, rfl⟩ rfl (Nat.le_refl _) (Nat.le_refl _))

end Go.Proofs.YthhllkiefncbnaaDoorSim
