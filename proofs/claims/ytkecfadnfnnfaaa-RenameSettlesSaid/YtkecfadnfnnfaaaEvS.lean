/- The soundness of slicing, of lengths, of building. -/
import Derived.Test.YtkecfadnfnnfaaaEvQ
set_option linter.unusedVariables false
set_option linter.unusedSimpArgs false
namespace Go.Ev
open Go.RowKit

section
variable {P : Program} {c : Ctx} {I : Imm} {ρ : Ren} {H : Heap} {w : World}

/-- Operands that may be left out. -/
inductive ORel (I : Imm) (ρ : Ren) : Option AV → Option Value → Prop where
  | none : ORel I ρ none none
  | some (x : AV) (u : Value) (h : VRel I ρ x u) : ORel I ρ (some x) (some u)
theorem ORel.of {fr : Fr} {a : Act} {n : Nat} (h : FrRel I ρ fr a.tmps n) (x : Option Operand) : ORel I ρ (x.map (opv fr)) (x.map a.eval) := by
  cases x with
  | none => exact .none
  | some x => exact .some _ _ (opv_rel h x)

theorem bound_run {x : Option AV} {u : Option Value} {dflt most k y : Nat} (h : bound x dflt most = some k) (hx : ORel I ρ x u) (hy : most ≤ y) (hd : dflt ≤ most) :
    k ≤ most ∧ ∀ code, (match u with | some v => Instr.sliceBound v y code | none => pure dflt : Sem Nat).run P w = .ok k w := by
  cases hx with
  | none => simp [bound] at h; subst h; exact ⟨hd, fun code => rfl⟩
  | some x u hx =>
    unfold bound at h
    cases hx with
    | int _ kk n =>
      simp only at h
      rw [leI_eq, leI_eq] at h
      by_cases h0 : 0 ≤ n ∧ n ≤ most
      · simp [h0.1, h0.2] at h
        subst h
        refine ⟨by omega, fun code => ?_⟩
        have hc : 0 ≤ n ∧ n ≤ (y : Int) := by omega
        simp [Instr.sliceBound, asIntOf, hc]
      · have : (decide (0 ≤ n) && decide (n ≤ (most : Int))) = false := by
          cases hb : (decide (0 ≤ n) && decide (n ≤ (most : Int))) with
          | false => rfl
          | true => simp at hb; exact absurd hb h0
        simp [this] at h
    | _ => simp at h

/-- The bounds of a slice without a third. -/
theorem sliceBounds_run {lo hi : Option AV} {ulo uhi : Option Value} {len cap l h : Nat} (b : Bool) (hh : bound hi len len = some h) (hl : bound lo 0 h = some l) (hlo : ORel I ρ lo ulo) (hhi : ORel I ρ hi uhi) (hc : len ≤ cap) :
    (Instr.sliceBounds b len cap ulo uhi none).run P w = .ok (l, h, cap) w ∧ l ≤ h ∧ h ≤ len := by
  obtain ⟨h1, h2⟩ := bound_run (P := P) (w := w) hh hhi hc (Nat.le_refl _)
  obtain ⟨h3, h4⟩ := bound_run (P := P) (w := w) hl hlo (Nat.le_refl h) (Nat.zero_le _)
  refine ⟨?_, h3, h1⟩
  unfold Instr.sliceBounds
  cases hhi with
  | none =>
    have e2 : len = h := by simp [bound] at hh; exact hh
    subst e2
    cases hlo with
    | none => simp [bound] at hl; subst hl; rfl
    | some x u hx => simp [h4 .sliceB]
  | some y v hy =>
    have e2 := fun code => h2 code
    simp only at e2
    cases hlo with
    | none => simp [bound] at hl; subst hl; cases b <;> simp [e2]
    | some x u hx =>
      have e4 := fun code => h4 code
      simp only at e4
      cases b <;> simp [e2, e4]

theorem extract_data (s : ByteArray) (l h : Nat) : (s.extract l h).data.toList = (s.data.toList.drop l).take (h - l) := by
  simp [ByteArray.data_extract, Array.toList_extract, List.extract_eq_take_drop]

theorem slice_run (hc : TysOk P c) (hs : Sim I ρ H w) {t : TypeId} {x v : AV} {u : Value} {lo hi : Option AV} {ulo uhi : Option Value} (h : sliceAV c t H x lo hi = some v) (hx : VRel I ρ x u) (hlo : ORel I ρ lo ulo) (hhi : ORel I ρ hi uhi) :
    ∃ cv, (Instr.sliceAt t u ulo uhi none).run P w = .ok cv w ∧ VRel I ρ v cv := by
  have hel : ∀ {e : TypeId}, elemOf (c.ty t) = some e → P.underlying t = some (.slice e) ∧ ∀ w : World, (sizeOf e).run P w = .ok (c.ty e).size w := by
    intro e he
    have hd : (c.ty t).d = .slice e := by unfold elemOf at he; cases hd : (c.ty t).d <;> simp [hd] at he; rw [he]
    obtain ⟨i, d, z, ht⟩ := hc.ty t (known' (by rw [hd]; simp))
    have hr := ht.rel
    rw [hd] at hr
    cases hr with
    | slice _ he2 =>
      obtain ⟨i2, d2, z2, ht2⟩ := hc.ty e he2
      exact ⟨ht.und, fun w => run_sizeOf ht2 w⟩
  have hat : ∀ {e : TypeId}, elemOf (c.ty t) = some e → ∀ (a : Option Addr) (len cap l h : Nat), bound hi len len = some h → bound lo 0 h = some l → len ≤ cap →
      (Instr.sliceAt t (.slice a len cap) ulo uhi none).run P w = .ok (.slice (if cap = l then a else a.map (·.add (l * (c.ty e).size))) (h - l) (cap - l)) w ∧ l ≤ h ∧ h ≤ len := by
    intro e he a len cap l h hh hl hcap
    obtain ⟨e1, e2⟩ := hel he
    obtain ⟨b1, b2, b3⟩ := sliceBounds_run (P := P) (w := w) true hh hl hlo hhi hcap
    refine ⟨?_, b2, b3⟩
    unfold Instr.sliceAt Instr.slice
    simp only [Sem.run_bind, run_underlying e1, Result.andThen_ok, b1, e2, Sem.run_pure]
  unfold sliceAV at h
  cases hx with
  | str _ s bs e =>
    simp only at h
    split at h
    · rename_i hd
      obtain ⟨i, d, z, ht⟩ := hc.ty t (known' (by rw [hd]; simp))
      have hr := ht.rel
      rw [hd] at hr
      cases hr
      split at h
      · rename_i hb hh
        split at h
        · rename_i l hl
          simp only [fSp_eq, Option.some.injEq] at h
          subst h
          subst e
          have hsz : bs.size = bs.data.toList.length := Array.length_toList.symm
          rw [← hsz] at hh
          obtain ⟨b1, b2, b3⟩ := sliceBounds_run (P := P) (w := w) false hh hl hlo hhi (Nat.le_refl _)
          refine ⟨.string (bs.extract l hb), ?_, .str _ _ _ (extract_data _ _ _)⟩
          unfold Instr.sliceAt Instr.slice
          simp [run_underlying ht.und, b1]
        · cases h
      · cases h
    · cases h
  | lst _ es g off cap z vs hne hl hz h1 h2 h3 =>
    simp only at h
    split at h
    · rename_i e hh he hbh
      split at h
      · rename_i l hbl
        obtain ⟨r1, r2, r3⟩ := hat he (some ⟨g, off, none⟩) es.length cap l hh hbh hbl hl
        split at h
        · rename_i hall
          simp only [fSp_eq, Option.some.injEq] at h
          subst h
          refine ⟨_, r1, ?_⟩
          have hlen : ((es.drop l).take (hh - l)).length = hh - l := by simp; omega
          have hz' : z = (c.ty e).size := by
            cases es with
            | nil => exact absurd rfl hne
            | cons r es =>
              have := hz r (by simp)
              simp at hall
              omega
          rcases Nat.eq_zero_or_pos (hh - l) with h0 | h0
          · rw [h0, List.take_zero]
            exact .lst0 _ _ _
          · have hcl : cap ≠ l := by omega
            rw [if_neg hcl]
            simp only [Option.map_some, Addr.add_off]
            have hq : VRel I ρ (.lst ((es.drop l).take (hh - l))) (.slice (some ⟨g, off + l * (c.ty e).size, none⟩) ((es.drop l).take (hh - l)).length (cap - l)) := by
              refine .lst _ _ _ _ _ z (fun i j => vs (l + i) j) (fun e0 => by rw [e0] at hlen; simp at hlen; omega) (by omega) (fun r hr => hz r (cut_mem hr)) (fun i j r x hr hx => ?_) (fun i j r x hr hx => ?_) (fun r hr => h3 r (cut_mem hr))
              · obtain ⟨_, hr'⟩ := cut_get hr
                have := h1 (l + i) j r x hr' hx
                rw [← hz']
                rwa [show off + ((l + i) * z + j) = off + l * z + (i * z + j) by rw [Nat.add_mul]; omega] at this
              · obtain ⟨_, hr'⟩ := cut_get hr
                exact h2 (l + i) j r x hr' hx
            rwa [hlen] at hq
        · cases h
      · cases h
    · cases h
  | lst0 _ a cap =>
    simp only at h
    split at h
    · rename_i e hh he hbh
      split at h
      · rename_i l hbl
        simp only [List.length_nil] at hbh
        obtain ⟨r1, r2, r3⟩ := hat he a 0 cap l hh hbh hbl (Nat.zero_le _)
        have hv : v = .lst [] := by simpa [fSp_eq] using h.symm
        subst hv
        have e0 : hh - l = 0 := by omega
        rw [e0] at r1
        exact ⟨_, r1, .lst0 _ _ _⟩
      · cases h
    · cases h
  | sl _ b off len a cap g z n hρ ha hl =>
    simp only at h
    split at h
    · rename_i e hh he hbh
      split at h
      · rename_i l hbl
        obtain ⟨r1, r2, r3⟩ := hat he (some a) len cap l hh hbh hbl hl
        split at h
        · rename_i hsz
          have hz := isSize_spec hs hsz hρ
          simp only [Option.some.injEq] at h
          subst h
          refine ⟨_, r1, ?_⟩
          have e : (if cap = l then some a else Option.map (fun x => x.add (l * (c.ty e).size)) (some a)) = some (if cap = l then a else a.add (l * (c.ty e).size)) := by split <;> rfl
          rw [e]
          refine .sl _ _ _ _ _ _ g z n hρ (fun hpos => ?_) (by omega)
          rcases hpos with hpos | hpos
          · obtain ⟨a1, a2⟩ := ha (.inl (by omega))
            have hcl : cap ≠ l := by omega
            rw [if_neg hcl, a1, Addr.add_off, ← hz, Nat.add_mul]
            exact ⟨rfl, by omega⟩
          · have o0 : off = 0 := by omega
            have l0 : l = 0 := by omega
            subst l0
            obtain ⟨a1, a2⟩ := ha (.inr o0)
            rw [a1, Nat.zero_mul]
            refine ⟨?_, by omega⟩
            split
            · simp [o0]
            · simp [Addr.add, o0]
        · cases h
      · cases h
    · cases h
  | sle _ b g z n a hρ =>
    simp only at h
    split at h
    · rename_i e hh he hbh
      split at h
      · rename_i l hbl
        obtain ⟨r1, r2, r3⟩ := hat he a 0 0 l hh hbh hbl (Nat.le_refl _)
        split at h
        · have h0 : hh = 0 := by omega
          have l0 : l = 0 := by omega
          subst h0
          subst l0
          simp at h
          subst h
          exact ⟨_, r1, by simpa using .sle _ _ _ _ _ _ hρ⟩
        · cases h
      · cases h
    · cases h
  | nils =>
    simp only at h
    split at h
    · rename_i e hh l he hbh hbl
      have h0 : hh = 0 := by
        have := (bound_run (P := P) (w := w) (y := 0) hbh hhi (Nat.le_refl _) (Nat.le_refl _)).1; omega
      subst h0
      obtain ⟨r1, r2, r3⟩ := hat he none 0 0 l 0 hbh hbl (Nat.le_refl _)
      have l0 : l = 0 := by omega
      subst l0
      simp at h
      subst h
      exact ⟨_, r1, by simpa using .nils _⟩
    · cases h
  | emp _ a =>
    simp only at h
    split at h
    · rename_i e hh l he hbh hbl
      have h0 : hh = 0 := by
        have := (bound_run (P := P) (w := w) (y := 0) hbh hhi (Nat.le_refl _) (Nat.le_refl _)).1; omega
      subst h0
      obtain ⟨r1, r2, r3⟩ := hat he a 0 0 l 0 hbh hbl (Nat.le_refl _)
      have l0 : l = 0 := by omega
      subst l0
      simp at h
      subst h
      exact ⟨_, r1, by simpa using .emp _ _⟩
    · cases h
  | _ => simp at h

/-! ### Lengths -/
theorem lenInt_run (hc : TysOk P c) (hs : Sim I ρ H w) {t : TypeId} {x : AV} {n : Int} {u : Value} (h : lenInt c (c.ty t) H x = some n) (hx : VRel I ρ x u) (ts : Array TypeId) (h0 : ts[0]? = some t) (ty : TypeId) :
    (Builtin.len_ ts ty #[u]).run P w = .ok (.int .i64 n) w := by
  unfold lenInt at h
  have hkn : (c.ty t).known = true := by unfold TI.known; cases hd : (c.ty t).d <;> simp [hd] at h <;> rfl
  obtain ⟨i, d, z, ht⟩ := hc.ty t hkn
  have hr := ht.rel
  have hu := ht.und
  unfold Builtin.len_
  simp only [h0]
  rw [show (#[u] : Array Value)[0]? = some u from rfl]
  simp only [Sem.run_bind, run_underlying hu, Result.andThen_ok]
  revert h hr
  generalize (c.ty t).d = td
  intro h hr
  cases hr with
  | arr m e he => simp at h; subst h; cases hx <;> rfl
  | ptr e =>
    simp only at h
    split at h
    · rename_i m e' hd
      simp at h
      subst h
      obtain ⟨i2, d2, z2, ht2⟩ := hc.ty e (known' (by rw [hd]; simp))
      have hr2 := ht2.rel
      rw [hd] at hr2
      cases hr2 with
      | arr _ _ _ =>
        cases hx <;> simp [run_underlying ht2.und, goInt]
    · cases h
  | str =>
    cases hx <;> simp [lenAV] at h
    rename_i s bs e
    subst h
    subst e
    simp [goInt]
  | slice e he =>
    cases hx <;> simp [lenAV] at h <;> subst h <;> simp [goInt]
  | map k e _ _ =>
    cases hx with
    | nilm => simp [lenAV] at h; subst h; simp [goInt]
    | map _ b g z n' hρ =>
      simp only [lenAV] at h
      split at h
      · rename_i es hb
        simp at h
        subst h
        obtain ⟨_, ents, clock, h1, h2, h3⟩ := hs.blk b _ g z n' hb hρ
        simp [getObj, Sem.run, h1, goInt, h2]
      · cases h
    | _ => simp at h
  | _ => simp at h
end
end Go.Ev
