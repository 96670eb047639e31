/- What a plan finds is found in whatever order; regions. -/
import Derived.Test.YtkecfadnfnnfaaaEvD
set_option linter.unusedVariables false
set_option linter.unusedSimpArgs false
namespace Go.Ev
open Go.RowKit

/-- A state that stands for whatever an other stands for. -/
def To (m n : Nat) (st st' : St) : Prop := ∀ (I : Imm) (ρ : Ren) (w : World) (tmps : Array Value), Sim I ρ st.H w → FrRel I ρ st.fr tmps n → m ≤ st.H.length →
  ∃ I' ρ', Ext m I ρ st.H w I' ρ' st'.H w ∧ Sim I' ρ' st'.H w ∧ FrRel I' ρ' st'.fr tmps n ∧ m ≤ st'.H.length
theorem To.refl (m n : Nat) (st : St) : To m n st st := fun I ρ w tmps hs hf hm => ⟨I, ρ, Ext.refl _ _ _ _ _, hs, hf, hm⟩
theorem To.trans {m n : Nat} {a b c : St} (h : To m n a b) (k : To m n b c) : To m n a c := fun I ρ w tmps hs hf hm => by
  obtain ⟨I1, ρ1, e1, s1, f1, m1⟩ := h I ρ w tmps hs hf hm
  obtain ⟨I2, ρ2, e2, s2, f2, m2⟩ := k I1 ρ1 w tmps s1 f1 m1
  exact ⟨I2, ρ2, e1.trans e2 (Nat.le_refl _), s2, f2, m2⟩
theorem To.like {m n : Nat} {fr fr' : Fr} {H : Heap} {st : St} (h : To m n ⟨fr, H⟩ st) (hl : Like fr fr') : To m n ⟨fr', H⟩ st := fun I ρ w tmps hs hf hm =>
  h I ρ w tmps hs (FrRel.of_get hf.size hl.left fun t => by rw [hl.get]; exact hf.at_ t) hm

theorem canon_det {m : Nat} {st : St} {β : Type} {k : St → Option β} {r : β} (h : st.canon m k = some r) : ∃ c1, (∀ (γ : Type) (k' : St → Option γ), st.canon m k' = k' c1) ∧ (Srt st.fr → Srt c1.fr) := by
  unfold St.canon at h ⊢
  simp only [reach, fSp_eq, renFr_eq, renBlks_eq] at h ⊢
  split at h
  · cases h
  · rename_i seen hv
    refine ⟨{ fr := st.fr.map fun p => (p.1, ren (fun b => indexIn b seen.reverse 0) p.2), H := seen.reverse.map fun b => (blkAt st.H b).rn (fun b => indexIn b seen.reverse 0) }, fun γ k' => rfl, fun hs => ?_⟩
    simp only [Srt] at hs ⊢
    rw [List.pairwise_map]
    exact hs
theorem To.canon {m n : Nat} {st : St} {c1 : St} (h : ∀ (γ : Type) (k' : St → Option γ), st.canon m k' = k' c1) (hsrt : Srt st.fr → Srt c1.fr) : To m n st c1 := fun I ρ w tmps hs hf hm => by
  obtain ⟨st1, ρ1, h1, h2, h3, h4, h5, h6⟩ := canon_rel (k := some) (g := fun t => tmps.getD t undef) hs (h St some) hm hf.at_ hf.all
  simp at h1
  subst h1
  exact ⟨I, ρ1, h5, h2, FrRel.of_get hf.size (hsrt hf.srt) h3, h6⟩

/-! ### What is asked of the heap -/
def AskedEq (H H' : Heap) (q : Nat × Nat × Option Nat) : Prop := match q.2.2 with
  | some i => rowAt H' q.2.1 i = rowAt H q.2.1 i
  | none => rowSize H' q.2.1 = rowSize H q.2.1
theorem AskedEq.refl (H : Heap) (q : Nat × Nat × Option Nat) : AskedEq H H q := by
  unfold AskedEq
  cases q.2.2 <;> rfl
theorem AskedEq.trans {H H1 H2 : Heap} {q : Nat × Nat × Option Nat} (h : AskedEq H H1 q) (k : AskedEq H1 H2 q) : AskedEq H H2 q := by
  unfold AskedEq at *
  cases hq : q.2.2 with
  | some i => simp only [hq] at *; rw [k, h]
  | none => simp only [hq] at *; rw [k, h]
theorem sameAsked_sound {H H' : Heap} {q : Nat × Nat × Option Nat} (h : sameAsked H H' q = true) : AskedEq H H' q := by
  unfold sameAsked at h
  unfold AskedEq
  split at h
  · rename_i i hi
    simp only [hi]
    unfold sameRow at h
    split at h
    · rename_i x y h1 h2
      rw [h1, h2, AV.beqL_sound _ _ h]
    · cases h
  · rename_i hi
    simp only [hi]
    split at h
    · rename_i x y h1 h2
      rw [h1, h2, Nat.eq_of_beq_eq_true h]
    · cases h

section
variable {c : Ctx} {rec : Task → Option Res}

theorem loadAV_row (t : TypeId) (H : Heap) (b i o : Nat) : loadAV c t H (.ptr b i o) = match rowAt H b i with | some r => pack (c.ty t) (r.drop o) | none => none := by
  unfold loadAV rowAt
  cases hb : H[b]? with
  | none => simp [hb]
  | some k => cases k <;> simp [hb] <;> rfl
theorem isSize_eq {H H' : Heap} {b z : Nat} (h : rowSize H' b = rowSize H b) : isSize H' b z = isSize H b z := by unfold isSize; rw [h]

/-- An operation that may be taken ahead leaves the heap, and yields the same wherever what it asks is the same. -/
theorem taken_evOp {o : Oper} (hq : (quietOp c o || isLoad o) = true) {k : Nat} {st : St} {v : AV} {H' : Heap} (h : evOp c rec o st.fr st.H = some (v, H')) :
    H' = st.H ∧ ∀ H1, (∀ q ∈ readsOf k o st, AskedEq st.H H1 q) → evOp c rec o st.fr H1 = some (v, H1) := by
  have okv : ∀ {x : Option AV} {H : Heap}, okV H x = some (v, H') → x = some v ∧ H' = H := okV_eq
  unfold quietOp isLoad at hq
  unfold evOp at h ⊢
  unfold readsOf
  cases hop : o.op <;> simp only [hop] at hq h ⊢ <;> try (simp at hq; done)
  case move x => simp at h; exact ⟨h.2.symm, fun H1 _ => by rw [h.1]⟩
  case assign x => simp at h; exact ⟨h.2.symm, fun H1 _ => by rw [h.1]⟩
  case load t x =>
    obtain ⟨h1, h2⟩ := okv h
    refine ⟨h2, fun H1 hr => ?_⟩
    cases hx : opv st.fr x with
    | ptr b i oo =>
      rw [hx] at h1
      simp only [hx] at hr
      rw [loadAV_row] at h1 ⊢
      have := hr (k, b, some i) (by simp)
      simp only [AskedEq] at this
      rw [this, h1]
      rfl
    | iptr cs => rw [hx] at h1; simp only [loadAV] at h1 ⊢; rw [h1]; rfl
    | _ => rw [hx] at h1; simp [loadAV] at h1
  case slice t x lo hi mx =>
    obtain ⟨h1, h2⟩ := okv h
    refine ⟨h2, fun H1 hr => ?_⟩
    have e : sliceOp c t H1 (opv st.fr x) (lo.map (opv st.fr)) (hi.map (opv st.fr)) (mx.map (opv st.fr)) = sliceOp c t st.H (opv st.fr x) (lo.map (opv st.fr)) (hi.map (opv st.fr)) (mx.map (opv st.fr)) := by
      cases hx : opv st.fr x with
      | sl b off len =>
        simp only [hx] at hr
        have := hr (k, b, none) (by simp)
        simp only [AskedEq] at this
        unfold sliceOp sliceAV
        simp only [isSize_eq this]
      | _ => rfl
    rw [e, h1]; rfl
  case indexAddr t x ix =>
    obtain ⟨h1, h2⟩ := okv h
    refine ⟨h2, fun H1 hr => ?_⟩
    have e : indexAddrAV c (c.ty t) H1 (opv st.fr x) (opv st.fr ix) = indexAddrAV c (c.ty t) st.H (opv st.fr x) (opv st.fr ix) := by
      cases hx : opv st.fr x with
      | sl b off len =>
        simp only [hx] at hr
        have := hr (k, b, none) (by simp)
        simp only [AskedEq] at this
        unfold indexAddrAV elemAddr
        simp only [isSize_eq this]
      | _ => rfl
    rw [e, h1]; rfl
  case convert s t x =>
    obtain ⟨h1, h2⟩ := okv h
    exact ⟨h2, fun H1 _ => by rw [h1]; rfl⟩
  case call cl =>
    unfold callsOp at h ⊢
    cases hcal : cl.callee with
    | builtin b =>
      simp only [hcal] at hq h ⊢
      cases b <;> try (exact Bool.noConfusion hq)
      revert h
      generalize cl.args.toList.map (opv st.fr) = vs
      intro h
      cases vs with
      | nil => simp [builtinAV] at h
      | cons x r => cases r with
        | cons y r => simp [builtinAV] at h
        | nil =>
          unfold builtinAV at h ⊢
          dsimp only at h ⊢
          split at h
          · rename_i hts
            have key : ∀ H1, lenInt c (c.ty (cl.argTypes.getD 0 0)) H1 x = lenInt c (c.ty (cl.argTypes.getD 0 0)) st.H x := fun H1 => by
              unfold lenInt
              cases hd : (c.ty (cl.argTypes.getD 0 0)).d with
              | map k e => rw [hd] at hq; exact Bool.noConfusion hq
              | str => cases x <;> rfl
              | slice e => cases x <;> rfl
              | _ => rfl
            unfold lenOp at h
            split at h
            · rename_i nn hl
              simp at h
              refine ⟨h.2.symm, fun H1 _ => ?_⟩
              unfold lenOp
              rw [key H1, hl, ← h.1]
            · cases h
          · cases h
    | _ => simp [hcal] at hq
  all_goals
    obtain ⟨h1, h2⟩ := okv h
    exact ⟨h2, fun H1 _ => by rw [h1]; rfl⟩

/-! ### The plan -/
/-- What is pending is known to the plan. -/
def PendRel (tk : List Nat) (rd : List (Nat × Nat × Option Nat)) (H : Heap) (p : Pend) : Prop :=
  ∀ q ∈ p, q.2 H ∧ ((∀ H', q.2 H') ∨ (q.1 ∈ tk ∧ ∃ x ∈ rd, x.1 = q.1 ∧ ∀ H', AskedEq H H' x → q.2 H'))
def cnt (listed : Array Bool) : Nat := listed.toList.countP (!·)
theorem cnt_set {listed : Array Bool} {i : Nat} (h : listed.getD i true = false) : cnt (listed.setIfInBounds i true) + 1 = cnt listed := by
  have hlt : i < listed.size := by
    rcases Nat.lt_or_ge i listed.size with h' | h'
    · exact h'
    · rw [Array.getD_eq_getD_getElem?, Array.getElem?_eq_none h'] at h; cases h
  have hv : listed.toList[i]'(by simpa using hlt) = false := by
    rw [Array.getD_eq_getD_getElem?, Array.getElem?_eq_getElem hlt] at h
    simpa using h
  unfold cnt
  rw [Array.toList_setIfInBounds, List.countP_set (by simpa using hlt)]
  have hpos : 0 < listed.toList.countP (!·) := List.countP_pos_iff.2 ⟨false, by rw [← hv]; exact List.getElem_mem _, rfl⟩
  simp only [hv]
  simp only [Bool.not_false, if_true, Bool.not_true, Bool.false_eq_true, if_false]
  omega

theorem evPlan_any {m n : Nat} {ops : Array Oper} {bf : Array Nat} (hbf : bf = Region.before ops) (hsel : Region.noSelect ops = true) : ∀ (k kk : Nat) (p : Plan) (t : Tra) (st' : St) (listed : Array Bool) (tk : List Nat) (pend : Pend) (fuel : Nat),
    planOk c ops bf kk listed tk p = true → evPlan c rec m n ops k p t = some st' → PendRel tk t.rd t.st.H pend → Srt t.st.fr → Closed ops listed → cnt listed ≤ fuel →
    AnyA c rec n ops bf (fun fr H => To m n ⟨fr, H⟩ st') fuel listed pend t.st.fr t.st.H
  | 0, kk, p, t, st', listed, tk, pend, fuel, hp, he, _, _, _, _ => by simp [evPlan] at he
  | k + 1, 0, p, t, st', listed, tk, pend, fuel, hp, he, _, _, _, _ => by simp [planOk] at hp
  | k + 1, kk + 1, .done, t, st', listed, tk, pend, fuel, hp, he, hpr, hs, hcl, hcnt => by
    simp [evPlan] at he
    subst he
    simp [planOk] at hp
    exact AnyA.done c rec hp (To.refl _ _ _) fuel
  | k + 1, kk + 1, .take i p, t, st', listed, tk, pend, fuel, hp, he, hpr, hs, hcl, hcnt => by
    simp only [evPlan] at he
    simp only [planOk] at hp
    rw [Bool.and_eq_true, Bool.and_eq_true] at hp
    obtain ⟨⟨hp1, hp2⟩, hp3⟩ := hp
    have hr : i ∈ Region.ready .any ops listed := by simpa using hp3
    cases ho : ops[i]? with
    | none => simp [ho] at he
    | some o =>
      simp only [ho] at hp1 he
      rw [Bool.and_eq_true] at hp1
      cases hw : wantedAV ops o t.st.fr with
      | none => simp [hw] at he
      | some wd =>
        simp only [hw] at he
        cases hst : evStep c rec n ops o t.st with
        | none => simp [hst] at he
        | some st1 =>
          simp only [hst] at he
          obtain ⟨v, H1, hout, rfl⟩ := (evStep_iff c rec).1 hst
          -- what it asks
          obtain ⟨S, hS1, hS2, hS3, hH1⟩ : ∃ (S : Heap → Prop), S t.st.H ∧
              (∀ H', S H' → Outc c rec n ops o t.st.fr H' v H') ∧
              ((∀ H', S H') ∨ (wd = true ∧ asksHeap o = true ∧ ∃ x ∈ readsOf i o t.st, x.1 = i ∧ ∀ H', AskedEq t.st.H H' x → S H')) ∧ H1 = t.st.H := by
            cases wd with
            | false =>
              refine ⟨fun _ => True, trivial, fun H' _ => ?_, .inl fun _ => trivial, ?_⟩
              · obtain ⟨hd, ⟨h1, h2, h3⟩ | ⟨h1, _⟩⟩ := hout
                · exact ⟨hd, .inl ⟨h1, h2, rfl⟩⟩
                · rw [hw] at h1; cases h1
              · obtain ⟨hd, ⟨h1, h2, h3⟩ | ⟨h1, _⟩⟩ := hout
                · exact h3
                · rw [hw] at h1; cases h1
            | true =>
              obtain ⟨hd, ⟨h1, h2, h3⟩ | ⟨_, h1⟩⟩ := hout
              · rw [hw] at h1; cases h1
              obtain ⟨e1, e2⟩ := taken_evOp (k := i) hp1.1 h1
              refine ⟨fun H' => ∀ q ∈ readsOf i o t.st, AskedEq t.st.H H' q, fun q _ => AskedEq.refl _ _, fun H' hH' => ⟨hd, .inr ⟨hw, e2 H' hH'⟩⟩, ?_, e1⟩
              have hone : readsOf i o t.st = [] ∨ (asksHeap o = true ∧ ∃ b r, readsOf i o t.st = [(i, b, r)]) := by
                unfold readsOf asksHeap
                cases o.op <;> simp <;> (split <;> simp)
              rcases hone with h0 | ⟨h0, b, r, hbr⟩
              · exact .inl fun H' q hq => by rw [h0] at hq; cases hq
              · exact .inr ⟨rfl, h0, (i, b, r), by rw [hbr]; simp, rfl, fun H' hH' q hq => by
                  rw [hbr] at hq
                  simp at hq
                  subst hq
                  exact hH'⟩
          subst hH1
          have hfuel : ∃ f, fuel = f + 1 := by
            have := cnt_set (mem_ready.1 hr).1
            exact ⟨fuel - 1, by omega⟩
          obtain ⟨f, rfl⟩ := hfuel
          have hcnt' : cnt (listed.setIfInBounds i true) ≤ f := by
            have := cnt_set (mem_ready.1 hr).1
            omega
          refine AnyA.first c rec hbf (fun fr fr' H hl h => h.like hl) ho f listed pend t.st.fr t.st.H (Region.free_spec ho hp2) hr hS2 hS1 (fun q hq => (hpr q hq).1) hs hcl ?_
          refine evPlan_any hbf hsel k kk p { st := ⟨t.st.fr.put o.dst v, t.st.H⟩, rd := _ } st' _ (if asksHeap o then i :: tk else tk) ((i, S) :: pend) f hp1.2 he ?_ (hs.put _ _) (closed_set hcl hr) hcnt'
          intro q hq
          rcases List.mem_cons.1 hq with rfl | hq
          · refine ⟨hS1, ?_⟩
            rcases hS3 with h | ⟨h0, h1, x, h2, h3, h4⟩
            · exact .inl h
            · subst h0
              exact .inr ⟨by rw [if_pos h1]; simp, x, List.mem_append_left _ h2, h3, h4⟩
          · obtain ⟨q1, q2⟩ := hpr q hq
            refine ⟨q1, ?_⟩
            rcases q2 with h | ⟨h1, x, h2, h3, h4⟩
            · exact .inl h
            · refine .inr ⟨by split <;> simp [h1], x, ?_, h3, h4⟩
              cases wd
              · exact h2
              · exact List.mem_append_right _ h2
  | k + 1, kk + 1, .fork l, t, st', listed, tk, pend, fuel, hp, he, hpr, hs, hcl, hcnt => by
    simp only [planOk] at hp
    rw [Bool.and_eq_true, Bool.and_eq_true] at hp
    obtain ⟨⟨hp1, hp2⟩, hp3⟩ := hp
    have hready : Region.ready .any ops listed = l.map (·.1) := by simpa using hp2
    have hall := List.all_eq_true.1 hp3
    -- one branch
    have branch : ∀ q ∈ l, ∀ (u : Tra) (st1 : St) (f : Nat), forkStep c rec n ops q.1 q.2.1 t = some u → evPlan c rec m n ops k q.2.2 u = some st1 → cnt (listed.setIfInBounds q.1 true) ≤ f →
        ∃ o v H', ops[q.1]? = some o ∧ Outc c rec n ops o t.st.fr t.st.H v H' ∧ HoldA (stay bf q.1 pend) H' ∧
          AnyA c rec n ops bf (fun fr H => To m n ⟨fr, H⟩ st1) f (listed.setIfInBounds q.1 true) (stay bf q.1 pend) (t.st.fr.put o.dst v) H' := by
      intro q hq u st1 f hfk hev hcnt'
      have hr : q.1 ∈ Region.ready .any ops listed := by rw [hready]; exact List.mem_map_of_mem hq
      have hok := hall q hq
      rw [Bool.and_eq_true] at hok
      unfold forkStep at hfk
      cases ho : ops[q.1]? with
      | none => simp [ho] at hfk
      | some o =>
        simp only [ho] at hfk
        cases hst : evStep c rec n ops o t.st with
        | none => simp [hst] at hfk
        | some s1 =>
          simp only [hst] at hfk
          split at hfk
          · rename_i hsame
            simp only [Option.some.injEq] at hfk
            subst hfk
            obtain ⟨v, H', hout, rfl⟩ := (evStep_iff c rec).1 hst
            have hpend : PendRel (tk.filter q.2.1.contains) (t.rd.filter fun x => q.2.1.contains x.1) H' (stay bf q.1 pend) := by
              intro x hx
              obtain ⟨x1, x2⟩ := List.mem_filter.1 hx
              obtain ⟨y1, y2⟩ := hpr x x1
              rcases y2 with h | ⟨h1, z, h2, h3, h4⟩
              · exact ⟨h H', .inl h⟩
              · have hcon : q.2.1.contains x.1 = true := by
                  have := List.all_eq_true.1 hok.1 x.1 h1
                  rw [Bool.or_eq_true] at this
                  rcases this with h | h
                  · exact h
                  · rw [h] at x2; cases x2
                have hz : z ∈ t.rd.filter fun x => q.2.1.contains x.1 := List.mem_filter.2 ⟨h2, by rw [h3]; exact hcon⟩
                have hae := sameAsked_sound (List.all_eq_true.1 hsame z hz)
                exact ⟨h4 H' hae, .inr ⟨List.mem_filter.2 ⟨h1, hcon⟩, z, hz, h3, fun H2 h => h4 H2 (hae.trans h)⟩⟩
            exact ⟨o, v, H', rfl, hout, fun x hx => (hpend x hx).1, evPlan_any hbf hsel k kk q.2.2 _ st1 _ _ _ f hok.2 hev hpend (hs.put _ _) (closed_set hcl hr) hcnt'⟩
          · cases hfk
    cases l with
    | nil => simp at hp1
    | cons q r =>
      obtain ⟨i, wl, p⟩ := q
      have hr : i ∈ Region.ready .any ops listed := by rw [hready]; simp
      have hfuel : ∃ f, fuel = f + 1 := by
        have := cnt_set (mem_ready.1 hr).1
        exact ⟨fuel - 1, by omega⟩
      obtain ⟨f, rfl⟩ := hfuel
      have hcnt' : ∀ j ∈ Region.ready .any ops listed, cnt (listed.setIfInBounds j true) ≤ f := fun j hj => by
        have := cnt_set (mem_ready.1 hj).1
        omega
      have hne : Region.ready .any ops listed ≠ [] := fun e => by rw [e] at hr; cases hr
      cases r with
      | nil =>
        simp only [evPlan] at he
        split at he
        · cases he
        · rename_i u hfk
          refine ⟨fun h0 => absurd h0 hne, fun j hj => ?_⟩
          rw [hready] at hj
          simp at hj
          subst hj
          exact branch (j, wl, p) (by simp) u st' f hfk he (hcnt' _ hr)
      | cons q2 r =>
        simp only [evPlan] at he
        split at he
        · cases he
        rename_i t0 hf0
        split at he
        · cases he
        rename_i t1 hp1'
        obtain ⟨c1, hc1, hsc1⟩ := canon_det he
        rw [hc1] at he
        split at he
        case h_2 => cases he
        rename_i hall2
        simp only [Option.some.injEq] at he
        subst he
        refine ⟨fun h0 => absurd h0 hne, fun j hj => ?_⟩
        have hj' := hj
        rw [hready] at hj'
        obtain ⟨q, hq, rfl⟩ := List.mem_map.1 hj'
        rcases List.mem_cons.1 hq with rfl | hq'
        · obtain ⟨o, v, H', h1, h2, h3, h4⟩ := branch (i, wl, p) (by simp) t0 t1 f hf0 hp1' (hcnt' _ hj)
          exact ⟨o, v, H', h1, h2, h3, AnyA.to c rec (fun fr H h => h.trans (To.canon hc1 hsc1)) _ _ _ _ _ h4⟩
        · have hb := List.all_eq_true.1 hall2 q hq'
          split at hb
          · cases hb
          rename_i u hfk
          split at hb
          · cases hb
          rename_i t2 hp2'
          split at hb
          case h_2 => cases hb
          rename_i hcan
          obtain ⟨c2, hc2, hsc2⟩ := canon_det hcan
          rw [hc2] at hcan
          simp only [Option.some.injEq] at hcan
          have e := sameSt_sound hcan
          subst e
          obtain ⟨o, v, H', h1, h2, h3, h4⟩ := branch q hq u t2 f hfk hp2' (hcnt' _ hj)
          exact ⟨o, v, H', h1, h2, h3, AnyA.to c rec (fun fr H h => h.trans (To.canon hc2 hsc2)) _ _ _ _ _ h4⟩
end
end Go.Ev
