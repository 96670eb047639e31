/- Symbolic runs: calls, operations, steps. -/
import Derived.Test.YtkecfadnfnnfaaaSyL
set_option linter.unusedVariables false
set_option linter.unusedSimpArgs false
namespace Go.Sy
open Go Go.Ev

/-- An environment for a family's parameters. -/
def env0 (ps : List Ty) (x : Pr ps) : Env := Env.setP ps Env.none 0 x
theorem setP_before (ts : List Ty) (env : Env) (n : Nat) (x : Pr ts) (i : Nat) (h : i < n) (t : Ty) : Env.setP ts env n x i t = env i t := (agree_setP ts env n x i h t).symm
theorem env0_at (env : Env) : ∀ (ts : List Ty) (θ : List Ex) (base : Env) (k i : Nat) (t : Ty), ts[i]? = some t → Env.setP ts base k (mkPr env ts θ) (k + i) t = (θ.getD i .un).den env t
  | [], θ, base, k, i, t, h => by simp at h
  | [a], θ, base, k, i, t, h => by
    cases i with
    | zero =>
      simp only [List.getElem?_cons_zero, Option.some.injEq] at h
      subst h
      show (base.set k a (mkPr env [a] θ)) k a = _
      rw [set_same]
      cases θ <;> rfl
    | succ i => simp at h
  | a :: b :: l, θ, base, k, i, t, h => by
    cases i with
    | zero =>
      simp only [List.getElem?_cons_zero, Option.some.injEq] at h
      subst h
      show Env.setP (b :: l) (base.set k a (mkPr env (a :: b :: l) θ).1) (k + 1) (mkPr env (a :: b :: l) θ).2 k a = _
      rw [setP_before (b :: l) _ _ _ k (Nat.lt_succ_self k), set_same]
      cases θ <;> rfl
    | succ i =>
      simp only [List.getElem?_cons_succ] at h
      show Env.setP (b :: l) (base.set k a (mkPr env (a :: b :: l) θ).1) (k + 1) (mkPr env (a :: b :: l) θ).2 (k + (i + 1)) t = _
      have : (mkPr env (a :: b :: l) θ).2 = mkPr env (b :: l) θ.tail := by cases θ <;> rfl
      rw [this, show k + (i + 1) = k + 1 + i by omega, env0_at env (b :: l) θ.tail _ (k + 1) i t h]
      cases θ with
      | nil => rfl
      | cons e es => rfl
section
variable (c : Ctx) (rec : Task → Option Res) (tb : Tab)
/-- What a family's answer says of the world of calls and loops. -/
def Means (q : Fam) (e0 : Env) (ex : Go.Ev.Ex) (fr : Fr) (H : Heap) : Prop := match q.kind with
  | 1 => rec (.fn q.f ((embF e0 q.fr).map (·.2)) (embH e0 q.H)) = some (.val (Fr.get fr 0) H)
  | 2 => ∀ F b lb, c.fn q.f = some F → F.body = some b → lookL (loopsOf b 0) q.id = some lb → rec (.loop q.f q.id q.m lb ⟨embF e0 q.fr, embH e0 q.H⟩) = some (.code ex ⟨fr, H⟩)
  | _ => match c.prim q.f with
    | .pure p => p ((embF e0 q.fr).map (·.2)) = some (Fr.get fr 0)
    | _ => ∃ H', rec (.pfn q.f ((embF e0 q.fr).map (·.2))) = some (.val (Fr.get fr 0) H')
/-- Every answer is true. -/
def Sound (m : (f : Nat) → Pr (tb.P f) → Option (Sm (tb.O f))) : Prop := ∀ i x z, m i x = some z → ∀ (env : Env) (θ : List Ex) (n j : Nat) (o : Out), mkPr env (tb.P i) θ = x → IsAlt env (tb.O i) z j n →
  (tb.fam i).outs[j]? = some o → Means c rec (tb.fam i) (env0 (tb.P i) x) o.ex (embF env (o.state θ n).1) (embH env (o.state θ n).2)
end
section
variable {c : Ctx} {rec : Task → Option Res} {tb : Tab} {m : (f : Nat) → Pr (tb.P f) → Option (Sm (tb.O f))} {α : Type}
variable {env : Env} {s : SS} {Q : Env → α → Prop}
theorem lookC_ok {f : Nat} {θ : List Ex} {j n : Nat} : ∀ {fs : List Fact}, (∀ g ∈ fs, Fact.holds m env g) → lookC f θ fs = some (j, n) → ∃ z, m f (mkPr env (tb.P f) θ) = some z ∧ IsAlt env (tb.O f) z j n
  | [], _, h => by simp [lookC] at h
  | .call g xs i k len :: r, hf, h => by
    simp only [lookC] at h
    split at h
    · rename_i hx
      obtain ⟨h1, h2⟩ := and_t hx
      have e1 := natBeq h1
      have e2 := beqEs_eq h2
      subst e1 e2
      simp only [Option.some.injEq, Prod.mk.injEq] at h
      obtain ⟨rfl, rfl⟩ := h
      obtain ⟨z, h1, h2, _⟩ := hf (.call g xs i k len) (by simp)
      exact ⟨z, h1, h2⟩
    · exact lookC_ok (fun f hm => hf f (by simp [hm])) h
  | .cond .. :: r, hf, h => by simp only [lookC] at h; exact lookC_ok (fun f hm => hf f (by simp [hm])) h
  | .idx .. :: r, hf, h => by simp only [lookC] at h; exact lookC_ok (fun f hm => hf f (by simp [hm])) h
theorem alts_ok {f : Nat} {θ : List Ex} {K : Out → Nat → SS → T α} : ∀ (l : List Out) (j : Nat) (z : Sm (l.map Out.ts)),
    (∀ k o env', l[k]? = some o → IsAlt env' (l.map Out.ts) z k s.nx → Agree s.nx env env' →
      Ok m (K o s.nx { s with nx := s.nx + o.ts.length, fs := .call f θ (j + k) s.nx o.ts.length :: s.fs }) env' Q) → OkA m (alts f θ s K l j) (l.map Out.ts) z s.nx env Q
  | [], j, z, h => z.elim
  | [o], j, z, h => by
    simp only [List.map_cons, List.map_nil, alts, OkA]
    exact h 0 o _ rfl (getP_setP o.ts env s.nx z) (agree_setP o.ts env s.nx z)
  | o :: o2 :: l, j, .inl p, h => by
    simp only [List.map_cons, alts, OkA]
    exact h 0 o _ rfl (getP_setP o.ts env s.nx p) (agree_setP o.ts env s.nx p)
  | o :: o2 :: l, j, .inr y, h => by
    have := alts_ok (o2 :: l) (j + 1) y fun k o' env' hk ha hg => by
      have := h (k + 1) o' env' (by simpa using hk) ha hg
      rw [show j + (k + 1) = j + 1 + k by omega] at this
      exact this
    simp only [List.map_cons, alts, OkA] at this ⊢
    exact this
theorem callT_ok {f : Nat} {θ : List Ex} {pend : List SV} {K : Out → Nat → SS → T α} (hi : Inv m env s)
    (hk : ∀ env' o n j s' z, m f (mkPr env' (tb.P f) θ) = some z → IsAlt env' (tb.O f) z j n → (tb.fam f).outs[j]? = some o → ExtH m env s env' s' → SV.embL env' pend = SV.embL env pend →
      (∀ e ∈ θ, ∀ t, e.den env' t = e.den env t) → Ok m (K o n s') env' Q) : Ok m (callT tb f θ pend s K) env Q := by
  unfold callT
  split
  · rename_i j n hl
    obtain ⟨z, h1, h2⟩ := lookC_ok hi hl
    split
    · rename_i o ho
      exact hk env o n j s z h1 h2 ho (.refl hi) rfl (fun _ _ _ => rfl)
    · simp only [Ok]
  · split
    · rename_i hb
      obtain ⟨h1, h2⟩ := and_t hb
      obtain ⟨h2, h3⟩ := and_t h2
      simp only [Ok]
      intro z hz
      refine alts_ok (tb.fam f).outs 0 z fun k o env' hk' ha hg => ?_
      have hpr : mkPr env' (tb.P f) θ = mkPr env (tb.P f) θ := (mkPr_agree hg _ _ h3).symm
      refine hk env' o s.nx k _ z (by rw [hpr]; exact hz) ha hk' ⟨⟨?_, by simp, hg, rfl, (bnd_emb hg h1).1⟩, rfl, (bnd_emb hg h1).2⟩ (embL_agree hg h2).symm fun e he t => (den_agree hg (List.all_eq_true.mp h3 e he) t).symm
      refine Inv.add (s := { s with nx := s.nx + o.ts.length }) (fun g hg' => inv_agree hg h1 hi g hg') ?_
      refine ⟨z, by rw [hpr]; exact hz, by rw [Nat.zero_add]; exact ha, o.ts, ?_, rfl⟩
      show ((tb.fam f).outs.map Out.ts)[0 + k]? = some o.ts
      rw [Nat.zero_add, List.getElem?_map, hk']
      rfl
    · simp only [Ok]
theorem findFam_ok : ∀ {l : List Nat} {fr : SF} {H : SH} {θ : List (Ty × Ex)} {i : Nat}, findFam tb l fr H θ = some i → (tb.fam i).fr = fr ∧ (tb.fam i).H = H ∧ (tb.fam i).ps = θ.map (·.1)
  | [], _, _, _, _, h => by simp [findFam] at h
  | j :: l, fr, H, θ, i, h => by
    simp only [findFam] at h
    split at h
    · rename_i hb
      simp only [Option.some.injEq] at h
      subst h
      obtain ⟨h1, h2⟩ := and_t hb
      obtain ⟨h2, h3⟩ := and_t h2
      exact ⟨beqF_eq h1, beqH_eq h2, tysEq_eq h3⟩
    · exact findFam_ok h
/-- A state is its family's, its holes the parameters. -/
theorem fam_state {i : Nat} {fr fr' : SF} {H H' : SH} {θ : List (Ty × Ex)} (h : absS fr H = some (fr', H', θ)) (h1 : (tb.fam i).fr = fr') (h2 : (tb.fam i).H = H') (h3 : (tb.fam i).ps = θ.map (·.1)) (env : Env) :
    embF (env0 (tb.P i) (mkPr env (tb.P i) (θ.map (·.2)))) (tb.fam i).fr = embF env fr ∧ embH (env0 (tb.P i) (mkPr env (tb.P i) (θ.map (·.2)))) (tb.fam i).H = embH env H := by
  rw [h1, h2]
  refine absS_ok h fun k t e hk => ?_
  have hp : (tb.P i)[k]? = some t := by
    show (tb.fam i).ps[k]? = some t
    rw [h3, List.getElem?_map, hk]
    rfl
  have := env0_at env (tb.P i) (θ.map (·.2)) Env.none 0 k t hp
  rw [Nat.zero_add] at this
  rw [show env0 (tb.P i) (mkPr env (tb.P i) (θ.map (·.2))) k t = _ from this]
  congr 1
  rw [List.getD_eq_getElem?_getD, List.getElem?_map, hk]
  rfl
theorem reifyArgs_emb : ∀ {ts : List Ty} {vs : List SV} {θ : List Ex} {k : Nat} {e : Env}, reifyArgs ts vs = some θ → (∀ i t, ts[i]? = some t → e (k + i) t = (θ.getD i .un).den env t) → SV.embL e (svals ts k) = SV.embL env vs
  | [], [], θ, k, e, h, he => rfl
  | t :: ts, v :: vs, θ, k, e, h, he => by
    simp only [reifyArgs] at h
    split at h
    · rename_i x es h1 h2
      simp only [Option.some.injEq] at h
      subst h
      have e1 : e k t = x.den env t := he 0 t rfl
      show (sval t (.v k)).emb e :: SV.embL e (svals ts (k + 1)) = v.emb env :: SV.embL env vs
      rw [emb_sval, reifyV_ok env h1, reifyArgs_emb h2 fun i u hu => by
        have := he (i + 1) u (by simpa using hu)
        rw [show k + 1 + i = k + (i + 1) by omega]
        exact this]
      show valT t (e k t) :: _ = _
      rw [e1]
    · cases h
  | [], _ :: _, θ, k, e, h, he => by simp [reifyArgs] at h
  | _ :: _, [], θ, k, e, h, he => by simp [reifyArgs] at h
theorem s_primPure (p : List AV → Option AV) (args : List AV) (H : Heap) : primPure p args H =
    (mapM' (freezeN H 12) args).bind fun fs => (p fs).bind fun v => if flatN 8 v = true then some (v, H) else (shutAll (args.flatMap (frozenIn 12)) H).bind fun H => some (v, H) := by
  unfold primPure
  cases mapM' (freezeN H 12) args with
  | none => rfl
  | some fs =>
    simp only [Option.bind_some]
    cases p fs with
    | none => rfl
    | some v =>
      simp only [Option.bind_some]
      cases flatN 8 v with
      | true => rfl
      | false =>
        simp only
        cases shutAll (args.flatMap (frozenIn 12)) H <;> rfl
theorem frozenIn_embL (env : Env) (l : List SV) : (SV.embL env l).flatMap (frozenIn 12) = l.flatMap (frozenInS 12) := by
  rw [embL_map, List.flatMap_map]
  congr 1
  funext v
  exact frozenIn_emb env 12 v
variable {K : SV → SS → T α}
/-- A call of frozen arguments. -/
noncomputable def pureRes (c : Ctx) (rec : Task → Option Res) (f : FuncId) (args : List AV) (H : Heap) : Option (AV × Heap) := match c.prim f with
  | .pure p => primPure p args H
  | _ => callPure rec f args H
theorem pureT_ok (hs : Sound c rec tb m) {f : FuncId} {args fs : List SV} (hi : Inv m env s) (hf : mapM' (freezeN (embH env s.H) 12) (SV.embL env args) = some (SV.embL env fs))
    (hk : Next m (pureRes c rec f (SV.embL env args) (embH env s.H)) env s K Q) : Ok m (pureT tb f args fs s K) env Q := by
  unfold pureT
  refine opt_ok fun fam hfam => opt_ok fun θ hθ => iff_ok fun hb => ?_
  obtain ⟨b1, b2⟩ := and_t hb
  obtain ⟨b2, b3⟩ := and_t b2
  refine callT_ok hi fun env' o n j s1 z hz ha ho e1 hp hθ' => ?_
  have hm := hs fam _ z hz env' θ n j o rfl ha ho
  have hargs : (embF (env0 (tb.P fam) (mkPr env' (tb.P fam) θ)) (tb.fam fam).fr).map (·.2) = SV.embL env fs := by
    rw [embF_vals, svBeqL_eq b3]
    refine reifyArgs_emb hθ fun i t ht => ?_
    have := env0_at env' (tb.P fam) θ Env.none 0 i t ht
    rw [show (0 + i) = i by omega] at this ⊢
    rw [show env0 (tb.P fam) (mkPr env' (tb.P fam) θ) i t = _ from this]
    cases hg : θ[i]? with
    | none => rw [List.getD_eq_getElem?_getD, hg]; rfl
    | some x =>
      rw [List.getD_eq_getElem?_getD, hg]
      exact hθ' x (List.mem_of_getElem? hg) t
  have hkind : (tb.fam fam).kind = 0 ∨ (tb.fam fam).kind = 3 := by
    rcases Bool.or_eq_true _ _ |>.mp b1 with h | h
    · exact .inl (natBeq h)
    · exact .inr (natBeq h)
  have hm' : match c.prim (tb.fam fam).f with
    | .pure p => p (SV.embL env fs) = some ((getZ (o.state θ n).1).emb env')
    | _ => ∃ H', rec (.pfn (tb.fam fam).f (SV.embL env fs)) = some (.val ((getZ (o.state θ n).1).emb env') H') := by
    unfold Means at hm
    have hz' : Fr.get (embF env' (o.state θ n).1) 0 = (getZ (o.state θ n).1).emb env' := (getF_emb env' _ 0).symm
    rw [hz'] at hm
    rcases hkind with h | h <;> (rw [h] at hm; simp only [hargs] at hm; exact hm)
  rw [natBeq b2] at hm'
  have res : pureRes c rec f (SV.embL env args) (embH env s.H) = if flatS 8 (getZ (o.state θ n).1) = true then some ((getZ (o.state θ n).1).emb env', embH env s.H) else (shutAll (args.flatMap (frozenInS 12)) (embH env s.H)).bind fun H => some ((getZ (o.state θ n).1).emb env', H) := by
    unfold pureRes
    cases hpr : c.prim f with
    | pure p =>
      rw [hpr] at hm'
      simp only at hm' ⊢
      rw [s_primPure, hf, Option.bind_some, hm', Option.bind_some, flatN_emb, frozenIn_embL]
    | no =>
      rw [hpr] at hm'
      obtain ⟨H', hm'⟩ := hm'
      simp only
      rw [s_callPure, hf, Option.bind_some, hm', Option.bind_some, s_valK, flatN_emb, frozenIn_embL]
    | clone e =>
      rw [hpr] at hm'
      obtain ⟨H', hm'⟩ := hm'
      simp only
      rw [s_callPure, hf, Option.bind_some, hm', Option.bind_some, s_valK, flatN_emb, frozenIn_embL]
  simp only
  split
  · rename_i hfl
    rw [if_pos hfl] at res
    exact hk.same e1 res
  · rename_i hfl
    rw [if_neg (by rw [hfl]; simp)] at res
    refine opt_ok fun H hH => hk env' _ _ ?_ (e1.toExt.setH _)
    rw [res, ← e1.emH, ← e1.H, shutAllS_ok hH]
    rfl
theorem backBlks_emb (env : Env) (τ : Nat → Nat) : ∀ (l : List Nat) (H' H : SH), ((embH env H').drop l.length, laid τ l (embH env H') (embH env H)) = (embH env (backBlksS τ l H' H).1, embH env (backBlksS τ l H' H).2)
  | [], H', H => rfl
  | b :: l, [], H => by
    have := backBlks_emb env τ l [] H
    simp only [Prod.mk.injEq] at this
    show (([] : Heap).drop (l.length + 1), laid τ l [] (embH env H)) = (embH env (backBlksS τ l [] H).1, embH env (backBlksS τ l [] H).2)
    rw [← this.2, ← this.1]
    simp [embH]
  | b :: l, x :: H', H => by
    have := backBlks_emb env τ l H' (H.set b (x.ren τ))
    rw [embH_set, ← blkRen_emb] at this
    exact this
theorem embF_argF (env : Env) : ∀ (k : Nat) (l : List SV), (embF env (argF k l)).map (·.2) = SV.embL env l
  | _, [] => rfl
  | k, v :: l => by
    show v.emb env :: (embF env (argF (k + 1) l)).map (·.2) = v.emb env :: SV.embL env l
    rw [embF_argF env (k + 1) l]
theorem rawT_ok (hs : Sound c rec tb m) {f : FuncId} {args : List SV} (hi : Inv m env s) (hk : Next m (callRaw rec f (SV.embL env args) (embH env s.H)) env s K Q) : Ok m (rawT tb f args s K) env Q := by
  unfold rawT
  refine opt_ok fun seen hseen => ?_
  simp only
  refine opt_ok fun p hp => ?_
  obtain ⟨fr, H, θ⟩ := p
  simp only
  refine opt_ok fun fam hfam => iff_ok fun hb => ?_
  obtain ⟨b1, b2⟩ := and_t hb
  obtain ⟨f1, f2, f3⟩ := findFam_ok hfam
  refine callT_ok hi fun env' o n j s1 z hz ha ho e1 hpend hθ' => ?_
  have hm := hs fam _ z hz env' _ n j o rfl ha ho
  obtain ⟨g1, g2⟩ := fam_state (tb := tb) (i := fam) hp f1 f2 f3 env'
  unfold Means at hm
  rw [natBeq b1] at hm
  simp only [g1, g2, natBeq b2, embF_argF] at hm
  have hz' : Fr.get (embF env' (o.state (θ.map (·.2)) n).1) 0 = (getZ (o.state (θ.map (·.2)) n).1).emb env' := (getF_emb env' _ 0).symm
  rw [hz'] at hm
  refine hk env' _ _ ?_ (e1.toExt.setH _)
  rw [← e1.emH, ← hpend, s_callRaw, reach_emb, hseen, Option.bind_some, renBlks_eq, pick_emb, ren_embL, hm, Option.bind_some, s_valK, backBlks_eq, newBlks_eq]
  have hbk := backBlks_emb env' (backNo seen seen.length s.H.length) seen (o.state (θ.map (·.2)) n).2 s.H
  simp only [Prod.mk.injEq] at hbk
  rw [embH_length, hbk.1, hbk.2, show Ev.ren (backNo seen seen.length s.H.length) ((getZ (o.state (θ.map (·.2)) n).1).emb env') = _ from renN_emb env' _ 8 _, e1.H, embH_app]
  congr 2
  congr 1
  simp only [embH, List.map_map, Function.comp_def]
  exact List.map_congr_left fun b _ => blkRen_emb env' _ b
theorem allFrozen {H : Heap} : ∀ {l : List AV} {r : List AV}, mapM' (freezeN H 12) l = some r → (l.all fun v => (freezeN H 12 v).isSome) = true
  | [], r, h => rfl
  | v :: l, r, h => by
    rw [mapM'_cons, s_consO] at h
    cases h1 : freezeN H 12 v with
    | none => rw [h1] at h; simp at h
    | some x =>
      rw [h1, Option.bind_some] at h
      cases h2 : mapM' (freezeN H 12) l with
      | none => rw [h2] at h; simp at h
      | some y => simp only [List.all_cons, h1, Option.isSome_some, Bool.true_and]; exact allFrozen h2
theorem notFrozen {H : Heap} : ∀ {l : List AV}, mapM' (freezeN H 12) l = none → (l.all fun v => (freezeN H 12 v).isSome) = false
  | [], h => by simp [mapM'_nil] at h
  | v :: l, h => by
    rw [mapM'_cons, s_consO] at h
    cases h1 : freezeN H 12 v with
    | none => simp only [List.all_cons, h1, Option.isSome_none, Bool.false_and]
    | some x =>
      rw [h1, Option.bind_some] at h
      cases h2 : mapM' (freezeN H 12) l with
      | none => simp only [List.all_cons, notFrozen h2, Bool.and_false]
      | some y => rw [h2] at h; simp at h
theorem callS_ok (hs : Sound c rec tb m) {f : FuncId} {args : List SV} (hi : Inv m env s) (hk : Next m (callAV c rec f (SV.embL env args) (embH env s.H)) env s K Q) : Ok m (callS c tb f args s K) env Q := by
  have pure : ∀ {fs : List SV} {g : List Ex}, freezeArgs s.H args = some (fs, g) → callAV c rec f (SV.embL env args) (embH env s.H) = pureRes c rec f (SV.embL env args) (embH env s.H) → Ok m (guards g s fun s => pureT tb f args fs s K) env Q := fun {fs g} h he => by
    refine guards_ok hi fun s1 hg e1 => ?_
    have hf := freezeL_ok (env := env) 12 h hg
    refine pureT_ok hs e1.inv (by rw [e1.H]; exact hf) ?_
    intro env' v s' hr e2
    refine hk env' v s' ?_ (e1.toExt.trans e2)
    rw [he, ← e1.H]
    exact hr
  unfold callS
  split
  · rename_i e he
    rw [s_callClone c rec f _ _ e he] at hk
    exact cloneT_ok hi hk
  · rename_i p hp
    refine opt_ok fun q hq => ?_
    obtain ⟨fs, g⟩ := q
    refine pure hq ?_
    unfold callAV pureRes
    rw [hp]
  · rename_i hno
    split
    · rename_i hr
      rw [s_callNo c rec f _ _ hno, hr, Bool.true_or, if_pos rfl] at hk
      exact rawT_ok hs hi hk
    · rename_i hr
      split
      · rename_i hn
        have : ((SV.embL env args).all fun v => (freezeN (embH env s.H) 12 v).isSome) = false := notFrozen (freezeL_none 12 hn)
        rw [s_callNo c rec f _ _ hno, hr, this, Bool.not_false, Bool.or_true, if_pos rfl] at hk
        exact rawT_ok hs hi hk
      · rename_i fs g hq
        refine guards_ok hi fun s1 hg e1 => ?_
        have hf := freezeL_ok (env := env) 12 hq hg
        refine pureT_ok hs e1.inv (by rw [e1.H]; exact hf) ?_
        intro env' v s' hr' e2
        refine hk env' v s' ?_ (e1.toExt.trans e2)
        rw [s_callNo c rec f _ _ hno, hr, allFrozen hf, ← e1.H, ← hr']
        unfold pureRes
        rw [hno]
        rfl

/-! ### Operations and steps -/
theorem parts_emb (env : Env) (fr : SF) (l : List (Nat × Operand)) : (l.map fun p => (p.1, opvS fr p.2)).map (fun p => (p.1, p.2.emb env)) = l.map fun p => (p.1, opv (embF env fr) p.2) := by
  rw [List.map_map]
  exact List.map_congr_left fun p _ => by simp only [Function.comp_apply, opvS_emb]
theorem opvs_emb (env : Env) (fr : SF) (l : List Operand) : SV.embL env (l.map (opvS fr)) = l.map (opv (embF env fr)) := by
  rw [embL_map, List.map_map]
  exact List.map_congr_left fun p _ => opvS_emb env fr p
theorem opvo_emb (env : Env) (fr : SF) (l : Option Operand) : (l.map (opvS fr)).map (SV.emb env) = l.map (opv (embF env fr)) := by
  cases l with
  | none => rfl
  | some x => simp only [Option.map_some, opvS_emb]
theorem callsT_ok (hs : Sound c rec tb m) {cl : Call} (hi : Inv m env s) (hk : Next m (callsOp c rec cl (embF env s.fr) (embH env s.H)) env s K Q) : Ok m (callsT c tb cl s K) env Q := by
  unfold callsT
  unfold callsOp at hk
  split
  · rename_i f hf
    rw [hf] at hk
    simp only at hk
    split
    · rename_i g caps hg
      rw [← opvS_emb, hg] at hk
      refine callS_ok hs hi ?_
      rw [embL_app, opvs_emb]
      exact hk
    · simp only [Ok]
  · rename_i b hb
    rw [hb] at hk
    simp only at hk
    refine builtinT_ok hi ?_
    rw [opvs_emb]
    exact hk
  · simp only [Ok]
theorem opS_ok (hs : Sound c rec tb m) {o : Oper} (hi : Inv m env s) (hk : Next m (evOp c rec o (embF env s.fr) (embH env s.H)) env s K Q) : Ok m (opS c tb o s K) env Q := by
  unfold opS
  unfold evOp at hk
  cases ho : o.op <;> simp only [ho] at hk ⊢ <;> try (simp only [Ok]; done)
  · rename_i x
    exact hk.same (.refl hi) (by rw [opvS_emb])
  · rename_i x
    exact hk.same (.refl hi) (by rw [opvS_emb])
  · exact pickT_ok hi (by simp only [opvS_emb]; exact hk)
  · exact allocT_ok hi hk
  · exact boxT_ok hi (by simp only [opvS_emb]; exact hk)
  · refine opt_ok fun v hv => hk.pure hi ?_
    rw [← parts_emb]
    exact buildE_ok env hv
  · refine buildSliceT_ok hi ?_
    rw [parts_emb]
    exact hk
  · exact loadT_ok hi (by simp only [opvS_emb]; exact hk)
  · rename_i t a v
    refine storeT_ok hi fun env' s' h e => hk env' _ s' ?_ e
    simp only [opvS_emb] at h
    rw [s_storeOp, h]
    rfl
  · refine opt_ok fun v hv => hk.pure hi ?_
    rw [← opvS_emb]
    exact nilCheckE_ok env hv
  · refine opt_ok fun p hp => ?_
    obtain ⟨v, g⟩ := p
    refine guard_ok hi fun s1 hg e1 => hk.same e1 ?_
    rw [← opvS_emb, ← opvS_emb, binopE_ok env hp hg]
    rfl
  · refine opt_ok fun v hv => hk.pure hi ?_
    rw [← opvS_emb]
    exact unopE_ok env hv
  · refine opt_ok fun v hv => hk.pure hi ?_
    rw [← opvS_emb]
    exact convertE_ok env hv
  · refine opt_ok fun v hv => hk.pure hi ?_
    rw [← opvS_emb]
    exact ifaceE_ok env hv
  · refine opt_ok fun v hv => hk.pure hi ?_
    rw [← opvs_emb]
    exact makeFuncE_ok env hv
  · refine makeMapT_ok hi ?_
    rw [opvo_emb]
    exact hk
  · exact makeSliceT_ok hi (by simp only [opvS_emb]; exact hk)
  · refine sliceT_ok hi ?_
    simp only [opvo_emb, opvS_emb]
    exact hk
  · refine opt_ok fun v hv => hk.pure hi ?_
    rw [← opvS_emb]
    exact fieldAddrE_ok env hv
  · refine opt_ok fun v hv => hk.pure hi ?_
    rw [← opvS_emb]
    exact fieldE_ok env hv
  · exact indexAddrT_ok hi (by simp only [opvS_emb]; exact hk)
  · exact indexT_ok hi (by simp only [opvS_emb]; exact hk)
  · refine opt_ok fun v hv => hk.pure hi ?_
    rw [← opvS_emb]
    exact extractE_ok env hv
  · exact callsT_ok hs hi hk
theorem wantedT_ok {ops : Array Oper} {o : Oper} {K : Bool → SS → T α} (hi : Inv m env s)
    (hk : ∀ w s', wantedAV ops o (embF env s.fr) = some w → ExtH m env s env s' → Ok m (K w s') env Q) : Ok m (wantedT ops o s K) env Q := by
  unfold wantedT
  unfold wantedAV at hk
  split
  · rename_i hg
    exact hk true s (by rw [hg]) (.refl hi)
  · rename_i j want hg
    split
    · rename_i d hd
      simp only [hg, hd] at hk
      split
      · rename_i e he
        rw [← getF_emb, he] at hk
        refine branch_ok hi fun b s1 hb e1 => hk _ s1 ?_ e1
        simp only [SV.emb, hb]
        cases b <;> cases want <;> rfl
      · rename_i vs he
        rw [← getF_emb, he] at hk
        exact hk false s rfl (.refl hi)
      · simp only [Ok]
    · simp only [Ok]
/-- A later state on the way, its frame another one. -/
structure Later (m : (f : Nat) → Pr (tb.P f) → Option (Sm (tb.O f))) (env : Env) (s : SS) (env' : Env) (s' : SS) : Prop where
  inv : Inv m env' s'
  nx : s.nx ≤ s'.nx
  agr : Agree s.nx env env'
theorem Later.trans {e1 e2 e3 : Env} {s1 s2 s3 : SS} (h : Later m e1 s1 e2 s2) (k : Later m e2 s2 e3 s3) : Later m e1 s1 e3 s3 := ⟨k.inv, Nat.le_trans h.nx k.nx, h.agr.trans k.agr h.nx⟩
theorem Ext.later {e1 e2 : Env} {s1 s2 : SS} (h : Ext m e1 s1 e2 s2) : Later m e1 s1 e2 s2 := ⟨h.inv, h.nx, h.agr⟩
theorem Later.refl (hi : Inv m env s) : Later m env s env s := ⟨hi, Nat.le_refl _, Agree.refl⟩
theorem stepT_ok (hs : Sound c rec tb m) {n : Nat} {ops : Array Oper} {o : Oper} {K : Bool → SS → T α} (hi : Inv m env s)
    (hk : ∀ env' w s', wantedAV ops o (embF env s.fr) = some w → evStep c rec n ops o (s.emb env) = some (s'.emb env') → Later m env s env' s' → Ok m (K w s') env' Q) : Ok m (stepT c tb n ops o s K) env Q := by
  unfold stepT
  split
  · simp only [Ok]
  · rename_i hd
    refine wantedT_ok hi fun w s1 hw e1 => ?_
    have hst : s.emb env = ⟨embF env s.fr, embH env s.H⟩ := rfl
    split
    · refine hk env false _ hw ?_ ⟨e1.inv, e1.nx, e1.agr⟩
      rw [s_evStep, if_pos hd, hst]
      simp only [hw, Option.bind_some]
      rw [if_neg (by simp)]
      simp only [SS.emb, putF_emb, e1.fr, e1.H]
      rfl
    · refine opS_ok hs e1.inv fun env' v s2 h2 e2 => ?_
      refine hk env' true _ hw ?_ ((e1.toExt.later).trans ⟨e2.inv, e2.nx, e2.agr⟩)
      rw [s_evStep, if_pos hd, hst]
      simp only [hw, Option.bind_some, if_true]
      rw [e1.fr, e1.H] at h2
      rw [h2, Option.bind_some]
      have hF := e2.emF
      rw [e1.fr] at hF
      simp only [SS.emb, putF_emb, e2.fr, e1.fr, hF]
theorem listT_ok (hs : Sound c rec tb m) {n : Nat} {ops : Array Oper} {K : SS → T α} : ∀ {l : List Oper} {env : Env} {s : SS}, Inv m env s →
    (∀ env' s', evList c rec n ops l (s.emb env) = some (s'.emb env') → Later m env s env' s' → Ok m (K s') env' Q) → Ok m (listT c tb n ops l s K) env Q
  | [], env, s, hi, hk => hk env s rfl (.refl hi)
  | o :: l, env, s, hi, hk => by
    unfold listT
    refine stepT_ok hs hi fun env1 w s1 hw h1 e1 => ?_
    refine listT_ok hs e1.inv fun env2 s2 h2 e2 => hk env2 s2 ?_ (e1.trans e2)
    rw [s_evList, h1, Option.bind_some, h2]
end
end Go.Sy
