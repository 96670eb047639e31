/- Symbolic runs: what a family's tree says is true of its function or loop. -/
import Derived.Test.YtkecfadnfnnfaaaSyO
set_option linter.unusedVariables false
set_option linter.unusedSimpArgs false
noncomputable section
namespace Go.Sy
open Go Go.Ev

/-! ### Results -/
def tupA : List AV → AV | [v] => v | vs => .tup vs
theorem tupOf_emb (env : Env) (l : List SV) : (tupOf l).emb env = tupA (SV.embL env l) := by
  cases l with
  | nil => rfl
  | cons a l => cases l <;> rfl
theorem freezeR_tupA {H : Heap} : ∀ {vs ws : List AV}, mapM' (freezeN H 12) vs = some ws → freezeR H (tupA vs) = some (tupA ws)
  | [], ws, h => by
    simp only [mapM'_nil, Option.some.injEq] at h
    subst h
    rfl
  | [v], ws, h => by
    rw [mapM'_cons, s_consO, mapM'_nil] at h
    cases h1 : freezeN H 12 v with
    | none => rw [h1] at h; simp at h
    | some w =>
      rw [h1] at h
      simp only [Option.bind_some, Option.some.injEq] at h
      subst h
      show freezeR H v = some w
      cases v with
      | tup vs => simp [freezeN] at h1
      | _ => exact h1
  | a :: b :: l, ws, h => by
    have hl : ∃ x y r, ws = x :: y :: r := by
      rw [mapM'_cons, s_consO, mapM'_cons, s_consO] at h
      cases h1 : freezeN H 12 a with
      | none => rw [h1] at h; simp at h
      | some x =>
        cases h2 : freezeN H 12 b with
        | none => rw [h1, h2] at h; simp at h
        | some y =>
          cases h3 : mapM' (freezeN H 12) l with
          | none => rw [h1, h2, h3] at h; simp at h
          | some r =>
            rw [h1, h2, h3] at h
            simp only [Option.bind_some, Option.some.injEq] at h
            exact ⟨x, y, r, h.symm⟩
    obtain ⟨x, y, r, rfl⟩ := hl
    show freezeR H (.tup (a :: b :: l)) = some (.tup (x :: y :: r))
    rw [s_freezeRt, h]
    rfl
section
variable {c : Ctx} {rec : Task → Option Res} {tb : Tab} {m : (f : Nat) → Pr (tb.P f) → Option (Sm (tb.O f))} {α : Type}
variable {Q : Env → α → Prop}
theorem resultS_ok {r : ResultVar} {env : Env} {s : SS} {K : SV → SS → T α} (hi : Inv m env s)
    (hk : ∀ env' v s', resultAV c (s.emb env) r = some (v.emb env') → s'.emb env' = s.emb env → Later m env s env' s' → Ok m (K v s') env' Q) : Ok m (resultS c r s K) env Q := by
  unfold resultS
  cases r with
  | tmp t =>
    refine hk env _ s ?_ rfl (.refl hi)
    show some (Fr.get (embF env s.fr) t) = _
    rw [getF_emb]
  | cell a t =>
    refine loadT_ok hi fun env' v s' h e => hk env' v s' ?_ ?_ e.later
    · show loadAV c t (embH env s.H) (Fr.get (embF env s.fr) a) = _
      rw [← getF_emb]
      cases hl : loadAV c t (embH env s.H) ((getF s.fr a).emb env) with
      | none => rw [hl] at h; simp [okV] at h
      | some w =>
        rw [hl] at h
        simp only [okV, Option.some.injEq, Prod.mk.injEq] at h
        rw [h.1]
    · unfold SS.emb
      rw [e.fr, e.emF]
      cases hl : loadAV c t (embH env s.H) ((getF s.fr a).emb env) with
      | none => rw [hl] at h; simp [okV] at h
      | some w =>
        rw [hl] at h
        simp only [okV, Option.some.injEq, Prod.mk.injEq] at h
        rw [← h.2]
theorem resultsS_ok : ∀ {l : List ResultVar} {vs : List SV} {env : Env} {s : SS} {K : List SV → SS → T α}, Inv m env s →
    (∀ env' ws rs s', mapM' (resultAV c (s.emb env)) l = some rs → SV.embL env' ws = SV.embL env vs ++ rs → s'.emb env' = s.emb env → Later m env s env' s' → Ok m (K ws s') env' Q) → Ok m (resultsS c l vs s K) env Q
  | [], vs, env, s, K, hi, hk => hk env vs [] s rfl (by simp) rfl (.refl hi)
  | r :: l, vs, env, s, K, hi, hk => by
    unfold resultsS
    refine iff_ok fun hb => resultS_ok hi fun env1 v s1 h1 hst e1 => resultsS_ok e1.inv fun env2 ws rs s2 h2 hw hst2 e2 => ?_
    obtain ⟨b1, b2⟩ := and_t hb
    refine hk env2 ws (v.emb env1 :: rs) s2 ?_ ?_ (hst2.trans hst) (e1.trans e2)
    · rw [hst] at h2
      rw [mapM'_cons, s_consO, h1, h2]
      rfl
    · rw [hw, embL_app, ← embL_agree e1.agr b2]
      simp [SV.embL]
theorem freezeMany_ok : ∀ {l acc : List SV} {env : Env} {s : SS} {K : List SV → SS → T α}, Inv m env s →
    (∀ xs s', mapM' (freezeN (embH env s.H) 12) (SV.embL env l) = some (SV.embL env xs) → ExtH m env s env s' → Ok m (K (acc ++ xs) s') env Q) → Ok m (freezeMany l acc s K) env Q
  | [], acc, env, s, K, hi, hk => by
    have := hk [] s rfl (.refl hi)
    rw [List.append_nil] at this
    exact this
  | v :: l, acc, env, s, K, hi, hk => by
    unfold freezeMany
    refine opt_ok fun p hp => ?_
    obtain ⟨x, g⟩ := p
    refine guards_ok hi fun s1 hg e1 => freezeMany_ok e1.inv fun xs s2 h2 e2 => ?_
    have := hk (x :: xs) s2 ?_ (e1.trans e2)
    · rw [List.append_assoc]
      exact this
    · rw [e1.H] at h2
      rw [SV.embL, mapM'_cons, s_consO, freezeE_ok 12 hp hg, h2]
      rfl
/-! ### Ends -/
theorem den_opt {γ : Type} {o : Option γ} {k : γ → T α} {os : List (List Ty)} {env : Env} {z : Sm os} (h : (opt o k).den tb.P tb.O m os env = some z) : ∃ a, o = some a ∧ (k a).den tb.P tb.O m os env = some z := by
  cases o with
  | none => simp only [opt, T.den, reduceCtorEq] at h
  | some a => exact ⟨a, rfl, h⟩
theorem den_iff {b : Bool} {k : T α} {os : List (List Ty)} {env : Env} {z : Sm os} (h : (iff b k).den tb.P tb.O m os env = some z) : b = true ∧ k.den tb.P tb.O m os env = some z := by
  cases b with
  | false => simp only [iff, T.den, reduceCtorEq] at h
  | true => exact ⟨rfl, h⟩
theorem den_outT {o : Option (Nat × List Ex)} {os : List (List Ty)} {env : Env} {z : Sm os} (h : (outT o : T α).den tb.P tb.O m os env = some z) : ∃ j es, o = some (j, es) ∧ mkSm env os j es = some z := by
  cases o with
  | none => simp only [outT, T.den, reduceCtorEq] at h
  | some p => obtain ⟨j, es⟩ := p; simp only [outT, T.den] at h; exact ⟨j, es, rfl, h⟩
theorem tyAt_ok : ∀ {ps : List Ty} {i : Nat} {t : Ty}, tyAt ps i t = true → ps[i]? = some t
  | [], _, _, h => by simp [tyAt] at h
  | a :: l, 0, t, h => by simp only [tyAt] at h; rw [tyBeq_eq h]; rfl
  | a :: l, i + 1, t, h => by simp only [tyAt] at h; simpa using tyAt_ok h
/-- What stands in the holes of a result. -/
theorem newEx_ok {ps : List Ty} {env1 envC : Env} {θ : List Ex} (hp : ∀ i t, ps[i]? = some t → (θ.getD i .un).den envC t = env1 i t) : ∀ {hs : List (Hk × Ty)} {θ' : List (Ty × Ex)} {es : List Ex} {n : Nat}, newEx ps hs θ' = some es →
    getP envC (newTys hs) n = mkPr env1 (newTys hs) es → ∀ i t e, θ'[i]? = some (t, e) → ((holeEx θ hs n).getD i .un).den envC t = e.den env1 t
  | [], [], es, n, h, hg => fun i t e hi => by simp at hi
  | (.par k, t) :: l, (u, e) :: r, es, n, h, hg => by
    simp only [newEx] at h
    split at h
    · rename_i hb
      obtain ⟨b1, b2⟩ := and_t hb
      obtain ⟨b2, b3⟩ := and_t b2
      intro i t' e' hi
      cases i with
      | zero =>
        simp only [List.getElem?_cons_zero, Option.some.injEq, Prod.mk.injEq] at hi
        obtain ⟨rfl, rfl⟩ := hi
        rw [exBeq_eq b2]
        have := tyBeq_eq b1
        subst this
        exact hp k _ (tyAt_ok b3)
      | succ i =>
        simp only [List.getElem?_cons_succ] at hi
        exact newEx_ok hp h hg i t' e' hi
    · cases h
  | (.con x, t) :: l, (u, e) :: r, es, n, h, hg => by
    simp only [newEx] at h
    split at h
    · rename_i hb
      obtain ⟨b1, b2⟩ := and_t hb
      obtain ⟨b2, b3⟩ := and_t b2
      intro i t' e' hi
      cases i with
      | zero =>
        simp only [List.getElem?_cons_zero, Option.some.injEq, Prod.mk.injEq] at hi
        obtain ⟨rfl, rfl⟩ := hi
        rw [exBeq_eq b2]
        exact den_agree (n := 0) (fun m hm => absurd hm (Nat.not_lt_zero m)) b3 u
      | succ i =>
        simp only [List.getElem?_cons_succ] at hi
        exact newEx_ok hp h hg i t' e' hi
    · cases h
  | (.new, t) :: l, (u, e) :: r, es, n, h, hg => by
    simp only [newEx] at h
    split at h
    · rename_i hb
      split at h
      · rename_i es' hes
        simp only [Option.some.injEq] at h
        subst h
        have := tyBeq_eq hb
        subst this
        obtain ⟨g1, g2⟩ := getP_cons (N := newTys l) hg
        intro i t' e' hi
        cases i with
        | zero =>
          simp only [List.getElem?_cons_zero, Option.some.injEq, Prod.mk.injEq] at hi
          obtain ⟨rfl, rfl⟩ := hi
          exact g1
        | succ i =>
          simp only [List.getElem?_cons_succ] at hi
          exact newEx_ok hp hes g2 i t' e' hi
      · cases h
    · cases h
  | [], _ :: _, _, _, h, _ => by simp [newEx] at h
  | (.par _, _) :: _, [], _, _, h, _ => by simp [newEx] at h
  | (.con _, _) :: _, [], _, _, h, _ => by simp [newEx] at h
  | (.new, _) :: _, [], _, _, h, _ => by simp [newEx] at h
theorem findOut_ok {ps : List Ty} : ∀ {l : List Out} {j0 : Nat} {ex : Go.Ev.Ex} {fr : SF} {H : SH} {θ : List (Ty × Ex)} {j : Nat} {es : List Ex}, findOut ps l j0 ex fr H θ = some (j, es) →
    ∃ k o, j = j0 + k ∧ l[k]? = some o ∧ o.ex = ex ∧ o.fr = fr ∧ o.H = H ∧ newEx ps o.hs θ = some es
  | [], _, _, _, _, _, _, _, h => by simp [findOut] at h
  | s :: l, j0, ex, fr, H, θ, j, es, h => by
    have rest : findOut ps l (j0 + 1) ex fr H θ = some (j, es) → ∃ k s', j = j0 + k ∧ (s :: l)[k]? = some s' ∧ s'.ex = ex ∧ s'.fr = fr ∧ s'.H = H ∧ newEx ps s'.hs θ = some es := fun h => by
      obtain ⟨k, s', h1, h2, h3⟩ := findOut_ok h
      exact ⟨k + 1, s', by omega, by simpa using h2, h3⟩
    simp only [findOut] at h
    split at h
    · rename_i hb
      obtain ⟨b1, b2⟩ := and_t hb
      obtain ⟨b2, b3⟩ := and_t b2
      split at h
      · rename_i es' hes
        simp only [Option.some.injEq, Prod.mk.injEq] at h
        obtain ⟨rfl, rfl⟩ := h
        exact ⟨0, s, rfl, rfl, sameEx_eq b1, beqF_eq b2, beqH_eq b3, hes⟩
      · exact rest h
    · exact rest h
/-- The parameters' values, seen from without and within. -/
theorem par_val {ps : List Ty} {envC env1 : Env} {θ : List Ex} {x : Pr ps} (hx : mkPr envC ps θ = x) (ha : Agree ps.length (env0 ps x) env1) : ∀ i t, ps[i]? = some t → (θ.getD i .un).den envC t = env1 i t := fun i t h => by
  subst hx
  have := env0_at envC ps θ Env.none 0 i t h
  rw [Nat.zero_add] at this
  have hi : i < ps.length := by
    rw [List.getElem?_eq_some_iff] at h
    exact h.1
  rw [← ha i hi t]
  exact this.symm
theorem leaf_ok {ps : List Ty} {outs : List Out} {ex : Go.Ev.Ex} {fr : SF} {H : SH} {j j' n : Nat} {es θ : List Ex} {env1 envC : Env} {z : Sm (outs.map Out.ts)} {x : Pr ps} {o : Out} (h : leafOf ps outs ex fr H = some (j, es)) (hz : mkSm env1 (outs.map Out.ts) j es = some z)
    (hx : mkPr envC ps θ = x) (hag : Agree ps.length (env0 ps x) env1) (hal : IsAlt envC (outs.map Out.ts) z j' n) (ho : outs[j']? = some o) :
    o.ex = ex ∧ embF envC (o.state θ n).1 = embF env1 fr ∧ embH envC (o.state θ n).2 = embH env1 H := by
  unfold leafOf at h
  split at h
  · cases h
  · rename_i fr' H' θ' habs
    obtain ⟨rfl, hget⟩ := isAlt_mkSm hz hal
    obtain ⟨k, o', hj, ho', e1, e2, e3, e4⟩ := findOut_ok h
    rw [Nat.zero_add] at hj
    subst hj
    rw [ho] at ho'
    simp only [Option.some.injEq] at ho'
    subst ho'
    have hts : (outs.map Out.ts)[j']? = some o.ts := by rw [List.getElem?_map, ho]; rfl
    have hh := newEx_ok (par_val hx hag) e4 (hget _ hts)
    have hemb := absS_ok (env := env1) (env' := fun i u => ((o.σ θ n) i).den envC u) habs hh
    refine ⟨e1, ?_, ?_⟩
    · show embF envC (fillF (o.σ θ n) o.fr) = _
      rw [fillF_emb, e2, hemb.1]
    · show embH envC (fillH (o.σ θ n) o.H) = _
      rw [fillH_emb, e3, hemb.2]
theorem keysOk_fr (env : Env) : ∀ {fr : SF} {k : Nat}, keysOk fr k = true → embF env fr = argFr k ((embF env fr).map (·.2))
  | [], _, _ => rfl
  | p :: r, k, h => by
    simp only [keysOk] at h
    obtain ⟨h1, h2⟩ := and_t h
    show (p.1, p.2.emb env) :: embF env r = (k, p.2.emb env) :: argFr (k + 1) ((embF env r).map (·.2))
    rw [← keysOk_fr env h2, natBeq h1]
theorem lookL_mem : ∀ {l : List (Nat × Code)} {k : Nat} {b : Code}, lookL l k = some b → (k, b) ∈ l
  | [], _, _, h => by simp [lookL] at h
  | (a, b) :: r, k, b', h => by
    simp only [lookL] at h
    split at h
    · rename_i hb
      simp only [Option.some.injEq] at h
      subst h
      rw [natBeq hb]
      simp
    · simp [lookL_mem h]
theorem lookL_nodup : ∀ {l : List (Nat × Code)}, nodupN (l.map (·.1)) = true → ∀ p ∈ l, lookL l p.1 = some p.2
  | [], _, p, hp => by simp at hp
  | (a, b) :: r, h, p, hp => by
    simp only [List.map_cons, nodupN] at h
    obtain ⟨h1, h2⟩ := and_t h
    simp only [List.mem_cons] at hp
    rcases hp with rfl | hp
    · simp only [lookL, Nat.beq_refl]
    · have hne : Nat.beq a p.1 = false := by
        cases hb : Nat.beq a p.1 with
        | false => rfl
        | true =>
          have e := natBeq hb
          have : a ∈ r.map (·.1) := by rw [e]; exact List.mem_map.mpr ⟨p, hp, rfl⟩
          rw [← isIn_iff] at this
          rw [this] at h1
          cases h1
      simp only [lookL, hne]
      exact lookL_nodup h2 p hp
theorem loops_in : ∀ {co : Code} {blk id : Nat} {b : Code}, (id, b) ∈ loopsOf co blk → ∀ p ∈ loopsOf b id, p ∈ loopsOf co blk := by
  intro co
  induction co with
  | seq a b iha ihb =>
    intro blk id b' h p hp
    simp only [loopsOf, List.mem_append] at h ⊢
    rcases h with h | h
    · exact .inl (iha h p hp)
    · exact .inr (ihb h p hp)
  | cond q a b iha ihb =>
    intro blk id b' h p hp
    simp only [loopsOf, List.mem_append] at h ⊢
    rcases h with h | h
    · exact .inl (iha h p hp)
    · exact .inr (ihb h p hp)
  | block k a iha =>
    intro blk id b' h p hp
    simp only [loopsOf] at h ⊢
    exact iha h p hp
  | loop a iha =>
    intro blk id b' h p hp
    simp only [loopsOf, List.mem_cons, Prod.mk.injEq] at h ⊢
    rcases h with ⟨rfl, rfl⟩ | h
    · exact .inr hp
    · exact .inr (iha h p hp)
  | _ => intro blk id b' h; simp [loopsOf] at h

/-! ### A loop's next round -/
theorem getP_at {env env' : Env} : ∀ {ts : List Ty} {n n' : Nat}, getP env ts n = getP env' ts n' → ∀ i t, ts[i]? = some t → env (n + i) t = env' (n' + i) t
  | [], _, _, _, i, t, h => by simp at h
  | [a], n, n', hg, i, t, h => by
    cases i with
    | zero =>
      simp only [List.getElem?_cons_zero, Option.some.injEq] at h
      subst h
      exact hg
    | succ i => simp at h
  | a :: b :: l, n, n', hg, i, t, h => by
    have hg' : (env n a, getP env (b :: l) (n + 1)) = (env' n' a, getP env' (b :: l) (n' + 1)) := hg
    simp only [Prod.mk.injEq] at hg'
    cases i with
    | zero =>
      simp only [List.getElem?_cons_zero, Option.some.injEq] at h
      subst h
      exact hg'.1
    | succ i =>
      simp only [List.getElem?_cons_succ] at h
      have := getP_at hg'.2 i t h
      rw [show n + (i + 1) = n + 1 + i by omega, show n' + (i + 1) = n' + 1 + i by omega]
      exact this
theorem self_holes {ps : List Ty} {e1 e2 : Env} {θ1 θ2 : List Ex} : ∀ {hs : List (Hk × Ty)} {n1 n2 : Nat}, selfHs ps θ1 hs = true → (∀ i t, ps[i]? = some t → (θ2.getD i .un).den e2 t = e1 i t) →
    getP e1 (newTys hs) n1 = getP e2 (newTys hs) n2 → ∀ i t, (hs[i]?).map (·.2) = some t → ((holeEx θ1 hs n1).getD i .un).den e1 t = ((holeEx θ2 hs n2).getD i .un).den e2 t
  | [], _, _, _, _, _, i, t, h => by simp at h
  | (.par k, u) :: l, n1, n2, hh, hp, hg, i, t, h => by
    unfold selfHs at hh
    rw [List.all_cons] at hh
    obtain ⟨b1, b2⟩ := and_t hh
    simp only at b1
    obtain ⟨b1, b3⟩ := and_t b1
    cases i with
    | zero =>
      simp only [List.getElem?_cons_zero, Option.map_some, Option.some.injEq] at h
      subst h
      show (θ1.getD k .un).den e1 u = (θ2.getD k .un).den e2 u
      rw [exBeq_eq b1, hp k u (tyAt_ok b3)]
      rfl
    | succ i => exact self_holes (hs := l) b2 hp hg i t (by simpa using h)
  | (.con e, u) :: l, n1, n2, hh, hp, hg, i, t, h => by
    unfold selfHs at hh
    rw [List.all_cons] at hh
    obtain ⟨b1, b2⟩ := and_t hh
    simp only at b1
    cases i with
    | zero =>
      simp only [List.getElem?_cons_zero, Option.map_some, Option.some.injEq] at h
      subst h
      exact den_agree (n := 0) (fun m hm => absurd hm (Nat.not_lt_zero m)) b1 u
    | succ i => exact self_holes (hs := l) b2 hp hg i t (by simpa using h)
  | (.new, u) :: l, n1, n2, hh, hp, hg, i, t, h => by
    unfold selfHs at hh
    rw [List.all_cons] at hh
    obtain ⟨b1, b2⟩ := and_t hh
    have h0 := getP_at (ts := u :: newTys l) hg
    cases i with
    | zero =>
      simp only [List.getElem?_cons_zero, Option.map_some, Option.some.injEq] at h
      subst h
      exact h0 0 u rfl
    | succ i =>
      refine self_holes (hs := l) b2 hp ?_ i t (by simpa using h)
      cases hN : newTys l with
      | nil => rfl
      | cons v N =>
        have hg' : getP e1 (u :: newTys l) n1 = getP e2 (u :: newTys l) n2 := hg
        rw [hN] at hg'
        have hg'' : (e1 n1 u, getP e1 (v :: N) (n1 + 1)) = (e2 n2 u, getP e2 (v :: N) (n2 + 1)) := hg'
        simp only [Prod.mk.injEq] at hg''
        exact hg''.2
theorem idHoles_ok : ∀ {θ : List (Ty × Ex)} {hs : List (Hk × Ty)} {k : Nat}, idHoles θ hs k = true → ∀ (i : Nat) (t : Ty) (e : Ex), θ[i]? = some (t, e) → e = .v (k + i) ∧ (hs[i]?).map (·.2) = some t
  | [], [], _, _, i, t, e, h => by simp at h
  | (t0, e0) :: r, (q, u) :: l, k, hb, i, t, e, h => by
    simp only [idHoles] at hb
    obtain ⟨b1, b2⟩ := and_t hb
    obtain ⟨b2, b3⟩ := and_t b2
    cases i with
    | zero =>
      simp only [List.getElem?_cons_zero, Option.some.injEq, Prod.mk.injEq] at h
      obtain ⟨rfl, rfl⟩ := h
      exact ⟨exBeq_eq b2, by rw [tyBeq_eq b1]; rfl⟩
    | succ i =>
      simp only [List.getElem?_cons_succ] at h
      obtain ⟨h1, h2⟩ := idHoles_ok b3 i t e h
      exact ⟨by rw [h1, show k + (i + 1) = k + 1 + i by omega], by simpa using h2⟩
  | [], _ :: _, _, hb, _, _, _, _ => by simp [idHoles] at hb
  | _ :: _, [], _, hb, _, _, _, _ => by simp [idHoles] at hb
theorem templ_ok {o : Out} (h : templOk o = true) {e1 e2 : Env} (he : ∀ i t, (o.hs[i]?).map (·.2) = some t → e1 i t = e2 i t) : embF e1 o.fr = embF e2 o.fr ∧ embH e1 o.H = embH e2 o.H := by
  unfold templOk at h
  split at h
  · rename_i fr H θ habs
    obtain ⟨h1, h2⟩ := and_t h
    obtain ⟨h2, h3⟩ := and_t h2
    have := absS_ok (env := e2) (env' := e1) habs fun i t e hi => by
      obtain ⟨k1, k2⟩ := idHoles_ok h3 i t e hi
      rw [k1, Nat.zero_add]
      exact he i t k2
    rw [beqF_eq h1, beqH_eq h2] at this
    exact this
  · cases h
/-- Alternatives exist in some environment that is as another one before n. -/
theorem alt_env : ∀ (os : List (List Ty)) (z : Sm os) (env : Env) (n j : Nat) (env2 : Env) (n2 : Nat), IsAlt env2 os z j n2 → ∃ env', Agree n env env' ∧ IsAlt env' os z j n ∧ ∀ ts, os[j]? = some ts → getP env' ts n = getP env2 ts n2
  | [], z, _, _, _, _, _, _ => z.elim
  | [a], z, env, n, j, env2, n2, h => by
    cases j with
    | zero =>
      refine ⟨Env.setP a env n z, agree_setP a env n z, getP_setP a env n z, fun ts ht => ?_⟩
      simp only [List.getElem?_cons_zero, Option.some.injEq] at ht
      subst ht
      rw [← getP_setP a env n z]
      exact h
    | succ j => exact h.elim
  | a :: b :: l, .inl p, env, n, j, env2, n2, h => by
    cases j with
    | zero =>
      refine ⟨Env.setP a env n p, agree_setP a env n p, getP_setP a env n p, fun ts ht => ?_⟩
      simp only [List.getElem?_cons_zero, Option.some.injEq] at ht
      subst ht
      rw [← getP_setP a env n p]
      exact h
    | succ j => exact h.elim
  | a :: b :: l, .inr y, env, n, j, env2, n2, h => by
    cases j with
    | zero => exact h.elim
    | succ j =>
      obtain ⟨env', h1, h2, h3⟩ := alt_env (b :: l) y env n j env2 n2 h
      exact ⟨env', h1, h2, fun ts ht => h3 ts (by simpa using ht)⟩
end
end Go.Sy
