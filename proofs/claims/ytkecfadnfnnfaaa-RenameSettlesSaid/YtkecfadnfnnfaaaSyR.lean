/- Symbolic runs: what a family's tree says is true of its function or loop: all kinds. -/
import Derived.Test.YtkecfadnfnnfaaaSyQ
set_option linter.unusedVariables false
set_option linter.unusedSimpArgs false
noncomputable section
namespace Go.Sy
open Go Go.Ev

section
variable {c : Ctx} {rec : Task → Option Res} {tb : Tab} {m : (f : Nat) → Pr (tb.P f) → Option (Sm (tb.O f))}
theorem tupA_match (vs : List AV) : (match vs with | [v] => v | vs => AV.tup vs) = tupA vs := by
  cases vs with
  | nil => rfl
  | cons a l => cases l <;> rfl
/-- The end of a function: its results, out of a state. -/
theorem endT_ok {F : Func} {p : Go.Ev.Ex × SS} {env : Env} {α : Type} {K : List SV → SS → T α} {Q : Env → α → Prop} (hi : Inv m env p.2)
    (hk : ∀ env' vs s', (∃ e, p.1 = e ∧ ∀ k, e ≠ .exit k) → mapM' (resultAV c (p.2.emb env)) F.results.toList = some (SV.embL env' vs) → s'.emb env' = p.2.emb env → Later m env p.2 env' s' → Ok m (K vs s') env' Q) : Ok m (endT c F p K) env Q := by
  unfold endT
  have go : (∀ k, p.1 ≠ .exit k) → Ok m (resultsS c F.results.toList [] p.2 K) env Q := fun hne => resultsS_ok hi fun env' ws rs s' h1 h2 h3 h4 => by
    refine hk env' ws s' ⟨p.1, rfl, hne⟩ ?_ h3 h4
    rw [h1, h2]
    rfl
  split
  · simp only [Ok]
  · rename_i hne
    exact go fun k hk' => hne k hk'
theorem finP_eq {rs : List ResultVar} {e : Go.Ev.Ex} {st : St} (h : ∀ k, e ≠ .exit k) : finP c rs (e, st) = (mapM' (resultAV c st) rs).bind fun vs => (freezeR st.H (tupA vs)).bind fun v => some (.val v []) := by
  cases e with
  | exit k => exact absurd rfl (h k)
  | norm => rfl
  | ret => rfl
theorem finF_eq {rs : List ResultVar} {k : Nat} {e : Go.Ev.Ex} {st : St} (h : ∀ k, e ≠ .exit k) : finF c rs k (e, st) = (mapM' (resultAV c st) rs).bind fun vs => ({ fr := [(0, tupA vs)], H := st.H } : St).canon k fun st1 => some (.val (st1.fr.get 0) st1.H) := by
  cases e with
  | exit k => exact absurd rfl (h k)
  | norm => rfl
  | ret => rfl
theorem isNo_ok {p : Prim} (h : isNo p = true) : p = .no := by
  cases p <;> first | rfl | (cases h)
theorem Means.pure {q : Fam} (hq : q.kind = 0 ∨ q.kind = 3) (hp : c.prim q.f = .no) {e0 : Env} {ex : Go.Ev.Ex} {fr : Fr} {H H' : Heap} (h : rec (.pfn q.f ((embF e0 q.fr).map (·.2))) = some (.val (Fr.get fr 0) H')) : Means c rec q e0 ex fr H := by
  unfold Means
  rcases hq with hq | hq <;> (rw [hq]; simp only [hp]; exact ⟨H', h⟩)
theorem Means.fn {q : Fam} (hq : q.kind = 1) {e0 : Env} {ex : Go.Ev.Ex} {fr : Fr} {H : Heap} (h : rec (.fn q.f ((embF e0 q.fr).map (·.2)) (embH e0 q.H)) = some (.val (Fr.get fr 0) H)) : Means c rec q e0 ex fr H := by
  unfold Means
  rw [hq]
  exact h
theorem reifyArgs_len : ∀ {ts : List Ty} {vs : List SV} {es : List Ex}, reifyArgs ts vs = some es → es.length = ts.length
  | [], [], es, h => by simp only [reifyArgs, Option.some.injEq] at h; subst h; rfl
  | t :: ts, v :: vs, es, h => by
    simp only [reifyArgs] at h
    split at h
    · rename_i h1 h2
      simp only [Option.some.injEq] at h
      subst h
      simp [reifyArgs_len h2]
    · cases h
  | [], _ :: _, _, h => by simp [reifyArgs] at h
  | _ :: _, [], _, h => by simp [reifyArgs] at h
theorem getP_mkPr {env env1 : Env} : ∀ {ts : List Ty} {n : Nat} {es : List Ex}, getP env ts n = mkPr env1 ts es → ∀ i t, ts[i]? = some t → env (n + i) t = (es.getD i .un).den env1 t
  | [], _, _, _, i, t, h => by simp at h
  | [a], n, es, hg, i, t, h => by
    cases i with
    | zero =>
      simp only [List.getElem?_cons_zero, Option.some.injEq] at h
      subst h
      have : env n a = mkPr env1 [a] es := hg
      rw [Nat.add_zero, this]
      cases es <;> rfl
    | succ i => simp at h
  | a :: b :: l, n, es, hg, i, t, h => by
    have hg' : (env n a, getP env (b :: l) (n + 1)) = ((es.getD 0 .un).den env1 a, mkPr env1 (b :: l) es.tail) := by
      cases es <;> exact hg
    simp only [Prod.mk.injEq] at hg'
    cases i with
    | zero =>
      simp only [List.getElem?_cons_zero, Option.some.injEq] at h
      subst h
      exact hg'.1
    | succ i =>
      simp only [List.getElem?_cons_succ] at h
      have := getP_mkPr hg'.2 i t h
      rw [show n + (i + 1) = n + 1 + i by omega, this]
      cases es <;> rfl
theorem hs_new : ∀ {hs : List (Hk × Ty)}, (newTys hs).length = hs.length → ∀ (θ : List Ex) (n i : Nat), i < hs.length → (holeEx θ hs n)[i]? = some (.v (n + i))
  | [], _, _, _, i, h => by simp at h
  | (.new, t) :: l, hl, θ, n, i, h => by
    cases i with
    | zero => rfl
    | succ i =>
      have := hs_new (hs := l) (by simpa [newTys] using hl) θ (n + 1) i (by simpa using h)
      show (holeEx θ l (n + 1))[i]? = _
      rw [this]
      congr 2
      omega
  | (.par k, t) :: l, hl, θ, n, i, h => by
    exfalso
    have := newTys_le l
    simp only [newTys, List.length_cons] at hl
    omega
  | (.con e, t) :: l, hl, θ, n, i, h => by
    exfalso
    have := newTys_le l
    simp only [newTys, List.length_cons] at hl
    omega
where
  newTys_le : ∀ l : List (Hk × Ty), (newTys l).length ≤ l.length
    | [] => Nat.le_refl _
    | (.new, t) :: l => Nat.succ_le_succ (newTys_le l)
    | (.par _, t) :: l => Nat.le_succ_of_le (newTys_le l)
    | (.con _, t) :: l => Nat.le_succ_of_le (newTys_le l)
theorem svals_congr {e1 e2 : Env} : ∀ {ts : List Ty} {k : Nat}, (∀ (i : Nat) (t : Ty), ts[i]? = some t → e1 (k + i) t = e2 (k + i) t) → SV.embL e1 (svals ts k) = SV.embL e2 (svals ts k)
  | [], k, h => rfl
  | t :: ts, k, h => by
    have ih := svals_congr (e1 := e1) (e2 := e2) (ts := ts) (k := k + 1) fun i u hu => by
      have := h (i + 1) u (by simpa using hu)
      rw [show k + 1 + i = k + (i + 1) by omega]
      exact this
    show (sval t (.v k)).emb e1 :: SV.embL e1 (svals ts (k + 1)) = (sval t (.v k)).emb e2 :: SV.embL e2 (svals ts (k + 1))
    rw [emb_sval, emb_sval, ih]
    have h0 : e1 k t = e2 k t := h 0 t rfl
    show valT t (e1 k t) :: _ = valT t (e2 k t) :: _
    rw [h0]
/-- A function of frozen arguments, run. -/
theorem pfnT_ok (hs : Sound c rec tb m) {i : Nat} {F : Func} {bF : Code} {x : Pr (tb.P i)} (hF : c.fn (tb.fam i).f = some F) (hbF : F.body = some bF) (hnd : nodupN ((loopsOf bF 0).map (·.1)) = true)
    (hle : Nat.ble (tb.fam i).fr.length F.ntmps = true) (hkeys : keysOk (tb.fam i).fr 0 = true) : Ok m (pfnT c tb (tb.fam i) F bF) (env0 (tb.P i) x)
    (fun env' r => stepTask c rec (.pfn (tb.fam i).f ((embF (env0 (tb.P i) x) (tb.fam i).fr).map (·.2))) = some (.val (tupA (SV.embL env' r.1)) []) ∧ Agree (tb.P i).length (env0 (tb.P i) x) env') := by
  have hlen : Nat.ble ((embF (env0 (tb.P i) x) (tb.fam i).fr).map (·.2)).length F.ntmps = true := by
    have : ((embF (env0 (tb.P i) x) (tb.fam i).fr).map (·.2)).length = (tb.fam i).fr.length := by simp [embF]
    rw [this]
    exact hle
  unfold pfnT
  refine Ok.bind m (fun e1 p hp => ?_) _ _ (codeT_ok hs hF hbF bF 0 false _ _ (fun f hf => by simp at hf) (lookL_nodup hnd))
  obtain ⟨h1, h2⟩ := hp
  rw [evAft_false] at h1
  refine endT_ok h2.inv fun e2 vs s2 hex hres hst e12 => freezeMany_ok e12.inv fun xs s3 hfr e23 => ?_
  simp only [Ok, List.nil_append]
  obtain ⟨e, he, hne⟩ := hex
  refine ⟨?_, h2.agr.trans e12.agr h2.nx⟩
  rw [s_pfn c rec _ _ F bF hF hbF hlen, ← keysOk_fr _ hkeys]
  have h1' : evCode c rec (tb.fam i).f 0 F.ntmps 0 bF ⟨embF (env0 (tb.P i) x) (tb.fam i).fr, []⟩ = some (p.1, p.2.emb e1) := h1
  rw [h1', Option.bind_some]
  have hH : (p.2.emb e1).H = embH e2 s2.H := by rw [← hst]; rfl
  rw [finP_eq (by rw [he]; exact hne), hres, Option.bind_some, hH, freezeR_tupA hfr]
  rfl
theorem fnT_ok (hs : Sound c rec tb m) {i : Nat} {F : Func} {bF : Code} {x : Pr (tb.P i)} (hF : c.fn (tb.fam i).f = some F) (hbF : F.body = some bF) (hnd : nodupN ((loopsOf bF 0).map (·.1)) = true)
    (hle : Nat.ble (tb.fam i).fr.length F.ntmps = true) (hkeys : keysOk (tb.fam i).fr 0 = true) : Ok m (fnT c tb (tb.fam i) F bF) (env0 (tb.P i) x)
    (fun env' r => stepTask c rec (.fn (tb.fam i).f ((embF (env0 (tb.P i) x) (tb.fam i).fr).map (·.2)) (embH (env0 (tb.P i) x) (tb.fam i).H)) =
      (({ r.2 with fr := [(0, tupOf r.1)] } : SS).emb env').canon (tb.fam i).H.length (fun st1 => some (.val (st1.fr.get 0) st1.H)) ∧ Agree (tb.P i).length (env0 (tb.P i) x) env') := by
  have hlen : Nat.ble ((embF (env0 (tb.P i) x) (tb.fam i).fr).map (·.2)).length F.ntmps = true := by
    have : ((embF (env0 (tb.P i) x) (tb.fam i).fr).map (·.2)).length = (tb.fam i).fr.length := by simp [embF]
    rw [this]
    exact hle
  unfold fnT
  refine Ok.bind m (fun e1 p hp => ?_) _ _ (codeT_ok hs hF hbF bF 0 false _ _ (fun f hf => by simp at hf) (lookL_nodup hnd))
  obtain ⟨h1, h2⟩ := hp
  rw [evAft_false] at h1
  refine endT_ok h2.inv fun e2 vs s2 hex hres hst e12 => ?_
  simp only [Ok]
  obtain ⟨e, he, hne⟩ := hex
  refine ⟨?_, h2.agr.trans e12.agr h2.nx⟩
  rw [s_fn c rec _ _ _ F bF hF hbF hlen, ← keysOk_fr _ hkeys, embH_length]
  have hmv : (mvIf c (tb.fam i).f ((embF (env0 (tb.P i) x) (tb.fam i).fr).map (·.2)) (embH (env0 (tb.P i) x) (tb.fam i).H) fun H1 => evCode c rec (tb.fam i).f (tb.fam i).H.length F.ntmps 0 bF ⟨embF (env0 (tb.P i) x) (tb.fam i).fr, H1⟩) = some (p.1, p.2.emb e1) := by
    rw [← h1]
    unfold mvIf
    cases c.stay (tb.fam i).f with
    | true => rfl
    | false =>
      show mvHeap ((embF (env0 (tb.P i) x) (tb.fam i).fr).map (·.2)) (embH (env0 (tb.P i) x) (tb.fam i).H) _ = _
      rw [embF_vals, mvHeap_emb]
      rfl
  rw [hmv, Option.bind_some, finF_eq (by rw [he]; exact hne), hres, Option.bind_some]
  have hH : (p.2.emb e1).H = embH e2 s2.H := by rw [← hst]; rfl
  rw [hH, ← tupOf_emb]
  rfl
theorem body_ok (hs : Sound c rec tb m) {i : Nat} {x : Pr (tb.P i)} {z : Sm (tb.O i)} (hz : (body c tb i).den tb.P tb.O m (tb.O i) (env0 (tb.P i) x) = some z)
    {envC : Env} {θ : List Ex} {n j : Nat} {o : Out} (hx : mkPr envC (tb.P i) θ = x) (hal : IsAlt envC (tb.O i) z j n) (ho : (tb.fam i).outs[j]? = some o) :
    Means c (stepTask c rec) (tb.fam i) (env0 (tb.P i) x) o.ex (embF envC (o.state θ n).1) (embH envC (o.state θ n).2) := by
  unfold body at hz
  simp only at hz
  obtain ⟨F, hF, hz⟩ := den_opt hz
  obtain ⟨bF, hbF, hz⟩ := den_opt hz
  obtain ⟨hnd, hz⟩ := den_iff hz
  split at hz
  · rename_i hk
    obtain ⟨hb, hz⟩ := den_iff hz
    obtain ⟨b1, b2⟩ := and_t hb
    obtain ⟨b2, b3⟩ := and_t b2
    obtain ⟨b3, b4⟩ := and_t b3
    obtain ⟨env1, r, ⟨hr, hag⟩, hz⟩ := den_bind m _ _ hz (pfnT_ok hs (x := x) hF hbF hnd b1 b4)
    obtain ⟨es, hes, hz⟩ := den_opt hz
    simp only [T.den] at hz
    refine Means.pure (H' := []) (.inl hk) (isNo_ok b3) (hr.trans ?_)
    congr 2
    -- the one result
    unfold typedOk at b2
    split at b2
    · rename_i o' houts
      obtain ⟨t1, t2⟩ := and_t b2
      obtain ⟨t2, t3⟩ := and_t t2
      obtain ⟨hj, hget⟩ := isAlt_mkSm hz hal
      subst hj
      rw [houts] at ho hes
      simp only [List.getElem?_cons_zero, Option.some.injEq] at ho
      subst ho
      have hts : (tb.O i)[0]? = some o'.ts := by
        show ((tb.fam i).outs.map Out.ts)[0]? = _
        rw [houts]
        rfl
      have hg := hget _ hts
      have hes' : reifyArgs o'.ts r.1 = some es := by simpa using hes
      show tupA (SV.embL env1 r.1) = Fr.get (embF envC (fillF (o'.σ θ n) o'.fr)) 0
      rw [fillF_emb, beqF_eq t1, ← getF_emb]
      show _ = (tupOf (svals o'.ts 0)).emb _
      rw [tupOf_emb]
      congr 1
      refine (reifyArgs_emb hes' fun k t hkt => ?_).symm
      have hk' : k < o'.hs.length := by
        rw [← natBeq t3]
        rw [List.getElem?_eq_some_iff] at hkt
        exact hkt.1
      rw [Nat.zero_add]
      show ((holeEx θ o'.hs n).getD k .un).den envC t = _
      rw [List.getD_eq_getElem?_getD, hs_new (natBeq t3) θ n k hk']
      show envC (n + k) t = _
      exact getP_mkPr hg k t hkt
    · cases b2
  · rename_i hk
    obtain ⟨hb, hz⟩ := den_iff hz
    obtain ⟨b1, b2⟩ := and_t hb
    obtain ⟨b3, b4⟩ := and_t b2
    obtain ⟨env1, r, ⟨hr, hag⟩, hz⟩ := den_bind m _ _ hz (pfnT_ok hs (x := x) hF hbF hnd b1 b4)
    obtain ⟨j', es, hl, hmk⟩ := den_outT hz
    obtain ⟨e1, e2, e3⟩ := leaf_ok hl hmk hx hag hal ho
    refine Means.pure (H' := []) (.inr hk) (isNo_ok b3) (hr.trans ?_)
    rw [e2, ← tupOf_emb]
    rfl
  · rename_i hk
    obtain ⟨hb, hz⟩ := den_iff hz
    obtain ⟨b1, b4⟩ := and_t hb
    obtain ⟨env1, r, ⟨hr, hag⟩, hz⟩ := den_bind m _ _ hz (fnT_ok hs (x := x) hF hbF hnd b1 b4)
    obtain ⟨s1, hs1, hz⟩ := den_opt hz
    obtain ⟨j', es, hl, hmk⟩ := den_outT hz
    obtain ⟨e1, e2, e3⟩ := leaf_ok hl hmk hx hag hal ho
    refine Means.fn hk (hr.trans ?_)
    rw [(canonS_ok (env := env1) hs1 _).1, e2, e3]
    rfl
  · rename_i hk
    obtain ⟨lb, hlb, hz⟩ := den_opt hz
    have hsub : ∀ p ∈ loopsOf lb (tb.fam i).id, lookL (loopsOf bF 0) p.1 = some p.2 := fun p hp => lookL_nodup hnd p (loops_in (lookL_mem hlb) p hp)
    obtain ⟨env1, p, ⟨hr, hL⟩, hz⟩ := den_bind m _ _ hz (codeT_ok hs hF hbF lb (tb.fam i).id false _ _ (fun f hf => by simp at hf) hsub)
    rw [evAft_false] at hr
    rw [Means.two hk]
    intro F' b' lb' hF' hb' hlb'
    rw [hF] at hF'
    simp only [Option.some.injEq] at hF'
    subst hF'
    rw [hbF] at hb'
    simp only [Option.some.injEq] at hb'
    subst hb'
    rw [hlb] at hlb'
    simp only [Option.some.injEq] at hlb'
    subst hlb'
    rw [s_loop c rec _ _ _ _ _ F hF]
    have hr' : evCode c rec (tb.fam i).f (tb.fam i).m F.ntmps (tb.fam i).id lb ⟨embF (env0 (tb.P i) x) (tb.fam i).fr, embH (env0 (tb.P i) x) (tb.fam i).H⟩ = some (p.1, p.2.emb env1) := hr
    rw [hr', Option.bind_some]
    obtain ⟨ex, sp⟩ := p
    cases ex with
    | norm =>
      simp only at hz
      rw [s_nextNorm]
      exact againT_ok hs hF hbF hlb hL.inv hL.agr hL.nx hz hx hal ho
    | exit k =>
      simp only at hz
      obtain ⟨j', es, hl, hmk⟩ := den_outT hz
      obtain ⟨e1, e2, e3⟩ := leaf_ok hl hmk hx hL.agr hal ho
      rw [s_nextExit, e1, e2, e3]
      rfl
    | ret =>
      simp only at hz
      obtain ⟨j', es, hl, hmk⟩ := den_outT hz
      obtain ⟨e1, e2, e3⟩ := leaf_ok hl hmk hx hL.agr hal ho
      rw [s_nextRet, e1, e2, e3]
      rfl
  · simp only [T.den, reduceCtorEq] at hz
end
end Go.Sy
