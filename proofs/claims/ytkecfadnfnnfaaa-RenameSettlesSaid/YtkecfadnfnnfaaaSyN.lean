/- Symbolic runs: plans, regions, code. -/
import Derived.Test.YtkecfadnfnnfaaaSyM
set_option linter.unusedVariables false
set_option linter.unusedSimpArgs false
namespace Go.Sy
open Go Go.Ev

mutual
theorem avBeq_refl : ∀ v : AV, AV.beq v v = true
  | .undef => rfl
  | .bool b => by simp [AV.beq]
  | .int k n => by simp [AV.beq]
  | .str s => by simp [AV.beq]
  | .nilp => rfl
  | .ptr a b c => by simp [AV.beq]
  | .iptr cs => by simp only [AV.beq]; exact avBeqL_refl cs
  | .nils => rfl
  | .emp => rfl
  | .lst es => by simp only [AV.beq]; exact avBeqLL_refl es
  | .sl a b c => by simp [AV.beq]
  | .nilm => rfl
  | .map b => by simp [AV.beq]
  | .nilf => rfl
  | .fn f cs => by simp only [AV.beq, Nat.beq_refl, Bool.true_and]; exact avBeqL_refl cs
  | .nili => rfl
  | .iface t v => by simp only [AV.beq, Nat.beq_refl, Bool.true_and]; exact avBeq_refl v
  | .agg cs => by simp only [AV.beq]; exact avBeqL_refl cs
  | .tup cs => by simp only [AV.beq]; exact avBeqL_refl cs
theorem avBeqL_refl : ∀ l : List AV, AV.beqL l l = true
  | [] => rfl
  | v :: l => by simp only [AV.beqL, avBeq_refl v, avBeqL_refl l, Bool.and_self]
theorem avBeqLL_refl : ∀ l : List (List AV), AV.beqLL l l = true
  | [] => rfl
  | v :: l => by simp only [AV.beqLL, avBeqL_refl v, avBeqLL_refl l, Bool.and_self]
end
theorem sameBlk_refl (b : Blk) : sameBlk b b = true ∨ ∃ s p, b = .iter s p := by
  cases b with
  | rows z p es => left; simp [sameBlk, avBeqLL_refl]
  | ro z es => left; simp [sameBlk, avBeqLL_refl]
  | map es => left; simp [sameBlk, avBeqL_refl]
  | dead => left; rfl
  | iter s p => right; exact ⟨s, p, rfl⟩
theorem sameBlks_refl (env : Env) : ∀ H : SH, sameBlks (embH env H) (embH env H) = true
  | [] => rfl
  | b :: H => by
    show (sameBlk (b.emb env) (b.emb env) && sameBlks (embH env H) (embH env H)) = true
    rw [sameBlks_refl env H, Bool.and_true]
    rcases sameBlk_refl (b.emb env) with h | ⟨s, p, h⟩
    · exact h
    · cases b <;> simp [SB.emb] at h
theorem sameNums_refl : ∀ l : List Nat, sameNums l l = true
  | [] => rfl
  | a :: l => by simp [sameNums, sameNums_refl l]
theorem sameSt_refl (env : Env) (s : SS) : sameSt (s.emb env) (s.emb env) = true := by
  unfold sameSt
  rw [avBeqL_refl, sameNums_refl]
  exact sameBlks_refl env s.H
def rdEmb (env : Env) (rd : List (Nat × Nat × Option Ex)) : List (Nat × Nat × Option Nat) := rd.map fun q => (q.1, q.2.1, q.2.2.map fun i => (i.den env .nat : Nat))
def STra.emb (env : Env) (t : STra) : Tra := ⟨t.st.emb env, rdEmb env t.rd⟩
theorem rdEmb_agree {n : Nat} {e1 e2 : Env} (h : Agree n e1 e2) {rd : List (Nat × Nat × Option Ex)} (hb : bndRd n rd = true) : rdEmb e2 rd = rdEmb e1 rd := by
  unfold bndRd at hb
  rw [List.all_eq_true] at hb
  refine List.map_congr_left fun q hq => ?_
  have := hb q hq
  cases hq2 : q.2.2 with
  | none => rfl
  | some i =>
    rw [hq2] at this
    simp only [Option.map_some, den_agree h this]
theorem rdEmb_app (env : Env) (a b : List (Nat × Nat × Option Ex)) : rdEmb env (a ++ b) = rdEmb env a ++ rdEmb env b := by simp [rdEmb]
theorem readsT_emb (env : Env) (k : Nat) (o : Oper) (s : SS) : readsOf k o (s.emb env) = rdEmb env (readsT k o s.fr) := by
  unfold readsOf readsT
  cases o.op <;> try rfl
  · rename_i t a
    simp only [SS.emb, ← opvS_emb]
    cases opvS s.fr a <;> rfl
  · rename_i t x lo hi mx
    simp only [SS.emb, ← opvS_emb]
    cases opvS s.fr x <;> rfl
  · rename_i t x i
    simp only [SS.emb, ← opvS_emb]
    cases opvS s.fr x <;> rfl
section
variable {c : Ctx} {rec : Task → Option Res} {tb : Tab} {m : (f : Nat) → Pr (tb.P f) → Option (Sm (tb.O f))} {α : Type}
theorem known_ok {env : Env} {t : Ty} {l i : Ex} {fs : List Fact} (hf : ∀ f ∈ fs, Fact.holds m env f) (h : known t l i fs = true) : ∃ x, (l.den env (.lst t))[(i.den env .nat : Nat)]? = some x := by
  unfold known at h
  cases hl : lookI t (asInt i).1 l (asInt i).2 fs with
  | none => rw [hl] at h; cases h
  | some x =>
    obtain ⟨_, _, _, g4⟩ := at_some (lookI_ok hf hl)
    refine ⟨x.den env t, ?_⟩
    · have key : (i.den env .nat : Nat) = Int.toNat ((asInt i).2.den env (.int (asInt i).1)) := by
        unfold asInt
        split
        · rfl
        · simp only [den_ofN, Int.toNat_natCast]
      rw [key]
      exact g4
theorem rowAt_emb (env : Env) (H : SH) (b i : Nat) : Ev.rowAt (embH env H) b i = match H[b]? with
    | some (.rows _ t e) => ((e.den env (.lst t))[i]?).map (row t)
    | some (.ro _ t e) => ((e.den env (.lst t))[i]?).map (row t)
    | some (.box _ _ es) => (es[i]?).map (SV.embL env)
    | _ => none := by
  unfold Ev.rowAt
  rw [embH_get]
  cases H[b]? with
  | none => rfl
  | some k => cases k <;> simp [SB.emb]
theorem sameRow_ok {env : Env} {fs : List Fact} {H H' : SH} {b : Nat} {i : Ex} (hf : ∀ f ∈ fs, Fact.holds m env f) (h : sameRowS fs H H' b i = true) : sameRow (embH env H) (embH env H') b (i.den env .nat) = true := by
  unfold sameRow
  rw [rowAt_emb, rowAt_emb]
  unfold sameRowS at h
  have same : ∀ {t t' : Ty} {e e' : Ex}, (Ty.beq t t' && (Ex.beq e e' && known t' e' i fs)) = true → (match ((e.den env (.lst t))[(i.den env .nat : Nat)]?).map (row t), ((e'.den env (.lst t'))[(i.den env .nat : Nat)]?).map (row t') with
      | some x, some y => AV.beqL x y
      | _, _ => false) = true := fun {t t' e e'} h => by
    obtain ⟨h1, h2⟩ := and_t h
    obtain ⟨h2, h3⟩ := and_t h2
    have e1 := tyBeq_eq h1
    have e2 := exBeq_eq h2
    subst e1 e2
    obtain ⟨x, hx⟩ := known_ok hf h3
    rw [hx]
    exact avBeqL_refl _
  split at h
  · rename_i h1 h2; rw [h1, h2]; exact same h
  · rename_i h1 h2; rw [h1, h2]; exact same h
  · rename_i h1 h2; rw [h1, h2]; exact same h
  · rename_i h1 h2
    rw [h1, h2]
    split at h
    · rename_i j hj
      have : i = .nn j := by
        unfold litNat at hj
        split at hj
        · simp only [Option.some.injEq] at hj; rw [hj]
        · cases hj
      subst this
      split at h
      · rename_i r r' hr hr'
        simp only [show ((Ex.nn j).den env .nat : Nat) = j from rfl, hr, hr', Option.map_some]
        rw [svBeqL_eq h]
        exact avBeqL_refl _
      · cases h
    · cases h
  · cases h
theorem sameAsked_ok {env : Env} {fs : List Fact} {H H' : SH} {q : Nat × Nat × Option Ex} (hf : ∀ f ∈ fs, Fact.holds m env f) (h : sameAskedS fs H H' q = true) : sameAsked (embH env H) (embH env H') (q.1, q.2.1, q.2.2.map fun i => (i.den env .nat : Nat)) = true := by
  unfold sameAsked
  unfold sameAskedS at h
  cases hq : q.2.2 with
  | some i =>
    rw [hq] at h
    exact sameRow_ok hf h
  | none =>
    rw [hq] at h
    simp only [Option.map_none, rowSize_emb]
    exact h
variable {Q : Env → α → Prop}
theorem forkT_ok (hs : Sound c rec tb m) {n : Nat} {ops : Array Oper} {i : Nat} {w : List Nat} {env : Env} {t : STra} {K : STra → T α} (hi : Inv m env t.st)
    (hk : ∀ env' t', forkStep c rec n ops i w (t.emb env) = some (t'.emb env') → Later m env t.st env' t'.st → Ok m (K t') env' Q) : Ok m (forkT c tb n ops i w t K) env Q := by
  unfold forkT
  split
  · simp only [Ok]
  · rename_i o ho
    refine iff_ok fun hb => ?_
    obtain ⟨b1, b2⟩ := and_t hb
    refine stepT_ok hs hi fun env' w' s' hw h1 e1 => ?_
    simp only
    refine iff_ok fun hall => hk env' _ ?_ e1
    have hH : embH env' t.st.H = embH env t.st.H := (embH_agree e1.agr b2).symm
    have hrd : rdEmb env' t.rd = rdEmb env t.rd := rdEmb_agree e1.agr b1
    have hfil : (rdEmb env t.rd).filter (fun q => w.contains q.1) = rdEmb env' (t.rd.filter fun q => w.contains q.1) := by
      rw [← hrd]
      simp only [rdEmb, List.filter_map]
      rfl
    rw [s_forkStep, ho, Option.bind_some]
    have : (t.emb env).st = t.st.emb env := rfl
    rw [this, h1, Option.bind_some]
    have h2 : (t.emb env).rd = rdEmb env t.rd := rfl
    rw [h2, hfil, if_pos]
    · rfl
    · rw [List.all_eq_true] at hall ⊢
      intro q hq
      simp only [rdEmb, List.mem_map] at hq
      obtain ⟨p, hp, rfl⟩ := hq
      have := sameAsked_ok (m := m) (env := env') e1.inv (hall p hp)
      rw [hH] at this
      exact this
theorem canonT_ok {mm : Nat} {env : Env} {s : SS} {K : SS → T α} (hi : Inv m env s)
    (hk : ∀ s', (∀ {β : Type} (k : St → Option β), (s.emb env).canon mm k = k (s'.emb env)) → Later m env s env s' → Ok m (K s') env Q) : Ok m (canonT mm s K) env Q := by
  unfold canonT
  refine opt_ok fun s' hs' => hk s' (fun k => (canonS_ok hs' k).1) ?_
  obtain ⟨_, h1, h2⟩ := canonS_ok (env := env) hs' (fun s => some s)
  exact ⟨fun f hf => hi f (by rw [← h2]; exact hf), by rw [h1]; exact Nat.le_refl _, Agree.refl⟩
theorem beqS_ok {a b : SS} (h : beqS a b = true) (env : Env) : b.emb env = a.emb env := by
  obtain ⟨h1, h2⟩ := and_t h
  unfold SS.emb
  rw [beqF_eq h1, beqH_eq h2]
theorem othersT_ok {n mm k : Nat} {ops : Array Oper} {run : List Nat → Nat → Plan → STra → (SS → T α) → T α} {t : STra} {c1 : SS} {C : St} {T0 : Tra}
    (hrun : ∀ w i p env (t : STra) K, Inv m env t.st → (∀ env' s', ((forkStep c rec n ops i w (t.emb env)).bind fun u => evPlan c rec mm n ops k p u) = some (s'.emb env') → Later m env t.st env' s' → Ok m (K s') env' Q) → Ok m (run w i p t K) env Q) :
    ∀ (r : List (Nat × List Nat × Plan)) (now : SS) (env : Env) (K : SS → T α), Inv m env now → c1.emb env = C → t.emb env = T0 →
    (∀ env' s', r.all (otherOk c rec mm n ops k T0 C) = true → s'.emb env' = C → Inv m env' s' → now.nx ≤ s'.nx → Agree now.nx env env' → Ok m (K s') env' Q) → Ok m (othersT run mm t c1 r now K) env Q
  | [], now, env, K, hi, hC, hT, hk => hk env _ rfl hC hi (Nat.le_refl _) Agree.refl
  | (i, w, p) :: r, now, env, K, hi, hC, hT, hk => by
    unfold othersT
    refine iff_ok fun hb => ?_
    obtain ⟨b1, b2⟩ := and_t hb
    obtain ⟨b2, b3⟩ := and_t b2
    unfold bndTra at b3
    obtain ⟨b3, b4⟩ := and_t b3
    obtain ⟨b4, b5⟩ := and_t b4
    refine hrun w i p env _ _ hi fun env1 s1 h1 e1 => canonT_ok e1.inv fun s2 h2 e2 => iff_ok fun hbe => ?_
    have hag : Agree now.nx env env1 := e1.agr
    have hC1 : c1.emb env1 = C := by
      rw [← hC]
      unfold SS.emb
      rw [embF_agree hag b1, embH_agree hag b2]
    have hT1 : t.emb env1 = T0 := by
      rw [← hT]
      unfold STra.emb SS.emb
      rw [embF_agree hag b3, embH_agree hag b4, rdEmb_agree hag b5]
    refine othersT_ok hrun r s2 env1 K e2.inv hC1 hT1 fun env' s' hall hs' hi' hn ha => ?_
    refine hk env' s' ?_ hs' hi' (Nat.le_trans (Nat.le_trans e1.nx e2.nx) hn) (hag.trans ha (Nat.le_trans e1.nx e2.nx))
    rw [List.all_cons, hall, Bool.and_true, s_otherOk]
    have h1' : ((forkStep c rec n ops i w T0).bind fun u => evPlan c rec mm n ops k p u) = some (s1.emb env1) := by rw [← hT]; exact h1
    cases hfk : forkStep c rec n ops i w T0 with
    | none => rw [hfk] at h1'; simp at h1'
    | some u =>
      rw [hfk, Option.bind_some] at h1'
      simp only [Option.bind_some]
      rw [h1', Option.bind_some, h2, s_okSome, beqS_ok hbe, hC1, ← hC1]
      exact sameSt_refl env1 c1
theorem planT_ok (hs : Sound c rec tb m) {mm n : Nat} {ops : Array Oper} : ∀ (k : Nat) (p : Plan) (env : Env) (t : STra) (K : SS → T α), Inv m env t.st →
    (∀ env' s', evPlan c rec mm n ops k p (t.emb env) = some (s'.emb env') → Later m env t.st env' s' → Ok m (K s') env' Q) → Ok m (planT c tb mm n ops k p t K) env Q
  | 0, p, env, t, K, hi, hk => by simp only [planT, Ok]
  | k + 1, .done, env, t, K, hi, hk => by
    simp only [planT]
    exact hk env t.st rfl (.refl hi)
  | k + 1, .take i p, env, t, K, hi, hk => by
    simp only [planT]
    split
    · simp only [Ok]
    · rename_i o ho
      refine iff_ok fun hb => stepT_ok hs hi fun env1 w s1 hw h1 e1 => ?_
      refine planT_ok hs k p env1 _ K e1.inv fun env' s' h2 e2 => hk env' s' ?_ (e1.trans e2)
      rw [s_planTake, ho, Option.bind_some]
      have hst : (t.emb env).st = t.st.emb env := rfl
      have hfr : (t.st.emb env).fr = embF env t.st.fr := rfl
      rw [hst, hfr, hw, Option.bind_some, h1, Option.bind_some]
      rw [← h2]
      congr 1
      unfold STra.emb
      congr 1
      have hrd := rdEmb_agree e1.agr hb
      cases w with
      | true =>
        simp only [if_true]
        rw [hrd, rdEmb_app, ← readsT_emb]
        try rfl
      | false =>
        simp only [if_neg (show ¬ (false = true) by simp)]
        rw [rdEmb_app, rdEmb_app] at hrd
        have hl : (rdEmb env1 (readsT i o t.st.fr)).length = (rdEmb env (readsT i o t.st.fr)).length := by simp [rdEmb]
        exact ((List.append_inj hrd hl).2).symm
  | k + 1, .fork [], env, t, K, hi, hk => by simp only [planT, Ok]
  | k + 1, .fork [(i, w, p)], env, t, K, hi, hk => by
    simp only [planT]
    refine forkT_ok hs hi fun env1 t1 h1 e1 => planT_ok hs k p env1 t1 K e1.inv fun env' s' h2 e2 => hk env' s' ?_ (e1.trans e2)
    rw [s_fork1, h1, Option.bind_some, h2]
  | k + 1, .fork ((i, w, p) :: q :: r), env, t, K, hi, hk => by
    simp only [planT]
    refine iff_ok fun hb => forkT_ok hs hi fun env1 t1 h1 e1 => planT_ok hs k p env1 t1 _ e1.inv fun env2 s2 h2 e2 => canonT_ok e2.inv fun s3 h3 e3 => ?_
    have e12 := e1.trans e2
    have hT : t.emb env2 = t.emb env := by
      unfold bndTra at hb
      obtain ⟨b1, b2⟩ := and_t hb
      obtain ⟨b2, b3⟩ := and_t b2
      unfold STra.emb SS.emb
      rw [embF_agree e12.agr b1, embH_agree e12.agr b2, rdEmb_agree e12.agr b3]
    refine othersT_ok (c := c) (rec := rec) (n := n) (k := k) (ops := ops) (C := s3.emb env2) (T0 := t.emb env) (fun w i p env t K hi hk => ?_) (q :: r) s3 env2 K e3.inv rfl hT fun env' s' hall hC hi' hn ha => ?_
    · refine forkT_ok hs hi fun env1 t1 h1 e1 => planT_ok hs k p env1 t1 K e1.inv fun env' s' h2 e2 => hk env' s' ?_ (e1.trans e2)
      rw [h1, Option.bind_some, h2]
    · refine hk env' s' ?_ ((e12.trans e3).trans ⟨hi', hn, ha⟩)
      rw [s_fork2, h1, Option.bind_some, h2, Option.bind_some, h3, if_pos hall, hC]
end
end Go.Sy
