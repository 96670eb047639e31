/- Symbolic runs: freezing, renumbering, states made ready. -/
import Derived.Test.YtkecfadnfnnfaaaSyG
set_option linter.unusedVariables false
set_option linter.unusedSimpArgs false
namespace Go.Sy
open Go Go.Ev

/-! ### Rows -/
theorem isWhole_ok {env : Env} {t : Ty} {e off len : Ex} (h : isWhole t e off len = true) : off.den env .nat = (0 : Nat) ∧ len.den env .nat = (e.den env (.lst t)).length := by
  unfold isWhole at h
  obtain ⟨h1, h2⟩ := and_t h
  rw [exBeq_eq h1, exBeq_eq h2]
  exact ⟨rfl, den_lenN env t e⟩
theorem cut_ok {env : Env} {t u : Ty} {e off len x : Ex} {g : List Ex} (h : rowsS.cut t u e off len = some (x, g)) (hg : ∀ c ∈ g, c.den env .bool = true) :
    u = t ∧ (off.den env .nat : Nat) + (len.den env .nat : Nat) ≤ (e.den env (.lst t)).length ∧ x.den env (.lst t) = ((e.den env (.lst t)).drop (off.den env .nat)).take (len.den env .nat) := by
  unfold rowsS.cut at h
  split at h
  · rename_i hu
    have := tyBeq_eq hu
    subst this
    split at h
    · rename_i hw
      simp only [Option.some.injEq, Prod.mk.injEq] at h
      obtain ⟨rfl, rfl⟩ := h
      obtain ⟨h1, h2⟩ := isWhole_ok (env := env) hw
      rw [h1, h2]
      exact ⟨rfl, by simp, by simp⟩
    · simp only [Option.some.injEq, Prod.mk.injEq] at h
      obtain ⟨rfl, rfl⟩ := h
      have := hg _ (List.mem_singleton.mpr rfl)
      rw [den_nle, den_nadd, den_lenN, decide_eq_true_eq] at this
      refine ⟨rfl, this, ?_⟩
      show (((mk2 .dr off e).den env (.lst u))).take (len.den env .nat) = _
      rw [den_dr]
  · cases h
theorem rowsS_ok {env : Env} {t : Ty} {H : SH} {v : SV} {e : Ex} {g : List Ex} (h : rowsS t H v = some (e, g)) (hg : ∀ c ∈ g, c.den env .bool = true) :
    rowsOf (embH env H) (v.emb env) = some (List.map (row t) (e.den env (.lst t))) ∧ pureRows (v.emb env) (embH env H) = true := by
  unfold rowsS at h
  split at h
  · simp only [Option.some.injEq, Prod.mk.injEq] at h
    obtain ⟨rfl, rfl⟩ := h
    exact ⟨rfl, rfl⟩
  · simp only [Option.some.injEq, Prod.mk.injEq] at h
    obtain ⟨rfl, rfl⟩ := h
    exact ⟨rfl, rfl⟩
  · split at h
    · rename_i hu
      simp only [Option.some.injEq, Prod.mk.injEq] at h
      obtain ⟨rfl, rfl⟩ := h
      rw [tyBeq_eq hu]
      exact ⟨rfl, rfl⟩
    · split at h
      · simp only [Option.some.injEq, Prod.mk.injEq] at h
        obtain ⟨rfl, rfl⟩ := h
        exact ⟨rfl, rfl⟩
      · cases h
  · rename_i b off len
    simp only [SV.emb, s_rowsSl, s_pureSl, embH_get]
    split at h
    · rename_i z u l hb
      rw [hb]
      obtain ⟨rfl, h1, h2⟩ := cut_ok h hg
      simp only [Option.map_some, Option.bind_some, SB.emb, s_cutRows, List.length_map, h1, if_true, h2, List.map_drop, List.map_take]
      first | trivial | exact ⟨rfl, rfl⟩ | exact ⟨trivial, rfl⟩
    · rename_i z u l hb
      rw [hb]
      obtain ⟨rfl, h1, h2⟩ := cut_ok h hg
      simp only [Option.map_some, Option.bind_some, SB.emb, s_cutRows, List.length_map, h1, if_true, h2, List.map_drop, List.map_take]
      first | trivial | exact ⟨rfl, rfl⟩ | exact ⟨trivial, rfl⟩
    · cases h
  · cases h

/-! ### Freezing -/
theorem typeOfBlk_none {env : Env} {H : SH} {b : Nat} (h : typeOfBlk H b = none) (n off len : Nat) : freezeN (embH env H) (n + 1) (.sl b off len) = none := by
  rw [s_freezeSl, embH_get]
  unfold typeOfBlk at h
  split at h
  · cases h
  · cases h
  · rename_i h1 h2
    cases hb : H[b]? with
    | none => rfl
    | some k =>
      rw [hb] at h1 h2
      cases k <;> first | rfl | (exact absurd rfl (h1 _ _ _)) | (exact absurd rfl (h2 _ _ _))
theorem typeOfBlk_some {H : SH} {b : Nat} {t : Ty} (h : typeOfBlk H b = some t) (off len : Ex) : ∃ r, rowsS t H (.sl b off len) = some r := by
  unfold typeOfBlk at h
  split at h
  · rename_i hb
    simp only [Option.some.injEq] at h
    subst h
    simp only [rowsS, hb, rowsS.cut]
    have : ∀ t : Ty, Ty.beq t t = true := tyBeq_refl
    rw [this]
    simp only
    split <;> exact ⟨_, rfl⟩
  · rename_i hb
    simp only [Option.some.injEq] at h
    subst h
    simp only [rowsS, hb, rowsS.cut]
    have : ∀ t : Ty, Ty.beq t t = true := tyBeq_refl
    rw [this]
    simp only
    split <;> exact ⟨_, rfl⟩
  · cases h
where
  tyBeq_refl : ∀ t : Ty, Ty.beq t t = true
    | .nat => rfl
    | .int k => kEq_refl k
    | .bool => rfl
    | .str => rfl
    | .unit => rfl
    | .lst e => tyBeq_refl e
    | .pair a b => by simp only [Ty.beq, tyBeq_refl a, tyBeq_refl b, Bool.and_self]
theorem freezeSl_ok {env : Env} {H : SH} {b : Nat} {off len e : Ex} {t : Ty} {g : List Ex} (n : Nat) (h : rowsS t H (.sl b off len) = some (e, g)) (hg : ∀ c ∈ g, c.den env .bool = true) :
    freezeN (embH env H) (n + 1) ((SV.sl b off len).emb env) = some ((SV.tl t e).emb env) := by
  simp only [SV.emb, s_freezeSl, embH_get]
  unfold rowsS at h
  simp only at h
  split at h
  · rename_i z u l hb
    rw [hb]
    obtain ⟨rfl, h1, h2⟩ := cut_ok h hg
    simp only [Option.map_some, Option.bind_some, SB.emb, s_cutRows, List.length_map, h1, if_true, h2, List.map_drop, List.map_take]
  · rename_i z u l hb
    rw [hb]
    obtain ⟨rfl, h1, h2⟩ := cut_ok h hg
    simp only [Option.map_some, Option.bind_some, SB.emb, s_cutRows, List.length_map, h1, if_true, h2, List.map_drop, List.map_take]
  · cases h
mutual
theorem freezeE_ok {env : Env} {H : SH} : ∀ (n : Nat) {v x : SV} {g : List Ex}, freezeE H n v = some (x, g) → (∀ c ∈ g, c.den env .bool = true) → freezeN (embH env H) n (v.emb env) = some (x.emb env)
  | 0, v, x, g, h, hg => by simp [freezeE] at h
  | n + 1, v, x, g, h, hg => by
    cases v with
    | sl b off len =>
      simp only [freezeE] at h
      split at h
      · split at h
        · rename_i hr
          simp only [Option.some.injEq, Prod.mk.injEq] at h
          obtain ⟨rfl, rfl⟩ := h
          exact freezeSl_ok n hr hg
        · cases h
      · cases h
    | fn f caps =>
      cases caps with
      | nil =>
        simp only [freezeE, Option.some.injEq, Prod.mk.injEq] at h
        obtain ⟨rfl, rfl⟩ := h
        rfl
      | cons a l => simp [freezeE] at h
    | iface t v =>
      simp only [freezeE] at h
      split at h
      · rename_i hv
        simp only [Option.some.injEq, Prod.mk.injEq] at h
        obtain ⟨rfl, rfl⟩ := h
        simp only [SV.emb, freezeN, freezeE_ok n hv hg]
      · cases h
    | agg cs =>
      simp only [freezeE] at h
      split at h
      · rename_i hv
        simp only [Option.some.injEq, Prod.mk.injEq] at h
        obtain ⟨rfl, rfl⟩ := h
        rw [SV.emb, s_freezeAgg, freezeL_ok n hv hg]
        rfl
      · cases h
    | nils =>
      simp only [freezeE, Option.some.injEq, Prod.mk.injEq] at h
      obtain ⟨rfl, rfl⟩ := h
      rfl
    | emp =>
      simp only [freezeE, Option.some.injEq, Prod.mk.injEq] at h
      obtain ⟨rfl, rfl⟩ := h
      rfl
    | ptr b i o => simp [freezeE] at h
    | map b => simp [freezeE] at h
    | undef => simp [freezeE] at h
    | tup vs => simp [freezeE] at h
    | _ =>
      simp only [freezeE, Option.some.injEq, Prod.mk.injEq] at h
      obtain ⟨rfl, rfl⟩ := h
      rfl
theorem freezeL_ok {env : Env} {H : SH} (n : Nat) : ∀ {l xs : List SV} {g : List Ex}, freezeL (freezeE H n) l = some (xs, g) → (∀ c ∈ g, c.den env .bool = true) → mapM' (freezeN (embH env H) n) (SV.embL env l) = some (SV.embL env xs)
  | [], xs, g, h, hg => by
    simp only [freezeL, Option.some.injEq, Prod.mk.injEq] at h
    obtain ⟨rfl, rfl⟩ := h
    rfl
  | v :: l, xs, g, h, hg => by
    simp only [freezeL] at h
    split at h
    · cases h
    · rename_i x g1 h1
      split at h
      · rename_i l' g2 h2
        simp only [Option.some.injEq, Prod.mk.injEq] at h
        obtain ⟨rfl, rfl⟩ := h
        rw [SV.embL, mapM'_cons, s_consO, freezeE_ok n h1 (fun c hc => hg c (List.mem_append_left _ hc)), freezeL_ok n h2 (fun c hc => hg c (List.mem_append_right _ hc))]
        rfl
      · cases h
end
mutual
theorem freezeE_none {env : Env} {H : SH} : ∀ (n : Nat) {v : SV}, freezeE H n v = none → freezeN (embH env H) n (v.emb env) = none
  | 0, v, h => rfl
  | n + 1, v, h => by
    cases v with
    | sl b off len =>
      simp only [freezeE] at h
      split at h
      · rename_i ht
        obtain ⟨r, hr⟩ := typeOfBlk_some ht off len
        rw [hr] at h
        cases h
      · rename_i ht
        exact typeOfBlk_none ht _ _ _
    | fn f caps =>
      cases caps with
      | nil => simp [freezeE] at h
      | cons a l => rfl
    | iface t v =>
      simp only [freezeE] at h
      split at h
      · cases h
      · rename_i hv
        simp only [SV.emb, freezeN, freezeE_none n hv]
    | agg cs =>
      simp only [freezeE] at h
      split at h
      · cases h
      · rename_i hv
        rw [SV.emb, s_freezeAgg, freezeL_none n hv]
        rfl
    | ptr b i o => rfl
    | map b => rfl
    | undef => rfl
    | tup vs => rfl
    | _ => simp [freezeE] at h
theorem freezeL_none {env : Env} {H : SH} (n : Nat) : ∀ {l : List SV}, freezeL (freezeE H n) l = none → mapM' (freezeN (embH env H) n) (SV.embL env l) = none
  | [], h => by simp [freezeL] at h
  | v :: l, h => by
    simp only [freezeL] at h
    rw [SV.embL, mapM'_cons, s_consO]
    split at h
    · rename_i h1
      rw [freezeE_none n h1]
      rfl
    · split at h
      · cases h
      · rename_i h2
        rw [freezeL_none n h2]
        cases freezeN (embH env H) n (v.emb env) <;> rfl
end
theorem frozenIn_emb (env : Env) : ∀ (n : Nat) (v : SV), frozenIn n (v.emb env) = frozenInS n v
  | 0, v => rfl
  | n + 1, v => by
    cases v with
    | iface t v => exact frozenIn_emb env n v
    | agg cs =>
      show (SV.embL env cs).flatMap (frozenIn n) = cs.flatMap (frozenInS n)
      rw [embL_map, List.flatMap_map]
      congr 1
      funext v
      exact frozenIn_emb env n v
    | _ => rfl
theorem shutS_ok {env : Env} {H H' : SH} {b : Nat} (h : shutS H b = some H') : shut (embH env H) b = some (embH env H') := by
  rw [s_shut, embH_get]
  unfold shutS at h
  split at h
  · rename_i hb
    simp only [Option.some.injEq] at h
    subst h
    rw [hb, embH_set]
    rfl
  · rename_i hb
    simp only [Option.some.injEq] at h
    subst h
    rw [hb]
    rfl
  · cases h
theorem shutAllS_ok {env : Env} : ∀ {l : List Nat} {H H' : SH}, shutAllS l H = some H' → shutAll l (embH env H) = some (embH env H')
  | [], H, H', h => by
    simp only [shutAllS, Option.some.injEq] at h
    subst h
    rfl
  | b :: l, H, H', h => by
    simp only [shutAllS] at h
    split at h
    · rename_i h1
      rw [s_shutAll, shutS_ok h1]
      exact shutAllS_ok h
    · cases h
section
variable {P : Nat → List Ty} {O : Nat → List (List Ty)} {m : (f : Nat) → Pr (P f) → Option (Sm (O f))} {α : Type}
theorem Ext.setH {env env' : Env} {s s' : SS} (h : Ext m env s env' s') (H : SH) : Ext m env s env' { s' with H := H } := ⟨h.inv, h.nx, h.agr, h.fr, h.emF⟩
theorem Ext.setH' {env env' : Env} {s s' : SS} {fs : List Fact} (h : Ext m env s env' s') (hi : ∀ f ∈ fs, Fact.holds m env' f) (H : SH) : Ext m env s env' { s' with H := H, fs := fs } := ⟨hi, h.nx, h.agr, h.fr, h.emF⟩
theorem freezeT_ok {env : Env} {s : SS} {v : SV} {k : SV → SS → T α} {Q : Env → α → Prop} (hi : Inv m env s)
    (hk : ∀ x s', freezeS (embH env s.H) (v.emb env) = some (x.emb env, embH env s'.H) → Ext m env s env s' → Ok m (k x s') env Q) : Ok m (freezeT v s k) env Q := by
  unfold freezeT
  refine opt_ok fun p hp => ?_
  obtain ⟨x, g⟩ := p
  refine guards_ok hi fun s1 hg e1 => ?_
  refine opt_ok fun H hH => ?_
  refine hk x _ ?_ (e1.toExt.setH H)
  rw [s_freezeS, freezeE_ok 12 hp hg, Option.bind_some, frozenIn_emb, ← e1.H, shutAllS_ok hH]
  rfl
theorem flatN_emb (env : Env) : ∀ (n : Nat) (v : SV), flatN n (v.emb env) = flatS n v
  | 0, v => rfl
  | n + 1, v => by
    cases v with
    | iface t v => exact flatN_emb env n v
    | agg cs =>
      show (SV.embL env cs).all (flatN n) = cs.all (flatS n)
      rw [embL_map, List.all_map]
      congr 1
      funext v
      exact flatN_emb env n v
    | tup cs =>
      show (SV.embL env cs).all (flatN n) = cs.all (flatS n)
      rw [embL_map, List.all_map]
      congr 1
      funext v
      exact flatN_emb env n v
    | fn f caps => cases caps <;> rfl
    | _ => rfl

/-! ### Renumbering -/
theorem refsN_emb (env : Env) : ∀ (n : Nat) (v : SV), refsN n (v.emb env) = refsS n v
  | 0, v => rfl
  | n + 1, v => by
    have hm : ∀ cs : List SV, (SV.embL env cs).flatMap (refsN n) = cs.flatMap (refsS n) := fun cs => by
      rw [embL_map, List.flatMap_map]
      congr 1
      funext v
      exact refsN_emb env n v
    cases v with
    | iface t v => exact refsN_emb env n v
    | agg cs => exact hm cs
    | tup cs => exact hm cs
    | fn f caps => cases caps with
      | nil => rfl
      | cons a l => exact hm (a :: l)
    | _ => rfl
theorem renN_emb (env : Env) (σ : Nat → Nat) : ∀ (n : Nat) (v : SV), renN σ n (v.emb env) = (renS σ n v).emb env
  | 0, v => rfl
  | n + 1, v => by
    have hm : ∀ cs : List SV, (SV.embL env cs).map (renN σ n) = SV.embL env (cs.map (renS σ n)) := fun cs => by
      rw [embL_map, embL_map, List.map_map, List.map_map]
      exact List.map_congr_left fun v _ => renN_emb env σ n v
    cases v with
    | iface t v => show AV.iface t (renN σ n (v.emb env)) = _; rw [renN_emb env σ n v]; rfl
    | agg cs => show AV.agg ((SV.embL env cs).map (renN σ n)) = _; rw [hm]; rfl
    | tup cs => show AV.tup ((SV.embL env cs).map (renN σ n)) = _; rw [hm]; rfl
    | fn f caps => cases caps with
      | nil => rfl
      | cons a l => show AV.fn f ((SV.embL env (a :: l)).map (renN σ n)) = _; rw [hm]; rfl
    | _ => rfl
theorem refs_embL (env : Env) (l : List SV) : (SV.embL env l).flatMap refs = l.flatMap (refsS 8) := by
  rw [embL_map, List.flatMap_map]
  congr 1
  funext v
  exact refsN_emb env 8 v
theorem ren_embL (env : Env) (σ : Nat → Nat) (l : List SV) : (SV.embL env l).map (Ev.ren σ) = SV.embL env (l.map (renS σ 8)) := by
  rw [embL_map, embL_map, List.map_map, List.map_map]
  exact List.map_congr_left fun v _ => renN_emb env σ 8 v
theorem blkRefs_emb (env : Env) (b : SB) : (b.emb env).refs = b.refs := by
  cases b with
  | box z tg es =>
    show (es.map (SV.embL env)).flatMap (fun r => r.flatMap Ev.refs) = es.flatMap fun r => r.flatMap (refsS 8)
    rw [List.flatMap_map]
    congr 1
    funext r
    exact refs_embL env r
  | _ => rfl
theorem blkRen_emb (env : Env) (σ : Nat → Nat) (b : SB) : (b.emb env).rn σ = (b.ren σ).emb env := by
  cases b with
  | box z tg es =>
    show Blk.rows z false ((es.map (SV.embL env)).map fun r => r.map (Ev.ren σ)) = Blk.rows z false ((es.map fun r => r.map (renS σ 8)).map (SV.embL env))
    rw [List.map_map, List.map_map]
    congr 1
    exact List.map_congr_left fun r _ => ren_embL env σ r
  | _ => rfl
theorem blkAt_emb (env : Env) (H : SH) (b : Nat) : blkAt (embH env H) b = (blkS H b).emb env := by
  unfold blkAt blkS
  rw [embH_get]
  cases H[b]? <;> rfl
theorem visit_emb (env : Env) (H : SH) : ∀ (n : Nat) (todo seen : List Nat), visit (embH env H) n todo seen = visitS H n todo seen
  | 0, _, _ => rfl
  | _ + 1, [], _ => rfl
  | n + 1, b :: todo, seen => by
    simp only [visit, visitS]
    cases isIn b seen with
    | true => exact visit_emb env H n todo seen
    | false =>
      simp only [fSp_eq, blkAt_emb, blkRefs_emb]
      exact visit_emb env H n _ _
theorem reach_emb {β : Type} (env : Env) (m : Nat) (vs : List SV) (H : SH) (k : List Nat → Option β) : reach m (SV.embL env vs) (embH env H) k = (reachS m vs H).bind k := by
  unfold reach reachS
  simp only [fSp_eq, refs_embL, blkAt_emb, blkRefs_emb, visit_emb]
  cases visitS H 100000 ((downFrom m).reverse.flatMap (fun b => (blkS H b).refs) ++ vs.flatMap (refsS 8)) (downFrom m) <;> rfl
theorem renF_emb (env : Env) (σ : Nat → Nat) (fr : SF) : (embF env fr).map (fun p => (p.1, Ev.ren σ p.2)) = embF env (Sy.renF σ fr) := by
  simp only [embF, Sy.renF, List.map_map, Function.comp_def]
  exact List.map_congr_left fun p _ => by rw [show Ev.ren σ (p.2.emb env) = _ from renN_emb env σ 8 p.2]
theorem pick_emb (env : Env) (σ : Nat → Nat) (H : SH) (l : List Nat) : (l.map fun b => (blkAt (embH env H) b).rn σ) = embH env (pickBlks σ H l) := by
  simp only [pickBlks, embH, List.map_map, Function.comp_def]
  exact List.map_congr_left fun b _ => by rw [show blkAt (List.map (SB.emb env) H) b = _ from blkAt_emb env H b, blkRen_emb]
theorem canonS_ok {β : Type} {env : Env} {m : Nat} {s s' : SS} (h : canonS m s = some s') (k : St → Option β) : (s.emb env).canon m k = k (s'.emb env) ∧ s'.nx = s.nx ∧ s'.fs = s.fs := by
  unfold canonS at h
  split at h
  · cases h
  · rename_i seen hs
    simp only [Option.some.injEq] at h
    subst h
    refine ⟨?_, rfl, rfl⟩
    unfold St.canon SS.emb
    simp only [embF_vals, reach_emb, hs, Option.bind_some, renFr_eq, renBlks_eq, renF_emb, pick_emb]

/-! ### Empty slices get blocks -/
theorem isNil_emb {env : Env} {v : SV} : nestL.isNil v = true → v.emb env = .nils ∨ v.emb env = .emp := by
  intro h
  cases v <;> first | exact Or.inl rfl | exact Or.inr rfl | (exact absurd h (by simp [nestL.isNil]))
theorem notNil_emb {env : Env} {v : SV} (h : nestL.isNil v = false) : v.emb env ≠ .nils ∧ v.emb env ≠ .emp := by
  cases v <;> first | (cases h; done) | (constructor <;> simp [SV.emb])
theorem nestCells_not {β : Type} (c : Ctx) (z : Nat) (zs : List Nat) (v : AV) (vs : List AV) (H : Heap) (k : List AV → Heap → β) (h1 : v ≠ .nils) (h2 : v ≠ .emp) :
    nestCells c ((z + 1) :: zs) (v :: vs) H k = nestCells c zs vs H fun vs H => k (v :: vs) H := by
  cases v <;> first | rfl | (exact absurd rfl h1) | (exact absurd rfl h2)
theorem nestL_ok {β : Type} {env : Env} {c : Ctx} : ∀ {zs : List Nat} {vs ws : List SV} {H H' : SH}, nestL c zs vs H = some (ws, H') → ∀ (k : List AV → Heap → β), nestCells c zs (SV.embL env vs) (embH env H) k = k (SV.embL env ws) (embH env H')
  | [], vs, ws, H, H', h, k => by
    cases vs <;> (simp only [nestL, Option.some.injEq, Prod.mk.injEq] at h; obtain ⟨rfl, rfl⟩ := h; rfl)
  | z :: zs, [], ws, H, H', h, k => by
    simp only [nestL, Option.some.injEq, Prod.mk.injEq] at h
    obtain ⟨rfl, rfl⟩ := h
    rfl
  | 0 :: zs, v :: vs, ws, H, H', h, k => by
    simp only [nestL] at h
    split at h
    · rename_i h1
      simp only [Option.some.injEq, Prod.mk.injEq] at h
      obtain ⟨rfl, rfl⟩ := h
      show nestCells c zs (SV.embL env vs) (embH env H) (fun vs H => k (v.emb env :: vs) H) = _
      rw [nestL_ok h1]
      rfl
    · cases h
  | (z + 1) :: zs, v :: vs, ws, H, H', h, k => by
    simp only [nestL] at h
    split at h
    · rename_i hn
      split at h
      · rename_i t ht
        split at h
        · rename_i h1
          simp only [Option.some.injEq, Prod.mk.injEq] at h
          obtain ⟨rfl, rfl⟩ := h
          have hb : embH env H ++ [.rows (c.ty z).size true (tg z [])] = embH env (H ++ [.rows (c.ty z).size t .nl]) := by rw [embH_app]; rfl
          rcases isNil_emb (env := env) hn with e | e
          · rw [SV.embL, e, s_cellsNils, hb, nestL_ok h1, embH_length]
            rfl
          · rw [SV.embL, e, s_cellsEmp, hb, nestL_ok h1, embH_length]
            rfl
        · cases h
      · cases h
    · rename_i hn
      split at h
      · rename_i h1
        simp only [Option.some.injEq, Prod.mk.injEq] at h
        obtain ⟨rfl, rfl⟩ := h
        obtain ⟨a, b⟩ := notNil_emb (env := env) hn
        rw [SV.embL, nestCells_not c z zs _ _ _ _ a b, nestL_ok h1]
        rfl
      · cases h
theorem oneOf_emb (env : Env) (d : SV) (l : List SV) : oneOf (d.emb env) (SV.embL env l) = (oneOfS d l).emb env := by
  cases l with
  | nil => rfl
  | cons a l => cases l <;> rfl
theorem nestV_ok {β : Type} {env : Env} {c : Ctx} {zs : List Nat} {v w : SV} {H H' : SH} (h : nestV c zs v H = some (w, H')) (k : AV → Heap → β) : nestAV c zs (v.emb env) (embH env H) k = k (w.emb env) (embH env H') := by
  unfold nestV at h
  split at h
  · simp only [Option.some.injEq, Prod.mk.injEq] at h
    obtain ⟨rfl, rfl⟩ := h
    rfl
  · rename_i hz
    split at h
    · rename_i cs
      split at h
      · rename_i h1
        simp only [Option.some.injEq, Prod.mk.injEq] at h
        obtain ⟨rfl, rfl⟩ := h
        cases zs with
        | nil => exact absurd rfl hz
        | cons z zs =>
          show nestAV c (z :: zs) (.agg (SV.embL env cs)) (embH env H) k = _
          rw [s_nestAgg, nestL_ok h1]
          rfl
      · cases h
    · rename_i hv
      split at h
      · rename_i h1
        simp only [Option.some.injEq, Prod.mk.injEq] at h
        obtain ⟨rfl, rfl⟩ := h
        cases zs with
        | nil => exact absurd rfl hz
        | cons z zs =>
          have key : nestCells c (z :: zs) [v.emb env] (embH env H) (fun cs H => k (oneOf (v.emb env) cs) H) = _ := nestL_ok (env := env) (vs := [v]) h1 _
          have : nestAV c (z :: zs) (v.emb env) (embH env H) k = nestCells c (z :: zs) [v.emb env] (embH env H) (fun cs H => k (oneOf (v.emb env) cs) H) := by
            cases v <;> first | rfl | exact absurd rfl (hv _)
          rw [this, key, oneOf_emb]
      · cases h
theorem nestF_ok {β : Type} {env : Env} {c : Ctx} {nz : Nat → List Nat} : ∀ {fr fr' : SF} {H H' : SH}, nestF c nz fr H = some (fr', H') → ∀ (k : Fr → Heap → β), nestFr c nz (embF env fr) (embH env H) k = k (embF env fr') (embH env H')
  | [], fr', H, H', h, k => by
    simp only [nestF, Option.some.injEq, Prod.mk.injEq] at h
    obtain ⟨rfl, rfl⟩ := h
    rfl
  | p :: r, fr', H, H', h, k => by
    simp only [nestF] at h
    split at h
    · cases h
    · rename_i v H1 h1
      split at h
      · cases h
      · rename_i r' H2 h2
        simp only [Option.some.injEq, Prod.mk.injEq] at h
        obtain ⟨rfl, rfl⟩ := h
        show nestFr c nz ((p.1, p.2.emb env) :: embF env r) (embH env H) k = _
        rw [s_nestCons, nestV_ok h1, nestF_ok h2]
        rfl
theorem normS_ok {β : Type} {env : Env} {c : Ctx} {nz : Nat → List Nat} {mask m : Nat} {s s' : SS} (h : normS c nz mask m s = some s') (k : St → Option β) : (s.emb env).norm c nz mask m k = k (s'.emb env) ∧ s'.nx = s.nx ∧ s'.fs = s.fs := by
  unfold normS at h
  split at h
  · cases h
  · rename_i fr H h1
    obtain ⟨a, b, d⟩ := canonS_ok (env := env) h k
    refine ⟨?_, b, d⟩
    rw [s_norm]
    show nestFr c nz ((embF env s.fr).only mask) (embH env s.H) _ = _
    rw [← onlyF_emb, nestF_ok h1]
    exact a
theorem mvFrom_emb (env : Env) (keep : List Nat) : ∀ (i : Nat) (H : SH), mvFrom keep i (embH env H) = mvFromS keep i H
  | _, [] => rfl
  | i, k :: r => by
    have ih := mvFrom_emb env keep (i + 1) r
    cases k with
    | rows z t e =>
      show ifB (isIn i keep) (mvFrom keep (i + 1) (embH env r)) (i :: mvFrom keep (i + 1) (embH env r)) = (match isIn i keep with | true => mvFromS keep (i + 1) r | false => i :: mvFromS keep (i + 1) r)
      rw [ih]
      cases isIn i keep <;> rfl
    | _ => exact ih
theorem mvBlks_emb (env : Env) (σ : Nat → Nat) (mv : List Nat) : ∀ (i : Nat) (H : SH), mvB σ mv i (embH env H) = embH env (mvBlksS σ mv i H)
  | _, [] => rfl
  | i, x :: r => by
    show (if i ∈ mv then Blk.dead else (x.emb env).rn σ) :: mvB σ mv (i + 1) (embH env r) = (match isIn i mv with | true => SB.dead | false => x.ren σ).emb env :: embH env (mvBlksS σ mv (i + 1) r)
    rw [mvBlks_emb env σ mv (i + 1) r, blkRen_emb]
    have := isIn_iff i mv
    cases h : isIn i mv with
    | true => rw [if_pos (this.mp h)]; rfl
    | false =>
      rw [if_neg fun hm => by rw [this.mpr hm] at h; cases h]
theorem mvHeap_emb {β : Type} (env : Env) (args : List SV) (H : SH) (k : Heap → β) : mvHeap (SV.embL env args) (embH env H) k = k (embH env (mvHeapS args H)) := by
  rw [mvHeap_eq]
  unfold mvHeapS
  simp only [refs_embL, mvFrom_emb, embH_length, mvBlks_emb, embH_app]
  congr 2
  simp only [embH, List.map_map, Function.comp_def]
  exact List.map_congr_left fun b _ => blkAt_emb env H b
end
end Go.Sy
