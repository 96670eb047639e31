/- Symbolic runs: the operations on memory. -/
import Derived.Test.YtkecfadnfnnfaaaSyI
set_option linter.unusedVariables false
set_option linter.unusedSimpArgs false
namespace Go.Sy
open Go Go.Ev

theorem at_some {γ : Type} {l : List γ} {n : Int} {x : γ} (h : at' l n = some x) : 0 ≤ n ∧ n < (l.length : Int) ∧ atIdx n l.length = some n.toNat ∧ l[n.toNat]? = some x := by
  unfold at' at h
  cases ha : atIdx n l.length with
  | none => rw [ha] at h; simp at h
  | some i =>
    rw [ha, Option.bind_some] at h
    have ha' := ha
    unfold atIdx at ha'
    split at ha'
    · rename_i hb
      simp only [Option.some.injEq] at ha'
      subst ha'
      rw [Ev.leI_eq, Ev.ltI_eq] at hb
      simp only [Bool.and_eq_true, decide_eq_true_eq] at hb
      exact ⟨hb.1, hb.2, rfl, h⟩
    · cases ha'
theorem at_of {γ : Type} {l : List γ} {n : Int} {x : γ} (h0 : 0 ≤ n) (h : l[n.toNat]? = some x) : at' l n = some x := by
  have hl : n.toNat < l.length := by
    rw [List.getElem?_eq_some_iff] at h
    exact h.1
  unfold at' atIdx
  rw [Ev.leI_eq, Ev.ltI_eq, decide_eq_true h0, decide_eq_true (show n < (l.length : Int) by omega)]
  exact h
theorem atIdx_of {n : Int} {len : Nat} (h0 : 0 ≤ n) (h1 : n < (len : Int)) : atIdx n len = some n.toNat := by
  unfold atIdx
  rw [Ev.leI_eq, Ev.ltI_eq, decide_eq_true h0, decide_eq_true h1]
  rfl
theorem natBeq {a b : Nat} (h : Nat.beq a b = true) : a = b := Nat.eq_of_beq_eq_true h
theorem rows_all (t : Ty) (l : List t.D) {z : Nat} (h : Nat.beq t.size z = true) : (List.map (row t) l).all (fun r => Nat.beq r.length z) = true := by
  simp only [List.all_map, List.all_eq_true, Function.comp_apply]
  intro x _
  rw [row_length]
  exact h
theorem tyOf_size {c : Ctx} {e : TypeId} {t : Ty} (h : tyOf c e = some t) : Nat.beq t.size (c.ty e).size = true := by
  unfold tyOf at h
  split at h
  · split at h
    · rename_i hb
      simp only [Option.some.injEq] at h
      subst h
      exact hb
    · cases h
  · cases h
section
variable {P : Nat → List Ty} {O : Nat → List (List Ty)} {m : (f : Nat) → Pr (P f) → Option (Sm (O f))} {α : Type}
variable {c : Ctx}
variable {env : Env} {s : SS} {K : SV → SS → T α} {Q : Env → α → Prop}
/-- An element by a natural number. -/
theorem getN_ok {t : Ty} {l i : Ex} {pend : List SV} {K : Ex → SS → T α} (hi : Inv m env s)
    (hk : ∀ env' x s', (l.den env (.lst t))[(i.den env .nat : Nat)]? = some (x.den env' t) → at' (l.den env (.lst t)) ((asInt i).2.den env (.int (asInt i).1)) = some (x.den env' t) → ExtH m env s env' s' → SV.embL env' pend = SV.embL env pend →
      (∀ u, l.den env' u = l.den env u) → (i.den env' .nat = i.den env .nat) → ((asInt i).2.den env' (.int (asInt i).1) = (asInt i).2.den env (.int (asInt i).1)) → Ok m (K x s') env' Q) : Ok m (getN t l i pend s K) env Q := by
  refine getI_ok hi fun env' x s' ha e1 hp hl hidx => ?_
  have key : ∀ env, (i.den env .nat : Nat) = Int.toNat ((asInt i).2.den env (.int (asInt i).1)) := fun env => by
    unfold asInt
    split
    · rfl
    · simp only [den_ofN, Int.toNat_natCast]
  obtain ⟨_, _, _, h4⟩ := at_some ha
  refine hk env' x s' ?_ ha e1 hp hl ?_ (hidx _)
  · rw [key env]; exact h4
  · rw [key env, key env', hidx]

/-! ### Structs and new slices -/
theorem setFrom_emb (env : Env) : ∀ (cs : List SV) (o : Nat) (vs : List SV), setFrom (SV.embL env cs) o (SV.embL env vs) = SV.embL env (setFromS cs o vs)
  | cs, 0, [] => by cases cs <;> rfl
  | [], 0, v :: vs => rfl
  | c :: r, 0, v :: vs => by
    show v.emb env :: setFrom (SV.embL env r) 0 (SV.embL env vs) = _
    rw [setFrom_emb env r 0 vs]
    rfl
  | [], o + 1, vs => by cases vs <;> rfl
  | c :: r, o + 1, vs => by
    have : setFrom (SV.embL env (c :: r)) (o + 1) (SV.embL env vs) = c.emb env :: setFrom (SV.embL env r) o (SV.embL env vs) := by cases vs <;> rfl
    rw [this, setFrom_emb env r o vs]
    cases vs <;> rfl
theorem fillAVS_ok (env : Env) {place : Nat → Option (Nat × Nat)} : ∀ {parts : List (Nat × SV)} {cells r : List SV}, fillAVS place cells parts = some r →
    fillAV place (SV.embL env cells) (parts.map fun p => (p.1, p.2.emb env)) = some (SV.embL env r)
  | [], cells, r, h => by
    simp only [fillAVS, Option.some.injEq] at h
    subst h
    rfl
  | (i, v) :: rest, cells, r, h => by
    simp only [fillAVS] at h
    simp only [List.map_cons, fillAV]
    split at h
    · cases h
    · rename_i off size hp
      rw [hp]
      simp only [fSp_eq, cells_emb, embL_length, allCell_emb, setFrom_emb]
      split at h
      · rename_i hb
        rw [hb]
        exact fillAVS_ok env h
      · cases h
theorem buildE_ok (env : Env) {i : TI} {parts : List (Nat × SV)} {v : SV} (h : buildE c i parts = some v) : buildAV c i (parts.map fun p => (p.1, p.2.emb env)) = some (v.emb env) := by
  unfold buildE at h
  split at h
  · cases h
  · rename_i zero hz
    unfold buildAV
    rw [← ofAVs_ok env hz]
    split at h
    · rename_i hd
      rw [hd]
      simp only
      split at h
      · rename_i hf
        simp only [Option.some.injEq] at h
        subst h
        rw [fillAVS_ok env hf]
        rfl
      · cases h
    · rename_i hd
      rw [hd]
      simp only
      split at h
      · rename_i hf
        simp only [Option.some.injEq] at h
        subst h
        rw [fillAVS_ok env hf]
        rfl
      · cases h
    · cases h
theorem lstZ_emb (env : Env) (l : List SV) : SV.embL env (l.map lstZS) = (SV.embL env l).map lstZ := by
  rw [embL_map, embL_map, List.map_map, List.map_map]
  exact List.map_congr_left fun v _ => by cases v <;> rfl
theorem zeroE_ok (env : Env) {t : Ty} {e : TypeId} {z : Ex} (h : zeroE c t e = some z) : (c.ty e).zero.map lstZ = row t (z.den env t) := by
  unfold zeroE at h
  split at h
  · cases h
  · rename_i zs hz
    rw [← ofAVs_ok env hz, ← lstZ_emb, reifyAll_ok env h]
theorem den_listE (env : Env) (t : Ty) : ∀ l : List Ex, (listE l).den env (.lst t) = l.map fun x => x.den env t
  | [] => rfl
  | x :: l => by
    show x.den env t :: (listE l).den env (.lst t) = _
    rw [den_listE env t l]
    rfl
theorem fillRowsS_ok {t : Ty} {size : Nat} {k : List Ex → SS → T α} : ∀ {parts : List (Nat × SV)} {xs : List Ex} {s : SS}, Inv m env s →
    (∀ ys s', fillRows size (xs.map fun x => row t (x.den env t)) (parts.map fun p => (p.1, p.2.emb env)) (embH env s.H) = some (ys.map fun x => row t (x.den env t), embH env s'.H) → ys.length = xs.length → Ext m env s env s' → Ok m (k ys s') env Q) →
    Ok m (fillRowsS t size xs parts s k) env Q
  | [], xs, s, hi, hk => hk xs s rfl rfl (ExtH.refl hi).toExt
  | (i, v) :: rest, xs, s, hi, hk => by
    unfold fillRowsS
    refine freezeT_ok hi fun x s1 h1 e1 => ?_
    refine iff_ok fun hb => opt_ok fun y hy => ?_
    refine fillRowsS_ok e1.inv fun ys s2 h2 hl e2 => hk ys s2 ?_ (by rw [hl, List.length_set]) (e1.trans e2)
    simp only [List.map_cons]
    rw [s_fillRows, h1, Option.bind_some]
    simp only [cells_emb, embL_length, allCell_emb, List.length_map, hb, if_true]
    rw [← h2, List.map_set, reifyAll_ok env hy]
theorem buildSliceT_ok {i : TI} {len : Nat} {parts : List (Nat × SV)} (hi : Inv m env s) (hk : Next m (buildSliceAV c i len (parts.map fun p => (p.1, p.2.emb env)) (embH env s.H)) env s K Q) :
    Ok m (buildSliceT c i len parts s K) env Q := by
  unfold buildSliceT
  refine opt_ok fun e he => opt_ok fun t ht => opt_ok fun z hz => iff_ok fun hb => ?_
  refine fillRowsS_ok hi fun xs s1 h1 hl e1 => hk env _ _ ?_ (e1.setH _)
  rw [s_buildSlice, he, Option.bind_some, if_pos hb]
  rw [List.map_replicate] at h1
  rw [zeroE_ok env hz, h1, Option.bind_some]
  simp only [List.length_replicate] at hl
  simp only [List.length_map, hl, if_true, SV.emb, embH_length, embH_app, Ev.hd, tg]
  simp only [embH, List.map_cons, List.map_nil, SB.emb, den_listE, List.map_map, Function.comp_def]
  rfl

/-! ### Reading and writing -/
theorem loadT_ok {t : TypeId} {a : SV} (hi : Inv m env s) (hk : Next m (okV (embH env s.H) (loadAV c t (embH env s.H) (a.emb env))) env s K Q) : Ok m (loadT c t a s K) env Q := by
  unfold loadT
  split
  · rename_i b i o
    simp only [SV.emb, s_loadPtr, s_rowAt, embH_get] at hk
    split
    · rename_i z u l hb
      refine getN_ok hi fun env' x s' h1 h2 e1 hp hl hi1 hi2 => opt_ok fun v hv => hk.same e1 ?_
      rw [hb]
      simp only [Option.map_some, Option.bind_some, SB.emb, List.getElem?_map, h1]
      rw [← emb_cells env', embL_drop, packS_emb, hv]
      rfl
    · rename_i z u l hb
      refine getN_ok hi fun env' x s' h1 h2 e1 hp hl hi1 hi2 => opt_ok fun v hv => hk.same e1 ?_
      rw [hb]
      simp only [Option.map_some, Option.bind_some, SB.emb, List.getElem?_map, h1]
      rw [← emb_cells env', embL_drop, packS_emb, hv]
      rfl
    · rename_i z tg es hb
      refine opt_ok fun j hj => opt_ok fun r hr => opt_ok fun v hv => hk.same (ExtH.refl hi) ?_
      have : i = .nn j := by
        unfold litNat at hj
        split at hj
        · simp only [Option.some.injEq] at hj; rw [hj]
        · cases hj
      subst this
      rw [hb]
      simp only [Option.map_some, Option.bind_some, SB.emb, List.getElem?_map, show ((Ex.nn j).den env .nat : Nat) = j from rfl, hr]
      rw [embL_drop, packS_emb, hv]
      rfl
    · simp only [Ok]
  · rename_i cs
    refine opt_ok fun v hv => hk.pure hi ?_
    show pack (c.ty t) (SV.embL env cs) = _
    rw [packS_emb, hv]
    rfl
  · simp only [Ok]
theorem storeT_ok {t : TypeId} {a v : SV} {K : SS → T α} (hi : Inv m env s)
    (hk : ∀ env' s', storeAV c t (embH env s.H) (a.emb env) (v.emb env) = some (embH env' s'.H) → Ext m env s env' s' → Ok m (K s') env' Q) : Ok m (storeT c t a v s K) env Q := by
  unfold storeT
  split
  · rename_i b i o
    simp only [SV.emb, s_storeAV, embH_get] at hk
    split
    · rename_i z u l hb
      simp only [hb, Option.map_some, Option.bind_some, SB.emb] at hk
      refine freezeT_ok hi fun x s1 h1 e1 => ?_
      split
      · rename_i z' u' l' hb'
        refine getN_ok e1.inv fun env' y s2 h2 h2' e2 hp hl hi1 hi2 => iff_ok fun hc => opt_ok fun w hw => ?_
        refine hk env' _ ?_ ?_
        · rw [h1, Option.bind_some, s_storeIn]
          simp only [embH_get, hb', Option.map_some, Option.bind_some, SB.emb, List.getElem?_map, h2]
          simp only [Bool.and_eq_true] at hc
          obtain ⟨⟨⟨c1, c2⟩, c3⟩, c4⟩ := hc
          have hx : SV.embL env x.cells = SV.embL env' x.cells := by
            have : [x.emb env'] = [x.emb env] := hp
            simp only [List.cons.injEq, and_true] at this
            rw [← cells_emb, ← cells_emb, this]
          simp only [cells_emb, embL_length, allCell_emb, row_length, c1, c2, c3, c4, Bool.and_self, if_true]
          rw [embH_set, e2.H, e2.emH, hx, ← emb_cells env', setFrom_emb, reifyAll_ok env' hw]
          simp only [SB.emb]
          have hd : (mk3 .set l' i w).den env' (.lst u') = (l'.den env (.lst u')).set (i.den env .nat) (w.den env' u') := by
            show ((l'.den env' (.lst u')).set (i.den env' .nat) (w.den env' u')) = _
            rw [hl, hi1]
          rw [hd, List.map_set]
        · refine (e1.trans e2.toExt).setH' ?_ _
          intro f hf
          simp only [List.mem_cons] at hf
          rcases hf with rfl | hf
          · simp only [Fact.holds]
            have hd : (mk3 .set l' i w).den env' (.lst u') = (l'.den env (.lst u')).set (i.den env .nat) (w.den env' u') := by
              show ((l'.den env' (.lst u')).set (i.den env' .nat) (w.den env' u')) = _
              rw [hl, hi1]
            obtain ⟨g1, g2, g3, g4⟩ := at_some h2'
            have key : (i.den env .nat : Nat) = Int.toNat ((asInt i).2.den env (.int (asInt i).1)) := by
              unfold asInt
              split
              · rfl
              · simp only [den_ofN, Int.toNat_natCast]
            rw [hd, hi2]
            refine at_of g1 ?_
            rw [← key, List.getElem?_set]
            simp only [if_true]
            rw [if_pos]
            rw [key]
            omega
          · exact e2.inv f hf
      · simp only [Ok]
    · rename_i z tg es hb
      simp only [hb, Option.map_some, Option.bind_some, SB.emb] at hk
      refine opt_ok fun p hp => ?_
      obtain ⟨cs, H⟩ := p
      simp only
      split
      · rename_i z' tg' es' hb'
        refine opt_ok fun j hj => opt_ok fun r hr => iff_ok fun hc => ?_
        have : i = .nn j := by
          unfold litNat at hj
          split at hj
          · simp only [Option.some.injEq] at hj; rw [hj]
          · cases hj
        subst this
        refine hk env _ ?_ ((ExtH.refl hi).toExt.setH _)
        rw [cells_emb, nestL_ok hp, s_storeIn]
        simp only [embH_get, hb', Option.map_some, Option.bind_some, SB.emb, List.getElem?_map, show ((Ex.nn j).den env .nat : Nat) = j from rfl, hr]
        simp only [Bool.and_eq_true] at hc
        obtain ⟨⟨⟨c1, c2⟩, c3⟩, c4⟩ := hc
        simp only [embL_length, allCell_emb, c1, c2, c3, c4, Bool.and_self, if_true]
        rw [embH_set, setFrom_emb]
        simp only [SB.emb, List.map_set]
      · simp only [Ok]
    · simp only [Ok]
  · simp only [Ok]
where
  dummy : True := trivial
end
end Go.Sy
