/- Symbolic runs: slices, new blocks, addresses. -/
import Derived.Test.YtkecfadnfnnfaaaSyJ
set_option linter.unusedVariables false
set_option linter.unusedSimpArgs false
namespace Go.Sy
open Go Go.Ev

section
variable {P : Nat → List Ty} {O : Nat → List (List Ty)} {m : (f : Nat) → Pr (P f) → Option (Sm (O f))} {α : Type}
variable {c : Ctx}
variable {env : Env} {s : SS} {K : SV → SS → T α} {Q : Env → α → Prop}

theorem hd_map {γ δ : Type} (f : γ → δ) (l : List γ) : hd (l.map f) = l.length := by simp [Ev.hd]
theorem boundE_ok {n : Option SV} {d most e : Ex} {g : List Ex} (env : Env) (h : boundE n d most = some (e, g)) (hg : ∀ c ∈ g, c.den env .bool = true) :
    bound (n.map (SV.emb env)) (d.den env .nat) (most.den env .nat) = some (e.den env .nat) := by
  unfold boundE at h
  split at h
  · simp only [Option.some.injEq, Prod.mk.injEq] at h
    obtain ⟨rfl, rfl⟩ := h
    rfl
  · rename_i k n
    simp only [Option.some.injEq, Prod.mk.injEq] at h
    obtain ⟨rfl, rfl⟩ := h
    have h1 := hg (leE k (.il 0) n) (by simp)
    have h2 := hg (leE k n (mk1 .ofN most)) (by simp)
    rw [den_leE, decide_eq_true_eq] at h1 h2
    rw [den_ofN] at h2
    simp only [Option.map_some, SV.emb, s_boundS, bnd]
    rw [if_pos ⟨h1, h2⟩, den_toN]
  · cases h
theorem isSize_emb (env : Env) (H : SH) (b n : Nat) : isSize (embH env H) b n = isSizeS H b n := by
  unfold isSize isSizeS rowSize rowSizeS
  rw [embH_get]
  cases H[b]? with
  | none => rfl
  | some k => cases k <;> rfl
theorem rowSize_emb (env : Env) (H : SH) (b : Nat) : rowSize (embH env H) b = rowSizeS H b := by
  unfold rowSize rowSizeS
  rw [embH_get]
  cases H[b]? with
  | none => rfl
  | some k => cases k <;> rfl
theorem sliceE_ok {t : TypeId} {H : SH} {x v : SV} {lo hi : Option SV} {g : List Ex} (env : Env) (h : sliceE c t H x lo hi = some (v, g)) (hg : ∀ c ∈ g, c.den env .bool = true) :
    sliceAV c t (embH env H) (x.emb env) (lo.map (SV.emb env)) (hi.map (SV.emb env)) = some (v.emb env) := by
  unfold sliceE at h
  split at h
  · rename_i e
    split at h
    · rename_i ht
      split at h
      · rename_i hh g1 h1
        split at h
        · rename_i l g2 h2
          simp only [Option.some.injEq, Prod.mk.injEq] at h
          obtain ⟨rfl, rfl⟩ := h
          have b1 := boundE_ok env h1 (fun c hc => hg c (List.mem_append_left _ hc))
          have b2 := boundE_ok env h2 (fun c hc => hg c (List.mem_append_right _ hc))
          rw [den_slen] at b1
          simp only [SV.emb]
          rw [s_sliceStr c t _ _ _ _ ht, show hd (e.den env .str) = (e.den env .str).length from rfl, b1, Option.bind_some, show (0 : Nat) = (natE 0).den env .nat from rfl, b2]
          rfl
        · cases h
      · cases h
    · cases h
  · rename_i u e
    split at h
    · rename_i el hh g1 he h1
      split at h
      · rename_i l g2 h2
        split at h
        · rename_i hs
          simp only [Option.some.injEq, Prod.mk.injEq] at h
          obtain ⟨rfl, rfl⟩ := h
          have b1 := boundE_ok env h1 (fun c hc => hg c (List.mem_append_left _ hc))
          have b2 := boundE_ok env h2 (fun c hc => hg c (List.mem_append_right _ hc))
          rw [den_lenN] at b1
          simp only [SV.emb]
          rw [s_sliceLst, he, Option.bind_some, hd_map, b1, Option.bind_some, show (0 : Nat) = (natE 0).den env .nat from rfl, b2, Option.bind_some, if_pos (rows_all u _ hs)]
          have : (Ex.o2 .tk (mk2 .nsub hh l) (mk2 .dr l e)).den env (.lst u) = ((e.den env (.lst u)).drop (l.den env .nat)).take ((hh.den env .nat : Nat) - (l.den env .nat : Nat)) := by
            show ((mk2 .dr l e).den env (.lst u)).take ((mk2 .nsub hh l).den env .nat) = _
            rw [den_dr, den_nsub]
          rw [this, List.map_take, List.map_drop]
        · cases h
      · cases h
    · cases h
  · rename_i b off len
    split at h
    · rename_i el hh g1 he h1
      split at h
      · rename_i l g2 h2
        split at h
        · rename_i hs
          simp only [Option.some.injEq, Prod.mk.injEq] at h
          obtain ⟨rfl, rfl⟩ := h
          have b1 := boundE_ok env h1 (fun c hc => hg c (List.mem_append_left _ hc))
          have b2 := boundE_ok env h2 (fun c hc => hg c (List.mem_append_right _ hc))
          simp only [SV.emb]
          rw [s_sliceSl, he, Option.bind_some, b1, Option.bind_some, show (0 : Nat) = (natE 0).den env .nat from rfl, b2, Option.bind_some, isSize_emb, if_pos hs, den_nadd, den_nsub]
        · cases h
      · cases h
    · cases h
  · split at h
    · rename_i el a g1 b g2 he h1 h2
      simp only [Option.some.injEq, Prod.mk.injEq] at h
      obtain ⟨rfl, rfl⟩ := h
      have b1 := boundE_ok env h1 (fun c hc => hg c (List.mem_append_left _ hc))
      have b2 := boundE_ok env h2 (fun c hc => hg c (List.mem_append_right _ hc))
      have b1' : bound (hi.map (SV.emb env)) 0 0 = _ := b1
      have b2' : bound (lo.map (SV.emb env)) 0 0 = _ := b2
      simp only [SV.emb]
      rw [s_sliceNils, he, Option.bind_some, b1', Option.bind_some, b2']
      rfl
    · cases h
  · split at h
    · rename_i el a g1 b g2 he h1 h2
      simp only [Option.some.injEq, Prod.mk.injEq] at h
      obtain ⟨rfl, rfl⟩ := h
      have b1 := boundE_ok env h1 (fun c hc => hg c (List.mem_append_left _ hc))
      have b2 := boundE_ok env h2 (fun c hc => hg c (List.mem_append_right _ hc))
      have b1' : bound (hi.map (SV.emb env)) 0 0 = _ := b1
      have b2' : bound (lo.map (SV.emb env)) 0 0 = _ := b2
      simp only [SV.emb, sliceAV, he, b1', b2']
    · cases h
  · cases h
theorem sliceT_ok {t : TypeId} {x : SV} {lo hi mx : Option SV} (h0 : Inv m env s)
    (hk : Next m (okV (embH env s.H) (sliceOp c t (embH env s.H) (x.emb env) (lo.map (SV.emb env)) (hi.map (SV.emb env)) (mx.map (SV.emb env)))) env s K Q) : Ok m (sliceT c t x lo hi mx s K) env Q := by
  unfold sliceT
  split
  · refine opt_ok fun p hp => ?_
    obtain ⟨v, g⟩ := p
    refine guards_ok h0 fun s1 hg e1 => hk.same e1 ?_
    show okV _ (sliceAV c t (embH env s.H) (x.emb env) (lo.map (SV.emb env)) (hi.map (SV.emb env))) = _
    rw [sliceE_ok env hp hg]
    rfl
  · simp only [Ok]

/-! ### New blocks -/
theorem newRows_ok {e : TypeId} {t : Ty} {x : Ex} (hi : Inv m env s) (hk : Next m (appendNew c e (embH env s.H) (List.map (row t) (x.den env (.lst t)))) env s K Q) : Ok m (newRows c e t x s K) env Q := by
  unfold newRows
  refine iff_ok fun hb => guard_ok hi fun s1 hg e1 => hk env _ _ ?_ (e1.toExt.setH _)
  rw [den_nle, den_nmul, den_lenN, decide_eq_true_eq] at hg
  rw [s_appendNew, List.length_map, if_pos ⟨hg, Nat.le_of_ble_eq_true hb⟩, hd_map, e1.H, embH_app, embH_length]
  simp only [SV.emb, den_lenN]
  rfl
theorem cloneT_ok {e : TypeId} {args : List SV} (hi : Inv m env s) (hk : Next m (cloneAV c e (SV.embL env args) (embH env s.H)) env s K Q) : Ok m (cloneT c e args s K) env Q := by
  unfold cloneT
  split
  · rename_i x
    refine opt_ok fun t ht => opt_ok fun p hp => ?_
    obtain ⟨l, g⟩ := p
    refine guards_ok hi fun s1 hg e1 => newRows_ok e1.inv ?_
    obtain ⟨r1, r2⟩ := rowsS_ok hp hg
    intro env' v s' h e2
    refine hk env' v s' ?_ (e1.toExt.trans e2)
    show cloneAV c e [x.emb env] (embH env s.H) = _
    rw [s_clone, r1, Option.bind_some, if_pos r2, if_pos (rows_all t _ (tyOf_size ht)), ← e1.H, h]
  · simp only [Ok]
theorem appendT_ok {t tx : TypeId} {a x : SV} (hi : Inv m env s) (hk : Next m (appendAV c t tx (embH env s.H) (a.emb env) (x.emb env)) env s K Q) : Ok m (appendT c t tx a x s K) env Q := by
  unfold appendT
  refine opt_ok fun e' he' => opt_ok fun e he => opt_ok fun u hu => opt_ok fun p hp => ?_
  obtain ⟨new, g⟩ := p
  refine guards_ok hi fun s1 hg e1 => ?_
  obtain ⟨r1, r2⟩ := rowsS_ok hp hg
  have key : appendAV c t tx (embH env s.H) (a.emb env) (x.emb env) = appTo c e (embH env s1.H) (List.map (row u) (new.den env (.lst u))) (a.emb env) := by
    rw [s_append, he', he, Option.bind_some, r1, Option.bind_some, if_pos r2, if_pos (rows_all u _ (tyOf_size hu)), e1.H]
    rfl
  rw [key] at hk
  split
  · refine newRows_ok e1.inv fun env' v s' h e2 => hk env' v s' h (e1.toExt.trans e2)
  · refine newRows_ok e1.inv fun env' v s' h e2 => hk env' v s' h (e1.toExt.trans e2)
  · rename_i b off len
    refine iff_ok fun ho => ?_
    have ho' : off = natE 0 := exBeq_eq ho
    subst ho'
    split
    · rename_i z w l hb
      refine iff_ok fun hc => guard_ok e1.inv fun s2 hg2 e2 => ?_
      obtain ⟨c1, c2⟩ := and_t hc
      obtain ⟨c2, c3⟩ := and_t c2
      have c1' := tyBeq_eq c1
      subst c1'
      rw [den_nle, den_nmul, den_nadd, den_lenN, decide_eq_true_eq] at hg2
      have base : ∀ hl : (len.den env .nat : Nat) ≤ (l.den env (.lst w)).length, appTo c e (embH env s1.H) (List.map (row w) (new.den env (.lst w))) ((SV.sl b (natE 0) len).emb env) =
          some (.sl s1.H.length 0 (((l.den env (.lst w)).take (len.den env .nat) ++ new.den env (.lst w)).length), (embH env s1.H).set b .dead ++ [.rows z true (List.map (row w) ((l.den env (.lst w)).take (len.den env .nat) ++ new.den env (.lst w)))]) := fun hl => by
        unfold appTo
        simp only [SV.emb]
        rw [if_pos (show ((natE 0).den env .nat : Nat) = 0 from rfl), embH_get, hb]
        simp only [Option.map_some, Option.bind_some, SB.emb]
        have hg2' : ((len.den env .nat : Nat) + (new.den env (.lst w)).length) * (c.ty e).bytes ≤ 35184372088832 := hg2
        have hl' : (len.den env .nat : Nat) ≤ (List.map (row w) (l.den env (.lst w))).length := by rw [List.length_map]; exact hl
        rw [List.length_map, if_pos ⟨c2, hg2', hl', Nat.le_of_ble_eq_true c3⟩]
        rw [← List.map_take, ← List.map_append, hd_map, embH_length]
      split
      · rename_i hw
        have hl : (len.den env .nat : Nat) = (l.den env (.lst w)).length := by rw [exBeq_eq hw, den_lenN]
        have h0 := base (Nat.le_of_eq hl)
        refine hk env _ _ ?_ ((e1.trans e2).toExt.setH _)
        rw [h0, e2.H]
        rw [hl, List.take_length]
        simp only [SV.emb, den_lenN, den_app, embH_app, embH_set]
        rw [show embH env [SB.rows z w (mk2 .app l new)] = [Blk.rows z true (List.map (row w) ((mk2 .app l new).den env (.lst w)))] from rfl, den_app]
        rfl
      · refine guard_ok e2.inv fun s3 hg3 e3 => ?_
        rw [den_nle, den_lenN, decide_eq_true_eq] at hg3
        have h0 := base hg3
        refine hk env _ _ ?_ (((e1.trans e2).trans e3).toExt.setH _)
        rw [h0, e3.H, e2.H]
        simp only [SV.emb, den_lenN, den_app, den_tk, embH_app, embH_set]
        rw [show embH env [SB.rows z w (mk2 .app (mk2 .tk len l) new)] = [Blk.rows z true (List.map (row w) ((mk2 .app (mk2 .tk len l) new).den env (.lst w)))] from rfl, den_app, den_tk]
        rfl
    · simp only [Ok]
  · simp only [Ok]
theorem copyT_ok {t : TypeId} {d x : SV} (hi : Inv m env s) (hk : Next m (copyAV c t (embH env s.H) (d.emb env) (x.emb env)) env s K Q) : Ok m (copyT c t d x s K) env Q := by
  unfold copyT
  split
  · rename_i b off len
    refine opt_ok fun e he => opt_ok fun u hu => opt_ok fun p hp => ?_
    obtain ⟨src, g⟩ := p
    refine guards_ok hi fun s1 hg e1 => ?_
    obtain ⟨r1, r2⟩ := rowsS_ok hp hg
    split
    · rename_i z w l hb
      refine iff_ok fun hc => guard_ok e1.inv fun s2 hg2 e2 => ?_
      obtain ⟨c1, c23⟩ := and_t hc
      obtain ⟨c2, c3⟩ := and_t c23
      have c1' := tyBeq_eq c1
      subst c1'
      have hlen : (off.den env .nat : Nat) + (len.den env .nat : Nat) ≤ (l.den env (.lst w)).length := by
        split at hg2
        · rename_i hw
          obtain ⟨w1, w2⟩ := isWhole_ok (env := env) hw
          rw [w1, w2]
          simp
        · rw [den_nle, den_nadd, den_lenN, decide_eq_true_eq] at hg2
          exact hg2
      refine hk env _ _ ?_ ((e1.trans e2).toExt.setH _)
      simp only [SV.emb]
      rw [s_copy, he, Option.bind_some, r1, Option.bind_some, ← e1.H, embH_get, hb]
      simp only [Option.map_some, Option.bind_some, SB.emb]
      rw [e1.H, if_pos r2, List.length_map, if_pos ⟨rows_all w _ c3, c2, hlen⟩]
      rw [← List.map_take, hd_map, ← List.map_take, ← List.map_drop, ← List.map_append, ← List.map_append, e2.H, e1.H]
      have hnew : (Ex.o2 .tk len src).den env (.lst w) = (src.den env (.lst w)).take (len.den env .nat) := rfl
      simp only [den_ofN, den_lenN, hnew, embH_set, SB.emb, den_app, den_tk, den_dr, den_nadd]
      rw [List.append_assoc]
    · simp only [Ok]
  · simp only [Ok]
theorem lenE_ok {i : TI} {H : SH} {x : SV} {e : Ex} (env : Env) (h : lenE c i H x = some e) : lenInt c i (embH env H) (x.emb env) = some (e.den env (.int .i64)) := by
  unfold lenE at h
  unfold lenInt
  cases hd : i.d <;> simp only [hd, reduceCtorEq] at h ⊢
  · cases x <;> simp only [reduceCtorEq, Option.some.injEq] at h
    subst h
    simp only [SV.emb, lenAV, den_ofN, den_slen]
  · split at h
    · rename_i he
      simp only [Option.some.injEq] at h
      subst h
      rw [he]
      rfl
    · cases h
  · cases x <;> simp only [reduceCtorEq, Option.some.injEq] at h
    · subst h
      simp only [SV.emb, lenAV, den_ofN, den_lenN, List.length_map]
    · subst h; rfl
    · subst h; rfl
    · subst h
      simp only [SV.emb, lenAV, den_ofN]
  · simp only [Option.some.injEq] at h
    subst h
    rfl
  · cases x <;> simp only [reduceCtorEq, Option.some.injEq] at h
    · subst h; rfl
    · split at h
      · rename_i hb
        simp only [Option.some.injEq] at h
        subst h
        simp only [SV.emb, lenAV, embH_get, hb, Option.map_some, SB.emb, den_ofN, den_lenN, List.length_map]
      · cases h
theorem builtinT_ok {b : Builtin} {argTypes : Array TypeId} {args : List SV} (hi : Inv m env s) (hk : Next m (builtinAV c b argTypes (embH env s.H) (SV.embL env args)) env s K Q) : Ok m (builtinT c b argTypes args s K) env Q := by
  unfold builtinT
  split
  · rename_i x
    refine iff_ok fun hb => opt_ok fun e he => hk.same (ExtH.refl hi) ?_
    show (match Nat.ble 1 argTypes.size with | true => lenOp c (c.ty (argTypes.getD 0 0)) (embH env s.H) (x.emb env) | false => none) = _
    rw [hb]
    show lenOp c (c.ty (argTypes.getD 0 0)) (embH env s.H) (x.emb env) = _
    rw [s_lenOp, lenE_ok env he]
    rfl
  · rename_i x
    refine iff_ok fun hb => opt_ok fun e he => ?_
    split
    · refine hk.same (ExtH.refl hi) ?_
      show (match Nat.ble 1 argTypes.size with | true => capOp (c.ty (argTypes.getD 0 0)) (embH env s.H) AV.nils | false => none) = _
      rw [hb]
      simp only [capOp, he]
      rfl
    · refine hk.same (ExtH.refl hi) ?_
      show (match Nat.ble 1 argTypes.size with | true => capOp (c.ty (argTypes.getD 0 0)) (embH env s.H) AV.emp | false => none) = _
      rw [hb]
      simp only [capOp, he]
      rfl
    · simp only [Ok]
  · rename_i a x
    refine iff_ok fun hb => appendT_ok hi ?_
    have : builtinAV c .append argTypes (embH env s.H) (SV.embL env [a, x]) = appendAV c (argTypes.getD 0 0) (argTypes.getD 1 0) (embH env s.H) (a.emb env) (x.emb env) := by
      show (match Nat.beq argTypes.size 2 with | true => appendAV c (argTypes.getD 0 0) (argTypes.getD 1 0) (embH env s.H) (a.emb env) (x.emb env) | false => none) = _
      rw [hb]
    rw [this] at hk
    exact hk
  · rename_i d x
    refine iff_ok fun hb => copyT_ok hi ?_
    have : builtinAV c .copy argTypes (embH env s.H) (SV.embL env [d, x]) = copyAV c (argTypes.getD 0 0) (embH env s.H) (d.emb env) (x.emb env) := by
      show (match Nat.beq argTypes.size 2 with | true => copyAV c (argTypes.getD 0 0) (embH env s.H) (d.emb env) (x.emb env) | false => none) = _
      rw [hb]
    rw [this] at hk
    exact hk
  · simp only [Ok]
theorem pickT_ok {p a b : SV} (hi : Inv m env s) (hk : Next m (okV (embH env s.H) (pickAV (p.emb env) (a.emb env) (b.emb env))) env s K Q) : Ok m (pickT p a b s K) env Q := by
  unfold pickT
  split
  · rename_i e
    refine branch_ok hi fun x s1 hx e1 => ?_
    simp only [SV.emb, hx] at hk
    cases x with
    | true => exact hk.same e1 rfl
    | false => exact hk.same e1 rfl
  · simp only [Ok]
theorem allocT_ok {t : TypeId} (hi : Inv m env s) (hk : Next m (allocAV c (c.ty t) (embH env s.H)) env s K Q) : Ok m (allocT c t s K) env Q := by
  unfold allocT
  refine iff_ok fun hb => opt_ok fun z hz => opt_ok fun p hp => ?_
  obtain ⟨cs, H⟩ := p
  refine hk env _ _ ?_ ((ExtH.refl hi).toExt.setH _)
  unfold allocAV
  rw [hb]
  simp only
  rw [← ofAVs_ok env hz, nestL_ok hp]
  simp only [newBlk, fSp_eq, embH_app, embH_length]
  rfl
theorem boxT_ok {t : TypeId} {v : SV} (hi : Inv m env s) (hk : Next m (boxAV c (c.ty t).zs (v.emb env) (embH env s.H)) env s K Q) : Ok m (boxT c t v s K) env Q := by
  unfold boxT
  refine iff_ok fun hb => opt_ok fun p hp => ?_
  obtain ⟨cs, H⟩ := p
  refine hk env _ _ ?_ ((ExtH.refl hi).toExt.setH _)
  unfold boxAV
  simp only [cells_emb, allCell_emb, hb, embL_length]
  rw [nestL_ok hp]
  simp only [newBlk, fSp_eq, embH_app, embH_length]
  rfl
theorem nilCheckE_ok {x v : SV} (env : Env) (h : nilCheckE x = some v) : nilCheckAV (x.emb env) = some (v.emb env) := by
  cases x <;> simp only [nilCheckE, Option.some.injEq, reduceCtorEq] at h <;> subst h <;> rfl
theorem isPureN_emb (env : Env) : ∀ (n : Nat) (v : SV), isPureN n (v.emb env) = isPureS n v
  | 0, v => rfl
  | n + 1, v => by
    cases v with
    | iface t v => exact isPureN_emb env n v
    | agg cs =>
      show (SV.embL env cs).all (isPureN n) = cs.all (isPureS n)
      rw [embL_map, List.all_map]
      congr 1
      funext v
      exact isPureN_emb env n v
    | fn f caps => cases caps <;> rfl
    | _ => rfl
theorem ifaceE_ok {t : TypeId} {i : TI} {x v : SV} (env : Env) (h : ifaceE t i x = some v) : ifaceAV t i (x.emb env) = some (v.emb env) := by
  unfold ifaceE at h
  unfold ifaceAV
  cases hd : i.d <;> simp only [hd, reduceCtorEq] at h ⊢ <;>
    (split at h <;> first
      | (rename_i hp
         simp only [Option.some.injEq] at h
         subst h
         rw [show isPure (x.emb env) = isPureS 8 x from isPureN_emb env 8 x, hp]
         rfl)
      | (cases h))
theorem makeFuncE_ok {fn : Fn} {first : Array Operand} {caps : List SV} {v : SV} (env : Env) (h : makeFuncE fn first caps = some v) : makeFuncAV fn first (SV.embL env caps) = some (v.emb env) := by
  unfold makeFuncE at h
  unfold makeFuncAV
  split at h
  · split at h
    · rename_i hb
      simp only [Option.some.injEq] at h
      subst h
      simp only [hb]
      rfl
    · cases h
  · cases h
theorem makeMapT_ok {i : TI} {r : Option SV} (hi : Inv m env s) (hk : Next m (makeMapAV i (embH env s.H) (r.map (SV.emb env))) env s K Q) : Ok m (makeMapT c i r s K) env Q := by
  unfold makeMapT
  split
  · rename_i kt e hd
    refine opt_ok fun tk htk => opt_ok fun tv htv => ?_
    split
    · refine hk env _ _ ?_ ((ExtH.refl hi).toExt.setH _)
      simp only [Option.map_none, makeMapAV, fSp_eq, embH_app, embH_length]
      rfl
    · refine hk env _ _ ?_ ((ExtH.refl hi).toExt.setH _)
      simp only [Option.map_some, SV.emb, makeMapAV, hd, fSp_eq, embH_app, embH_length]
      rfl
    · simp only [Ok]
  · simp only [Ok]
theorem makeSliceT_ok {i : TI} {l cp : SV} (hi : Inv m env s) (hk : Next m (makeSliceAV c i (l.emb env) (cp.emb env) (embH env s.H)) env s K Q) : Ok m (makeSliceT c i l cp s K) env Q := by
  unfold makeSliceT
  refine opt_ok fun e he => opt_ok fun t ht => opt_ok fun z hz => ?_
  split
  · rename_i n k
    refine iff_ok fun hb => guards_ok hi fun s1 hg e1 => ?_
    obtain ⟨b1, b2⟩ := and_t hb
    have g1 := hg (leE .i64 (.il 0) n) (by simp)
    have g2 := hg (match Ex.beq n k with | true => .bl true | false => eqE .i64 n k) (List.mem_cons_of_mem _ List.mem_cons_self)
    have g3 := hg (nleE (mk2 .nmul (mk1 (.toN .i64) n) (natE (c.ty e).bytes)) (natE 140737488355328)) (by simp)
    rw [den_leE, decide_eq_true_eq] at g1
    rw [den_nle, den_nmul, den_toN, decide_eq_true_eq] at g3
    have g2' : n.den env (.int .i64) = k.den env (.int .i64) := by
      split at g2
      · rename_i hx; rw [exBeq_eq hx]
      · rw [den_eqE, decide_eq_true_eq] at g2; exact g2
    refine hk env _ _ ?_ (e1.toExt.setH _)
    have g1' : (0 : Int) ≤ n.den env (.int .i64) := g1
    have g3' : (Int.toNat (n.den env (.int .i64))) * (c.ty e).bytes ≤ 140737488355328 := g3
    simp only [SV.emb]
    rw [s_makeSlice, he, Option.bind_some, if_pos g1', if_pos g2', if_pos g3', if_pos (Nat.le_of_ble_eq_true b1), if_pos b2, zeroE_ok env hz, embH_length, e1.H]
    have hx : (Ex.o2 .rep (mk1 (.toN .i64) n) z).den env (.lst t) = List.replicate (Int.toNat (n.den env (.int .i64))) (z.den env t) := by
      show List.replicate ((mk1 (.toN .i64) n).den env .nat) (z.den env t) = _
      rw [den_toN]
    simp only [den_lenN, hx, Ev.hd, tg, List.length_replicate, embH_app]
    simp only [embH, List.map_cons, List.map_nil, SB.emb, hx, List.map_replicate]
    rfl
  · simp only [Ok]

/-! ### Addresses -/
theorem fieldAddrE_ok {i : TI} {x v : SV} {f : Nat} (env : Env) (h : fieldAddrE c i x f = some v) : fieldAddrAV c i (x.emb env) f = some (v.emb env) := by
  unfold fieldAddrE at h
  unfold fieldAddrAV
  split at h
  · cases h
  · rename_i off u hf
    rw [hf]
    simp only
    split at h
    · cases h
    · rename_i hb
      rw [hb]
      simp only
      cases x <;> simp only [Option.some.injEq, reduceCtorEq] at h <;> subst h
      · rfl
      · simp only [SV.emb, fSp_eq, embL_drop]
theorem fieldE_ok {i : TI} {x v : SV} {f : Nat} (env : Env) (h : fieldE c i x f = some v) : fieldAV c i (x.emb env) f = some (v.emb env) := by
  unfold fieldE at h
  unfold fieldAV
  split at h
  · cases h
  · rename_i off u hf
    rw [hf]
    simp only
    cases x <;> simp only [reduceCtorEq] at h
    simp only [SV.emb, embL_drop, packS_emb, h]
    rfl
theorem elemAddrT_ok {e : TypeId} {k : IntKind} {n : Ex} {x : SV} (hi : Inv m env s) (hk : Next m (okV (embH env s.H) (elemAddr c e (embH env s.H) (n.den env (.int k)) (x.emb env))) env s K Q) : Ok m (elemAddrT c e k n x s K) env Q := by
  unfold elemAddrT
  split
  · rename_i t l
    refine iff_ok fun hb => getI_ok hi fun env' y s1 ha e1 hp hl hn => hk.same e1 ?_
    obtain ⟨g1, g2, g3, g4⟩ := at_some ha
    simp only [SV.emb, elemAddr, List.length_map, g3, List.getElem?_map, g4, Option.map_some, row_length, hb]
    rw [emb_cells]
    rfl
  · rename_i b off len
    refine iff_ok fun hb => ?_
    have hsz : isSize (embH env s.H) b (c.ty e).size = true := by rw [isSize_emb]; exact hb
    split
    · simp only [Ok]
    · rename_i t ht
      split
      · simp only [Ok]
      · rename_i l hl0
        split
        · rename_i hw
          refine getI_ok hi fun env' y s1 ha e1 hp hl hn => hk.same e1 ?_
          obtain ⟨w1, w2⟩ := isWhole_ok (env := env) hw
          obtain ⟨g1, g2, g3, g4⟩ := at_some ha
          simp only [SV.emb]
          rw [s_elemSl, w1, w2, g3, Option.bind_some, if_pos hsz, den_toN, hn, Nat.zero_add]
          rfl
        · refine guards_ok hi fun s1 hg e1 => hk.same e1 ?_
          have h1 := hg (leE k (.il 0) n) (by simp)
          have h2 := hg (ltE k n (mk1 .ofN len)) (by simp)
          rw [den_leE, decide_eq_true_eq] at h1
          rw [den_ltE, den_ofN, decide_eq_true_eq] at h2
          simp only [SV.emb]
          rw [s_elemSl, atIdx_of h1 h2, Option.bind_some, if_pos hsz, den_nadd, den_toN]
          rfl
  · simp only [Ok]
theorem idxLit_ok {mm : Nat} {n : Ex} {i : Nat} (h : idxLit mm n = some i) : n = .il (.ofNat i) ∧ i < mm := by
  unfold idxLit at h
  split at h
  · rename_i j hj
    split at h
    · rename_i hb
      simp only [Option.some.injEq] at h
      subst h
      unfold litInt at hj
      split at hj
      · simp only [Option.some.injEq] at hj
        subst hj
        refine ⟨rfl, ?_⟩
        simpa [Nat.blt_eq] using hb
      · cases hj
    · cases h
  · cases h
theorem arrAddrE_ok {mm : Nat} {e : TypeId} {k : IntKind} {n : Ex} {x v : SV} (env : Env) (h : arrAddrE c mm e n x = some v) : arrAddr c mm e (n.den env (.int k)) (x.emb env) = some (v.emb env) := by
  unfold arrAddrE at h
  unfold arrAddr
  split at h
  · rename_i i hi
    obtain ⟨rfl, h1⟩ := idxLit_ok hi
    have : atIdx ((Ex.il (.ofNat i)).den env (.int k)) mm = some i := atIdx_of (Int.natCast_nonneg i) (Int.ofNat_lt.mpr h1)
    rw [this]
    simp only
    cases x <;> simp only [Option.some.injEq, reduceCtorEq] at h <;> subst h
    · rfl
    · simp only [SV.emb, fSp_eq, embL_drop]
  · cases h
theorem indexAddrT_ok {i : TI} {x ix : SV} (hi : Inv m env s) (hk : Next m (okV (embH env s.H) (indexAddrAV c i (embH env s.H) (x.emb env) (ix.emb env))) env s K Q) : Ok m (indexAddrT c i x ix s K) env Q := by
  unfold indexAddrT
  split
  · rename_i k n
    simp only [SV.emb, indexAddrAV] at hk
    split
    · rename_i e he
      rw [he] at hk
      exact elemAddrT_ok hi hk
    · rename_i mm e he
      rw [he] at hk
      refine opt_ok fun v hv => hk.pure hi (arrAddrE_ok env hv)
    · simp only [Ok]
  · simp only [Ok]
theorem chunks_ok (env : Env) {t : Ty} : ∀ {mm : Nat} {cs : List SV} {l : List Ex}, chunks t mm cs = some l → l.length = mm ∧ ∀ i x, l[i]? = some x → ∃ r, (SV.embL env cs).drop (i * t.size) = row t (x.den env t) ++ r
  | 0, cs, l, h => by
    simp only [chunks, Option.some.injEq] at h
    subst h
    exact ⟨rfl, fun i x h => by simp at h⟩
  | mm + 1, cs, l, h => by
    simp only [chunks] at h
    split at h
    · cases h
    · rename_i x r hr
      split at h
      · rename_i l' hl'
        simp only [Option.some.injEq] at h
        subst h
        obtain ⟨h1, h2⟩ := chunks_ok env hl'
        refine ⟨by simp [h1], fun i y hy => ?_⟩
        have hcs := reify_ok env hr
        cases i with
        | zero =>
          simp only [List.getElem?_cons_zero, Option.some.injEq] at hy
          subst hy
          exact ⟨_, by rw [Nat.zero_mul, List.drop_zero, hcs]⟩
        | succ i =>
          simp only [List.getElem?_cons_succ] at hy
          obtain ⟨r2, hr2⟩ := h2 i y hy
          refine ⟨r2, ?_⟩
          rw [hcs, ← hr2]
          have : (i + 1) * t.size = (row t (x.den env t)).length + i * t.size := by rw [row_length, Nat.succ_mul, Nat.add_comm]
          rw [this, List.drop_append]
          simp
      · cases h
theorem pack_row {t : Ty} {e : TypeId} (ht : tyOf c e = some t) (hk : (c.ty e).known = true) (ha : indexT.eqB (c.ty e).isAgg (isAggT t) = true) (x : t.D) (r : List AV) : pack (c.ty e) (row t x ++ r) = some (valT t x) := by
  have hsz := natBeq (tyOf_size ht)
  unfold pack
  rw [hk]
  simp only
  cases hg : (c.ty e).isAgg with
  | true =>
    have : isAggT t = true := by
      rw [hg] at ha
      cases h : isAggT t with
      | true => rfl
      | false => rw [h] at ha; cases ha
    simp only
    have hb : Nat.ble (c.ty e).size (row t x ++ r).length = true := Nat.ble_eq_true_of_le (by rw [List.length_append, row_length]; omega)
    rw [hb, valT_agg this]
    simp only
    rw [← hsz, List.take_append_of_le_length (by rw [row_length]; omega), List.take_of_length_le (by rw [row_length]; omega)]
  | false =>
    have : isAggT t = false := by
      rw [hg] at ha
      cases h : isAggT t with
      | false => rfl
      | true => rw [h] at ha; cases ha
    simp only
    rw [← valT_cell this]
    rfl
theorem indexT_ok {i : TI} {x ix : SV} (hi : Inv m env s) (hk : Next m (okV (embH env s.H) (indexAV c i (x.emb env) (ix.emb env))) env s K Q) : Ok m (indexT c i x ix s K) env Q := by
  unfold indexT
  split
  · rename_i k n
    simp only [SV.emb, indexAV] at hk
    split
    · rename_i mm e cs he
      rw [he] at hk
      simp only [SV.emb] at hk
      split
      · rename_i j hj
        obtain ⟨rfl, h1⟩ := idxLit_ok hj
        refine opt_ok fun v hv => hk.pure hi ?_
        have : atIdx ((Ex.il (.ofNat j)).den env (.int k)) mm = some j := atIdx_of (Int.natCast_nonneg j) (Int.ofNat_lt.mpr h1)
        rw [s_indexArr, this, Option.bind_some, embL_drop, packS_emb, hv]
        rfl
      · refine opt_ok fun t ht => opt_ok fun l hl => iff_ok fun hb => ?_
        obtain ⟨b1, b2⟩ := and_t hb
        refine getI_ok hi fun env' y s1 ha e1 hp hl' hn => hk.same e1 ?_
        obtain ⟨g1, g2, g3, g4⟩ := at_some ha
        obtain ⟨c1, c2⟩ := chunks_ok env hl
        rw [den_listE] at g3 g4
        rw [List.length_map, c1] at g3
        rw [List.getElem?_map] at g4
        cases hx : l[(n.den env (.int k)).toNat]? with
        | none => rw [hx] at g4; simp at g4
        | some x0 =>
          rw [hx, Option.map_some, Option.some.injEq] at g4
          obtain ⟨r, hr⟩ := c2 _ _ hx
          rw [s_indexArr, g3, Option.bind_some, ← natBeq (tyOf_size ht), hr, pack_row ht b1 b2, emb_sval, g4]
          rfl
    · rename_i e he
      rw [he] at hk
      simp only [SV.emb] at hk
      refine getI_ok hi fun env' y s1 ha e1 hp hl' hn => hk.same e1 ?_
      obtain ⟨g1, g2, g3, g4⟩ := at_some ha
      have hbytes : (Ex.o1 .bytes e).den env (.lst (.int .u8)) = (e.den env .str).map fun b => (b.toNat : Int) := rfl
      rw [hbytes] at g3 g4
      rw [List.length_map] at g3
      rw [List.getElem?_map] at g4
      cases hx : (e.den env .str)[(n.den env (.int k)).toNat]? with
      | none => rw [hx] at g4; simp at g4
      | some x0 =>
        rw [hx, Option.map_some, Option.some.injEq] at g4
        have : indexStr (e.den env .str) (n.den env (.int k)) = some (.int .u8 x0.toNat) := by
          unfold indexStr
          rw [g3]
          simp only [hx]
        rw [this]
        show some (AV.int .u8 (x0.toNat : Int), embH env s.H) = _
        rw [g4]
        rfl
    · simp only [Ok]
  · simp only [Ok]
theorem extractE_ok {i : Nat} {x v : SV} (env : Env) (h : extractE i x = some v) : extractAV i (x.emb env) = some (v.emb env) := by
  cases x <;> simp only [extractE, reduceCtorEq] at h
  simp only [SV.emb, extractAV, embL_map, List.getElem?_map, h, Option.map_some]
end
end Go.Sy
