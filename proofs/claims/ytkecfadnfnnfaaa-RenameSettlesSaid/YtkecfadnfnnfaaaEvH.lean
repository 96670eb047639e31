/- The evaluator is sound. -/
import Derived.Test.YtkecfadnfnnfaaaEvG
import Derived.Test.YtkecfadnfnnfaaaEvMv
set_option linter.unusedVariables false
set_option linter.unusedSimpArgs false
namespace Go.Ev
open Go.RowKit

section
variable {P : Program} {c : Ctx} {rec : Task → Option Res} {I : Imm} {ρ : Ren} {H : Heap} {w : World}

theorem argFr_get : ∀ (l : List AV) (k t : Nat), (argFr k l).get t = if k ≤ t then (l[t - k]?).getD .undef else .undef
  | [], k, t => by simp [argFr, Fr.get_nil]
  | v :: l, k, t => by
    simp only [argFr]
    rw [Fr.get_cons, argFr_get l]
    cases h : Nat.beq k t with
    | true =>
      have := Nat.eq_of_beq_eq_true h
      subst this
      simp [ifB]
    | false =>
      have hne : k ≠ t := fun e => by subst e; simp [Nat.beq_refl] at h
      simp only [ifB]
      by_cases hk : k + 1 ≤ t
      · rw [if_pos hk, if_pos (by omega), show t - k = (t - (k + 1)) + 1 by omega]
        simp
      · rw [if_neg hk, if_neg (by omega)]
theorem argFr_keys : ∀ (l : List AV) (k : Nat), ∀ p ∈ argFr k l, k ≤ p.1
  | [], k, p, h => by simp [argFr] at h
  | v :: l, k, p, h => by
    simp only [argFr, List.mem_cons] at h
    rcases h with rfl | h
    · exact Nat.le_refl _
    · have := argFr_keys l (k + 1) p h; omega
theorem argFr_srt : ∀ (l : List AV) (k : Nat), Srt (argFr k l)
  | [], k => List.Pairwise.nil
  | v :: l, k => by
    simp only [argFr]
    exact List.pairwise_cons.2 ⟨fun p hp => by have := argFr_keys l (k + 1) p hp; simp only; omega, argFr_srt l (k + 1)⟩
theorem args_frel {args : List AV} {cvs : Array Value} {n : Nat} (ha : VRels I ρ args cvs) (hn : args.length ≤ n) : FrRel I ρ (argFr 0 args) (cvs ++ Array.replicate (n - cvs.size) undef) n := by
  refine FrRel.of_get (by simp; have := ha.len; omega) (argFr_srt _ _) fun t => ?_
  rw [argFr_get, if_pos (Nat.zero_le _), Nat.sub_zero]
  cases hx : args[t]? with
  | none => exact .undef _ _
  | some x =>
    have ht : t < cvs.size := by have := (List.getElem?_eq_some_iff.1 hx).1; have := ha.len; omega
    rw [Array.getD_eq_getD_getElem?, Array.getElem?_append_left ht, Array.getElem?_eq_getElem ht]
    exact ha.at_ t x _ hx (Array.getElem?_eq_getElem ht)

theorem sim0 (h : Agrees I w) : Sim I ρ0 [] w :=
  ⟨h, fun b hb => by simp at hb, fun b x hx => by simp [ρ0] at hx, fun b k c z n hb => by simp at hb, fun b b' k k' x x' hb => by simp at hb, fun b k x hb => by simp at hb⟩
theorem not_live0 {c : Nat} : ¬ LiveIm ρ0 [] c := fun ⟨b, k, x, hb, _⟩ => by simp at hb

theorem freezeR_rel (hs : Sim I ρ H w) {v x : AV} {cv : Value} (h : freezeR H v = some x) (hv : VRel I ρ v cv) : ∃ l : List Nat, VRel (I.add w (liveOf H ρ l)) ρ0 x cv := by
  have hle : ∀ l, I.le (I.add w (liveOf H ρ l)) := fun l => Imm.add_le hs.imm _
  have gen : ∀ v : AV, freeze H v = some x → VRel I ρ v cv → ∃ l : List Nat, VRel (I.add w (liveOf H ρ l)) ρ0 x cv := fun v h hv =>
    ⟨frozenIn 12 v, freezeN_rel hs (hle _) 12 v x cv h hv (add_holds (I := I) (w := w) H ρ _)⟩
  cases v with
  | tup vs =>
    simp only [freezeR] at h
    split at h
    · rename_i xs hm
      simp at h
      subst h
      cases hv with
      | tup _ _ cvs hl hvs =>
        refine ⟨vs.flatMap (frozenIn 12), ?_⟩
        have := frozen_args (cvs := cvs) hs hm ⟨hl, hvs⟩ (hle _) (add_holds (I := I) (w := w) H ρ (vs.flatMap (frozenIn 12)))
        exact .tup _ _ _ this.len this.at_
    · cases h
  | _ => exact gen _ h hv

theorem ends {e : Ex} {st : St} (h : e ≠ .exit 0 ∨ True) : True := trivial

theorem stepTask_good (hc : CtxOk P c) (hg : Good P c rec) : Good P c (stepTask c rec) where
  pfn := by
    intro f args v H' h I w cvs hI ha
    simp only [stepTask] at h
    cases hF : c.fn f with
    | none => simp [hF] at h
    | some F =>
      simp only [hF] at h
      obtain ⟨hPf, hname⟩ := hc.fn f F hF
      cases hb : F.body with
      | none => simp [hb] at h
      | some b =>
        simp only [hb] at h
        have hok := hc.code f F b hF hb
        refine ⟨⟨F, hPf, hname, by rw [hb]; rfl⟩, ?_⟩
        split at h
        · cases h
        rename_i hn
        have hn := Nat.le_of_ble_eq_true hn
        simp only [fSp_eq] at h
        cases hev : evCode c rec f 0 F.ntmps 0 b { fr := argFr 0 args, H := [] } with
        | none => simp [hev] at h
        | some r =>
          obtain ⟨e, st⟩ := r
          have hne : ∀ k, e ≠ .exit k := fun k he => by subst he; simp [hev] at h
          have h' : (match resultsAV c F st with | none => none | some v => match freezeR st.H v with | none => none | some v => some (Res.val v [])) = some (Res.val v H') := by
            rw [hev] at h
            cases e with
            | norm => exact h
            | ret => exact h
            | exit k => exact absurd rfl (hne k)
          clear h
          split at h'
          · cases h'
          rename_i v0 hres
          split at h'
          · cases h'
          rename_i v1 hfz
          simp only [Option.some.injEq, Res.val.injEq] at h'
          obtain ⟨rfl, rfl⟩ := h'
          refine calls_of_wp hPf hb (wp_mono (evCode_wp hc hg hF b 0 _ e st hev hok I ρ0 w { tmps := cvs ++ Array.replicate (F.ntmps - cvs.size) undef, defers := [] } (sim0 hI) (args_frel ha hn) (Nat.zero_le _) rfl) (fun x a' w' hp => ?_))
          obtain ⟨rfl, d1, I', ρ', e1, s1, f1, _⟩ := hp
          obtain ⟨cv, hrun, hrel⟩ := results_run hc.toTysOk hres s1 f1
          obtain ⟨l, hfin⟩ := freezeR_rel s1 hfz hrel
          have hpost : bodyPost P F (fun r w' => ∃ cv I', r = .returned cv ∧ I.le I' ∧ (∀ c o u, I' c o = some u → I c o = some u ∨ w.heap.size ≤ c) ∧ Agrees I' w' ∧ VRel I' ρ0 v1 cv ∧
              Below w.heap.size w w' ∧ w'.os = w.os ∧ w'.tape = w.tape ∧ w'.output = w.output) .normal a' w' := by
            refine ⟨d1, cv, hrun, cv, I'.add w' (liveOf st.H ρ' l), rfl, Imm.le_trans e1.imm (Imm.add_le s1.imm _), fun q o u hq => ?_, Imm.add_agrees s1.imm _, hfin, ⟨e1.os, e1.tape, e1.output, e1.size, fun k hk => e1.kept k hk not_live0⟩, e1.os, e1.tape, e1.output⟩
            have hsz := e1.size
            rcases add_new st.H ρ' l q o u hq with h1 | ⟨b, _, k, x, hk, hl, hx, hxe⟩ | h1
            · rcases e1.immNew q o u h1 with h2 | h2 | h2
              · exact .inl h2
              · exact absurd h2 not_live0
              · exact .inr h2
            · rcases e1.newL q ⟨b, k, x, hk, hl, hx, hxe⟩ with h2 | h2
              · exact absurd h2 not_live0
              · exact .inr h2
            · exact .inr (by omega)
          cases e with
          | norm => exact hpost
          | ret => exact hpost
          | exit k => exact absurd rfl (hne k)
  fn := by
    intro f args H v H' h I ρ w cvs hs ha
    simp only [stepTask] at h
    cases hF : c.fn f with
    | none => simp [hF] at h
    | some F =>
      simp only [hF] at h
      obtain ⟨hPf, hname⟩ := hc.fn f F hF
      cases hb : F.body with
      | none => simp [hb] at h
      | some b =>
        simp only [hb] at h
        have hok := hc.code f F b hF hb
        refine ⟨⟨F, hPf, hname, by rw [hb]; rfl⟩, ?_⟩
        split at h
        · cases h
        rename_i hn
        have hn := Nat.le_of_ble_eq_true hn
        simp only [fSp_eq, fLen, fNat_eq] at h
        obtain ⟨H1, ρ1, hmv, s0, e0, a0, l0⟩ := mv_rel (β := Option Res) hs ha c f
        rw [hmv] at h
        cases hev : evCode c rec f H.length F.ntmps 0 b { fr := argFr 0 args, H := H1 } with
        | none => simp [hev] at h
        | some r =>
          obtain ⟨e, st⟩ := r
          have hne : ∀ k, e ≠ .exit k := fun k he => by subst he; simp [hev] at h
          have h' : (match resultsAV c F st with | none => none | some v => ({ fr := [(0, v)], H := st.H } : St).canon H.length fun st1 => hV (st1.fr.get 0) fun v => some (Res.val v st1.H)) = some (Res.val v H') := by
            rw [hev] at h
            cases e with
            | norm => exact h
            | ret => exact h
            | exit k => exact absurd rfl (hne k)
          clear h
          split at h'
          · cases h'
          rename_i v0 hres
          refine calls_of_wp hPf hb (wp_mono (evCode_wp hc hg hF b 0 _ e st hev hok I ρ1 w { tmps := cvs ++ Array.replicate (F.ntmps - cvs.size) undef, defers := [] } s0 (args_frel a0 hn) l0 rfl) (fun x a' w' hp => ?_))
          obtain ⟨rfl, d1, I', ρ', e1, s1, f1, m1⟩ := hp
          obtain ⟨cv, hrun, hrel⟩ := results_run hc.toTysOk hres s1 f1
          obtain ⟨st1, ρ2, k1, k2, k3, k4, k5, k6⟩ := canon_rel (m := H.length) (st := { fr := [(0, v0)], H := st.H }) (g := fun t => if t = 0 then cv else undef) s1 h' m1 (fun t => by
            rw [Fr.get_cons]
            cases ht : Nat.beq 0 t with
            | true =>
              have := Nat.eq_of_beq_eq_true ht
              subst this
              simpa [ifB] using hrel
            | false => simp only [ifB]; rw [Fr.get_nil]; exact .undef _ _) (fun p hp => by simp at hp; subst hp; exact ⟨cv, hrel⟩)
          rw [hV_eq] at k1
          simp only [Option.some.injEq, Res.val.injEq] at k1
          obtain ⟨rfl, rfl⟩ := k1
          have hpost : bodyPost P F (fun r w' => ∃ cv I' ρ', r = .returned cv ∧ Ext H.length I ρ H w I' ρ' st1.H w' ∧ Sim I' ρ' st1.H w' ∧ VRel I' ρ' (st1.fr.get 0) cv ∧ H.length ≤ st1.H.length) .normal a' w' :=
            ⟨d1, cv, hrun, cv, I', ρ2, rfl, (e0.trans e1 (Nat.le_refl _)).trans k5 (Nat.le_refl _), k2, by simpa using k3 0, k6⟩
          cases e with
          | norm => exact hpost
          | ret => exact hpost
          | exit k => exact absurd rfl (hne k)
  loop := by
    intro f id m b st e st' h hok F hF I ρ w a hs hf hm hd
    simp only [stepTask, hF] at h
    cases hev : evCode c rec f m F.ntmps id b st with
    | none => simp [hev] at h
    | some r =>
      obtain ⟨e1, st1⟩ := r
      refine Loops.round (wp_mono (evCode_wp hc hg hF b id st e1 st1 hev hok I ρ w a hs hf hm hd) (fun ex a' w' hp => ?_))
      rw [hev] at h
      obtain ⟨rfl, hrest⟩ := hp
      cases e1 with
      | norm =>
        obtain ⟨d2, I2, ρ2, x2, s2, f2, m2⟩ := hrest
        obtain ⟨st2, hto, h⟩ := norm_to h
        obtain ⟨I3, ρ3, x3, s3, f3, m3⟩ := hto F.ntmps I2 ρ2 w' a'.tmps s2 f2 m2
        have hl := hg.loop _ _ _ _ _ _ _ h hok F hF I3 ρ3 w' a' s3 f3 m3 d2
        intro fr k cs
        obtain ⟨ex, a3, w3, hq, harr⟩ := hl fr k cs
        exact ⟨ex, a3, w3, (hq.trans x3).trans x2, harr⟩
      | exit k =>
        simp at h
        obtain ⟨rfl, rfl⟩ := h
        exact ⟨rfl, hrest⟩
      | ret =>
        simp at h
        obtain ⟨rfl, rfl⟩ := h
        exact ⟨rfl, hrest⟩

theorem run_good (hc : CtxOk P c) : ∀ k, Good P c (run c k)
  | 0 => ⟨⟨fun _ _ _ _ h => by simp [run] at h, fun _ _ _ _ _ h => by simp [run] at h⟩, fun _ _ _ _ _ _ _ h => by simp [run] at h⟩
  | k + 1 => stepTask_good hc (run_good hc k)
end
end Go.Ev
