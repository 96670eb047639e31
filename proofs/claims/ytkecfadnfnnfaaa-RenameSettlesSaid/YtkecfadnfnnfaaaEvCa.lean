/- The soundness of calls. -/
import Derived.Test.YtkecfadnfnnfaaaEvY
set_option linter.unusedVariables false
set_option linter.unusedSimpArgs false
namespace Go.Ev
open Go.RowKit

/-- What a call on blocks does. -/
def FCall (P : Program) (f : FuncId) (cvs : Array Value) (v : AV) (H' : Heap) (I : Imm) (ρ : Ren) (H : Heap) (w : World) : Prop :=
  Calls P f cvs w fun e w' => ∃ cv I' ρ', e = .returned cv ∧ Ext H.length I ρ H w I' ρ' H' w' ∧ Sim I' ρ' H' w' ∧ VRel I' ρ' v cv ∧ H.length ≤ H'.length

section
variable {P : Program} {c : Ctx} {I J : Imm} {ρ : Ren} {H : Heap} {w : World}

theorem frozen_args (hs : Sim I ρ H w) {args fs : List AV} {cvs : Array Value} (hm : mapM' (freezeN H 12) args = some fs) (ha : VRels I ρ args cvs) (hI : I.le J) (hJ : ∀ b ∈ args.flatMap (frozenIn 12), Holds J w H ρ b) : VRels J ρ0 fs cvs := by
  obtain ⟨h1, h2⟩ := mapM'_spec _ _ _ hm
  refine ⟨by rw [h1, ha.len], fun j x u hx hu => ?_⟩
  have hj : j < args.length := by have := (List.getElem?_eq_some_iff.1 hx).1; omega
  have hg := List.getElem?_eq_getElem hj
  obtain ⟨b, hb1, hb2⟩ := h2 j _ hg
  rw [hx] at hb1
  simp at hb1
  subst hb1
  exact freezeN_rel hs hI 12 _ _ u hb2 (ha.at_ j _ u hg hu) (fun b hb => hJ b (List.mem_flatMap.2 ⟨_, List.mem_of_getElem? hg, hb⟩))

/-- A call with frozen arguments, as the caller sees it. -/
theorem pcall_fcall (hs : Sim I ρ H w) {f : FuncId} {args fs : List AV} {cvs : Array Value} {v : AV} {H' : Heap} (hm : mapM' (freezeN H 12) args = some fs) (ha : VRels I ρ args cvs)
    (hp : ∀ J, Agrees J w → VRels J ρ0 fs cvs → PCall P f cvs v J w)
    (h : (flatN 8 v = true ∧ H' = H) ∨ shutAll (args.flatMap (frozenIn 12)) H = some H') : FCall P f cvs v H' I ρ H w := by
  have hle : I.le (I.add w (liveOf H ρ (args.flatMap (frozenIn 12)))) := Imm.add_le hs.imm _
  have hholds := add_holds (I := I) (w := w) H ρ (args.flatMap (frozenIn 12))
  have hcall := hp _ (Imm.add_agrees hs.imm _) (frozen_args hs hm ha hle hholds)
  refine Calls.mono hcall fun e w' he => ?_
  obtain ⟨cv, I', rfl, h1, h2, h3, h4, h5, _⟩ := he
  rcases h with ⟨hf, rfl⟩ | hsh
  · obtain ⟨s1, e1⟩ := hs.frozen (l := []) (H' := H') (w' := w') (J := I) rfl (Imm.le_refl I) (hs.imm.keep fun b o v hv => h5.block b (cell_lt (hs.imm.at_ _ _ _ hv))) h5 (fun b hb => by simp at hb) (fun _ _ _ hv => .inl hv)
    exact ⟨cv, I, ρ, rfl, e1, s1, flat_rel 8 v cv hf h4, Nat.le_refl _⟩
  · obtain ⟨s1, e1⟩ := hs.frozen (w' := w') (J := I') hsh (Imm.le_trans hle h1) h3 h5 (fun b hb z es x hk hx q o u hu => h1 _ _ _ (hholds b hb z es x hk hx q o u hu)) (fun b o v hv => by
      rcases h2 b o v hv with h | h
      · exact add_new H ρ _ b o v h
      · exact .inr (.inr h))
    exact ⟨cv, I', ρ, rfl, e1, s1, h4.any, by have := (shutAll_spec _ _ _ hsh).1; omega⟩

/-- What is asked of `rec` of calls. -/
structure GoodCalls (P : Program) (rec : Task → Option Res) : Prop where
  pfn : ∀ f args v H', rec (.pfn f args) = some (.val v H') → ∀ (I : Imm) (w : World) (cvs : Array Value), Agrees I w → VRels I ρ0 args cvs → Enters P f ∧ PCall P f cvs v I w
  fn : ∀ f args H v H', rec (.fn f args H) = some (.val v H') → ∀ (I : Imm) (ρ : Ren) (w : World) (cvs : Array Value), Sim I ρ H w → VRels I ρ args cvs → Enters P f ∧ FCall P f cvs v H' I ρ H w

theorem callRaw_ok {rec : Task → Option Res} (hg : GoodCalls P rec) (hs : Sim I ρ H w) {f : FuncId} {args : List AV} {cvs : Array Value} {v : AV} {H' : Heap} (ha : VRels I ρ args cvs) (h : callRaw rec f args H = some (v, H')) :
    Enters P f ∧ FCall P f cvs v H' I ρ H w := by
  unfold callRaw at h
  have hlt : ∀ v ∈ args, ∀ b ∈ refs v, b < H.length := fun v hv b hb => by
    obtain ⟨j, hj⟩ := List.mem_iff_getElem?.1 hv
    have hjl : j < cvs.size := by have := (List.getElem?_eq_some_iff.1 hj).1; have := ha.len; omega
    exact ref_lt_N hs 8 v _ (ha.at_ j v _ hj (Array.getElem?_eq_getElem hjl)) b hb
  obtain ⟨seen, hk, hmet, hin⟩ := reach_lt hs h (Nat.zero_le _) hlt
  simp only [fVs_eq, renBlks_eq] at hk
  split at hk
  case h_2 => cases hk
  rename_i v0 H'' hrec
  simp only [fLen, fNat_eq, hV_eq, backBlks_eq, newBlks_eq, fSp_eq, Option.some.injEq, Prod.mk.injEq] at hk
  obtain ⟨rfl, rfl⟩ := hk
  obtain ⟨sm, em⟩ := hs.met hmet hin
  have hargs : VRels I (ρ.by seen) (args.map (ren fun b => indexIn b seen 0)) cvs := by
    refine ⟨by simp [ha.len], fun j x u hx hu => ?_⟩
    rw [List.getElem?_map] at hx
    cases hj : args[j]? with
    | none => simp [hj] at hx
    | some y =>
      simp [hj] at hx
      subst hx
      exact ren_rel (ha.at_ j y u hj hu) (fun b hb x hx => by
        rw [Ren.by_at (hmet.val y (List.mem_of_getElem? hj) b hb)]; exact hx)
  obtain ⟨hen, hcall⟩ := hg.fn _ _ _ _ _ hrec I (ρ.by seen) w cvs sm hargs
  refine ⟨hen, Calls.mono hcall fun e w' he => ?_⟩
  obtain ⟨cv, I', ρ', rfl, h1, h2, h3, h4⟩ := he
  rw [List.length_map] at h1 h4
  obtain ⟨c1, c2, c3⟩ := hs.called hmet hin h2 h1 h4
  exact ⟨cv, I', _, rfl, c2, c1, ren_rel h3 (fun b _ x hx => c3 b x hx), by simp [laid_length]⟩

theorem callAV_ok (hc : CtxOk P c) {rec : Task → Option Res} (hg : GoodCalls P rec) (hs : Sim I ρ H w) {f : FuncId} {args : List AV} {cvs : Array Value} {v : AV} {H' : Heap} (ha : VRels I ρ args cvs) (h : callAV c rec f args H = some (v, H')) :
    Enters P f ∧ FCall P f cvs v H' I ρ H w := by
  unfold callAV at h
  have hp := hc.prim f
  split at h
  · rename_i e he
    rw [he] at hp
    exact ⟨hp.1, hp.2 I ρ H w args cvs v H' hs ha h⟩
  · rename_i p he
    rw [he] at hp
    refine ⟨hp.1, ?_⟩
    unfold primPure at h
    split at h
    · cases h
    · rename_i fs hm
      split at h
      · cases h
      · rename_i v' hv
        split at h
        · rename_i hfl
          simp at h
          obtain ⟨rfl, rfl⟩ := h
          exact pcall_fcall hs hm ha (fun J hJ hfs => hp.2 J w fs cvs _ hJ hfs hv) (.inl ⟨hfl, rfl⟩)
        · split at h
          · rename_i H1 hsh
            simp at h
            obtain ⟨rfl, rfl⟩ := h
            exact pcall_fcall hs hm ha (fun J hJ hfs => hp.2 J w fs cvs _ hJ hfs hv) (.inr hsh)
          · cases h
  · split at h
    · exact callRaw_ok hg hs ha h
    · unfold callPure at h
      split at h
      · cases h
      · rename_i fs hm
        split at h
        case h_2 => cases h
        rename_i v' H2 hrec
        have hen : Enters P f := (hg.pfn _ _ _ _ hrec _ w cvs (Imm.add_agrees hs.imm _) (frozen_args hs hm ha (Imm.add_le hs.imm _) (add_holds (I := I) (w := w) H ρ (args.flatMap (frozenIn 12))))).1
        split at h
        · rename_i hfl
          simp at h
          obtain ⟨rfl, rfl⟩ := h
          exact ⟨hen, pcall_fcall hs hm ha (fun J hJ hfs => (hg.pfn _ _ _ _ hrec J w cvs hJ hfs).2) (.inl ⟨hfl, rfl⟩)⟩
        · split at h
          · rename_i H1 hsh
            simp at h
            obtain ⟨rfl, rfl⟩ := h
            exact ⟨hen, pcall_fcall hs hm ha (fun J hJ hfs => (hg.pfn _ _ _ _ hrec J w cvs hJ hfs).2) (.inr hsh)⟩
          · cases h

/-- The operation, as the walk meets it. -/
theorem evOp_wp (hc : CtxOk P c) {rec : Task → Option Res} (hg : GoodCalls P rec) (hs : Sim I ρ H w) {fr : Fr} {a : Act} {n : Nat} (hf : FrRel I ρ fr a.tmps n) {o : Oper} {v : AV} {H' : Heap} (h : evOp c rec o fr H = some (v, H'))
    {K : Act → World → Prop} {Q : Exit → Act → World → Prop}
    (hK : ∀ cv w' I' ρ', Ext H.length I ρ H w I' ρ' H' w' → Sim I' ρ' H' w' → VRel I' ρ' v cv → H.length ≤ H'.length → K (a.put o.dst cv) w') : o.wp P a w K Q := by
  by_cases hcall : ∀ cl, o.op = .call cl → ∃ b, cl.callee = .builtin b
  · obtain ⟨cv, w', I', ρ', h1, h2, h3, h4, h5⟩ := evOp_did hc.toTysOk rec hs hf h hcall
    unfold Oper.wp
    rcases h1 with h1 | ⟨h1, rfl⟩
    · rw [h1]; exact hK cv w' I' ρ' h2 h3 h4 h5
    · rw [h1]; exact hK _ w' I' ρ' h2 h3 h4 h5
  · have hex : ∃ cl, o.op = .call cl ∧ ∀ b, cl.callee ≠ .builtin b := by
      apply Classical.byContradiction
      intro hn
      apply hcall
      intro cl hcl
      apply Classical.byContradiction
      intro hb
      exact hn ⟨cl, hcl, fun b hbb => hb ⟨b, hbb⟩⟩
    obtain ⟨cl, hop, hnb⟩ := hex
    unfold evOp at h
    simp only [hop] at h
    unfold callsOp at h
    cases hcal : cl.callee with
    | builtin b => exact absurd hcal (hnb b)
    | invoke => simp [hcal] at h
    | value fo =>
      simp only [hcal] at h
      unfold callOp at h
      have hfo := opv_rel hf fo
      split at h
      case h_2 => cases h
      rename_i g caps heq
      rw [heq] at hfo
      have hargs := VRels.of_map hf cl.args
      generalize hfv : a.eval fo = fv at hfo
      cases hfo with
      | fn _ _ _ vs hl hv =>
        obtain ⟨⟨F, e1, e2, e3⟩, hcalls⟩ := callAV_ok hc hg hs (hargs.append ⟨hl, hv⟩) h
        have hrun : (execOp a.eval o).run P w = .ok (.enter g (cl.args.map a.eval ++ vs)) w := by
          unfold execOp
          simp only [hop]
          unfold resolve
          simp only [hcal, hfv, Deferred.ofValue, Sem.run_bind, Sem.run_pure, Result.andThen_ok, invoke, callFunc, run_program, e1, Array.empty_append]
          have e2' : (F.name == "runtime.NumGoroutine") = false := by simpa using e2
          have e3' : F.body.isNone = false := by cases hb : F.body <;> simp_all
          simp [e2', e3']
        unfold Oper.wp
        rw [hrun]
        show Calls P g _ w _
        refine Calls.mono hcalls fun e w' he => ?_
        obtain ⟨cv, I', ρ', rfl, h1, h2, h3, h4⟩ := he
        exact hK cv w' I' ρ' h1 h2 h3 h4
end
end Go.Ev
