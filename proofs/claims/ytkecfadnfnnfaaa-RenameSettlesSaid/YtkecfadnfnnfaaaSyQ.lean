/- Symbolic runs: what a family's tree says is true of its function or loop, whole. -/
import Derived.Test.YtkecfadnfnnfaaaSyP
set_option linter.unusedVariables false
set_option linter.unusedSimpArgs false
noncomputable section
namespace Go.Sy
open Go Go.Ev

section
variable {c : Ctx} {rec : Task → Option Res} {tb : Tab} {m : (f : Nat) → Pr (tb.P f) → Option (Sm (tb.O f))}
theorem Means.two {q : Fam} (hq : q.kind = 2) {e0 : Env} {ex : Go.Ev.Ex} {fr : Fr} {H : Heap} : Means c rec q e0 ex fr H ↔ ∀ F b lb, c.fn q.f = some F → F.body = some b → lookL (loopsOf b 0) q.id = some lb → rec (.loop q.f q.id q.m lb ⟨embF e0 q.fr, embH e0 q.H⟩) = some (.code ex ⟨fr, H⟩) := by
  unfold Means
  rw [hq]
  exact Iff.rfl
/-- The round after this one. -/
theorem againT_ok (hs : Sound c rec tb m) {i : Nat} {F : Func} {bF lb : Code} (hF : c.fn (tb.fam i).f = some F) (hb : F.body = some bF) (hlb : lookL (loopsOf bF 0) (tb.fam i).id = some lb)
    {env1 : Env} {s : SS} {x : Pr (tb.P i)} (hi : Inv m env1 s) (hag : Agree (tb.P i).length (env0 (tb.P i) x) env1) (hnx : (tb.P i).length ≤ s.nx) {z : Sm (tb.O i)}
    (hz : (againT c tb i (tb.fam i).f (tb.fam i).id (tb.fam i).m s).den tb.P tb.O m (tb.O i) env1 = some z)
    {envC : Env} {θ : List Ex} {n j : Nat} {o : Out} (hx : mkPr envC (tb.P i) θ = x) (hal : IsAlt envC (tb.O i) z j n) (ho : (tb.fam i).outs[j]? = some o) :
    ((s.emb env1).norm c (c.nilz (tb.fam i).f) (c.live (tb.fam i).f (tb.fam i).id) (tb.fam i).m fun st => rec (.loop (tb.fam i).f (tb.fam i).id (tb.fam i).m lb st)) = some (.code o.ex ⟨embF envC (o.state θ n).1, embH envC (o.state θ n).2⟩) := by
  unfold againT normT at hz
  obtain ⟨s1, hs1, hz⟩ := den_opt hz
  obtain ⟨hn1, hn2, hn3⟩ := normS_ok (env := env1) hs1 (fun st => rec (.loop (tb.fam i).f (tb.fam i).id (tb.fam i).m lb st))
  rw [hn1]
  obtain ⟨q, hq, hz⟩ := den_opt hz
  obtain ⟨fr, H, θ'⟩ := q
  simp only at hz
  obtain ⟨g, hg, hz⟩ := den_opt hz
  obtain ⟨hk, hz⟩ := den_iff hz
  obtain ⟨k1, k2⟩ := and_t hk
  obtain ⟨k2, k3⟩ := and_t k2
  obtain ⟨k3, k4⟩ := and_t k3
  obtain ⟨f1, f2, f3⟩ := findFam_ok hg
  have hi1 : Inv m env1 s1 := fun f hf => hi f (by rw [← hn3]; exact hf)
  split at hz
  · rename_i hself
    obtain ⟨w1, w2⟩ := and_t hself
    have hgi := natBeq w1
    subst hgi
    simp only [T.den] at hz
    rw [dif_pos trivial] at hz
    -- an environment that bears both
    have hbound : ∃ N, ∀ e ∈ θ'.map (·.2), e.bnd N = true := exBnd (θ'.map (·.2))
    obtain ⟨N0, hN0⟩ := hbound
    let N := max N0 (tb.P g).length
    have hN : ∀ e ∈ θ'.map (·.2), e.bnd N = true := fun e he => bnd_le (Nat.le_max_left _ _) (hN0 e he)
    obtain ⟨env2, a1, a2, a3⟩ := alt_env (tb.O g) z env1 N j envC n hal
    have hpr : mkPr env2 (tb.P g) (θ'.map (·.2)) = mkPr env1 (tb.P g) (θ'.map (·.2)) := (mkPr_agree a1 _ _ (List.all_eq_true.mpr hN)).symm
    have hm := hs g _ z hz env2 (θ'.map (·.2)) N j o hpr a2 ho
    rw [Means.two (natBeq k1)] at hm
    have hr := hm F bF lb hF hb hlb
    obtain ⟨g1, g2⟩ := fam_state (tb := tb) (i := g) hq f1 f2 f3 env1
    rw [g1, g2] at hr
    rw [show s1.emb env1 = ⟨embF env1 s1.fr, embH env1 s1.H⟩ from rfl, hr]
    -- the results are the same
    have hoo := List.all_eq_true.mp w2 o (List.mem_of_getElem? ho)
    obtain ⟨t1, t2⟩ := and_t hoo
    have hts : (tb.O g)[j]? = some o.ts := by
      show ((tb.fam g).outs.map Out.ts)[j]? = _
      rw [List.getElem?_map, ho]
      rfl
    have hag2 : Agree (tb.P g).length (env0 (tb.P g) x) env2 := hag.trans (a1.le (Nat.le_max_right _ _)) (Nat.le_refl _)
    have hh := self_holes (e1 := env2) (e2 := envC) (θ2 := θ) t2 (par_val hx hag2) (a3 _ hts)
    obtain ⟨r1, r2⟩ := templ_ok t1 (e1 := fun i u => ((o.σ (List.map (fun (p : Ty × Ex) => p.2) θ') N) i).den env2 u) (e2 := fun i u => ((o.σ θ n) i).den envC u) (fun i t h => hh i t h)
    congr 2
    show (⟨embF env2 (fillF (o.σ (θ'.map (·.2)) N) o.fr), embH env2 (fillH (o.σ (θ'.map (·.2)) N) o.H)⟩ : St) = ⟨embF envC (fillF (o.σ θ n) o.fr), embH envC (fillH (o.σ θ n) o.H)⟩
    rw [fillF_emb, fillF_emb, fillH_emb, fillH_emb, r1, r2]
  · -- another family of the loop
    have hcall : Ok m (callT tb g (θ'.map (·.2)) [] s1 fun o n s => .ret ((o.ex, (o.state (θ'.map (·.2)) n).1), (o.state (θ'.map (·.2)) n).2)) env1 (fun env' p => rec (.loop (tb.fam i).f (tb.fam i).id (tb.fam i).m lb (s1.emb env1)) = some (.code p.1.1 ⟨embF env' p.1.2, embH env' p.2⟩) ∧ Agree s1.nx env1 env') := by
      refine callT_ok hi1 fun env' o' k j' s2 z' hz' ha' ho' e2 hp hθ => ?_
      simp only [Ok]
      have hm := hs g _ z' hz' env' _ k j' o' rfl ha' ho'
      rw [Means.two (natBeq k1)] at hm
      have hr := hm F bF lb (by rw [natBeq k2]; exact hF) hb (by rw [natBeq k3]; exact hlb)
      obtain ⟨g1, g2⟩ := fam_state (tb := tb) (i := g) hq f1 f2 f3 env'
      rw [g1, g2, natBeq k2, natBeq k3, natBeq k4, e2.emF, e2.emH] at hr
      exact ⟨hr, e2.agr⟩
    have hbind : (callT tb g (θ'.map (·.2)) [] s1 fun o n s => (let q := o.state (θ'.map (·.2)) n; outT (leafOf (tb.fam i).ps (tb.fam i).outs o.ex q.1 q.2) : T Unit)) =
        (callT tb g (θ'.map (·.2)) [] s1 fun o n s => .ret ((o.ex, (o.state (θ'.map (·.2)) n).1), (o.state (θ'.map (·.2)) n).2)).bind fun p => outT (leafOf (tb.fam i).ps (tb.fam i).outs p.1.1 p.1.2 p.2) := by
      unfold callT
      split
      · split
        · rfl
        · rfl
      · split
        · simp only [T.bind]
          congr 1
          exact alts_bind' _ _ _ _ _
        · rfl
    rw [hbind] at hz
    obtain ⟨env2, p, ⟨hr, hag2⟩, hz⟩ := den_bind m _ env1 hz hcall
    rw [hr]
    obtain ⟨j', es, hl, hmk⟩ := den_outT hz
    have hlen : (tb.P i).length ≤ s1.nx := by rw [hn2]; exact hnx
    obtain ⟨e1, e2, e3⟩ := leaf_ok hl hmk hx (hag.trans (hag2.le hlen) (Nat.le_refl _)) hal ho
    rw [e1, e2, e3]
where
  bnd_le {a b : Nat} (h : a ≤ b) : ∀ {e : Ex}, e.bnd a = true → e.bnd b = true
    | .v n, hb => by
      simp only [Ex.bnd, Nat.blt_eq] at *
      omega
    | .il _, _ => rfl
    | .nn _, _ => rfl
    | .bl _, _ => rfl
    | .st _, _ => rfl
    | .nl, _ => rfl
    | .un, _ => rfl
    | .o1 o a, hb => bnd_le h (e := a) hb
    | .o2 o a b, hb => by
      simp only [Ex.bnd] at *
      obtain ⟨h1, h2⟩ := and_t hb
      rw [bnd_le h h1, bnd_le h h2]
      rfl
    | .o3 o a b c, hb => by
      simp only [Ex.bnd] at *
      obtain ⟨h1, h2⟩ := and_t hb
      obtain ⟨h2, h3⟩ := and_t h2
      rw [bnd_le h h1, bnd_le h h2, bnd_le h h3]
      rfl
  exBnd1 : ∀ e : Ex, ∃ N, e.bnd N = true
    | .v n => ⟨n + 1, by simp [Ex.bnd, Nat.blt_eq]⟩
    | .il _ => ⟨0, rfl⟩
    | .nn _ => ⟨0, rfl⟩
    | .bl _ => ⟨0, rfl⟩
    | .st _ => ⟨0, rfl⟩
    | .nl => ⟨0, rfl⟩
    | .un => ⟨0, rfl⟩
    | .o1 o a => exBnd1 a
    | .o2 o a b => by
      obtain ⟨n, hn⟩ := exBnd1 a
      obtain ⟨k, hk⟩ := exBnd1 b
      refine ⟨max n k, ?_⟩
      simp only [Ex.bnd]
      rw [bnd_le (Nat.le_max_left n k) hn, bnd_le (Nat.le_max_right n k) hk]
      rfl
    | .o3 o a b c => by
      obtain ⟨n, hn⟩ := exBnd1 a
      obtain ⟨k, hk⟩ := exBnd1 b
      obtain ⟨l, hl⟩ := exBnd1 c
      refine ⟨max n (max k l), ?_⟩
      simp only [Ex.bnd]
      rw [bnd_le (by omega) hn, bnd_le (by omega) hk, bnd_le (by omega) hl]
      rfl
  exBnd : ∀ l : List Ex, ∃ N, ∀ e ∈ l, e.bnd N = true
    | [] => ⟨0, fun e h => by simp at h⟩
    | a :: l => by
      obtain ⟨n, hn⟩ := exBnd1 a
      obtain ⟨k, hk⟩ := exBnd l
      refine ⟨max n k, fun e he => ?_⟩
      simp only [List.mem_cons] at he
      rcases he with rfl | he
      · exact bnd_le (Nat.le_max_left n k) hn
      · exact bnd_le (Nat.le_max_right n k) (hk e he)
  alts_bind' (f : Nat) (θ : List Ex) (s : SS) (ps : List Ty) (outs : List Out) : ∀ {l : List Out} {j : Nat}, alts f θ s (fun o n s => (let q := o.state θ n; outT (leafOf ps outs o.ex q.1 q.2) : T Unit)) l j =
      (alts f θ s (fun o n s => (.ret ((o.ex, (o.state θ n).1), (o.state θ n).2) : T ((Go.Ev.Ex × SF) × SH))) l j).bind fun p => outT (leafOf ps outs p.1.1 p.1.2 p.2)
    | [], j => rfl
    | o :: l, j => by
      simp only [alts, T.bind]
      rw [alts_bind' f θ s ps outs]
end
end Go.Sy
