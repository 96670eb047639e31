/- Empty slices get blocks: nothing changes for the machine. -/
import Derived.Test.YtkecfadnfnnfaaaEvN
set_option linter.unusedVariables false
set_option linter.unusedSimpArgs false
namespace Go.Ev
def isEmp : AV → Bool
  | .nils => true
  | .emp => true
  | _ => false
def nestC (c : Ctx) : List Nat → List AV → Heap → List AV × Heap
  | z :: zs, v :: vs, H => if z ≠ 0 ∧ isEmp v = true then let r := nestC c zs vs (H ++ [.rows (c.ty (z - 1)).size true []]); (.sl H.length 0 0 :: r.1, r.2) else let r := nestC c zs vs H; (v :: r.1, r.2)
  | [], vs, H => (vs, H)
  | _ :: _, [], H => ([], H)
theorem nestCells_eq {β : Type} (c : Ctx) : ∀ (zs : List Nat) (vs : List AV) (H : Heap) (k : List AV → Heap → β), nestCells c zs vs H k = k (nestC c zs vs H).1 (nestC c zs vs H).2
  | [], vs, H, k => by simp [nestCells, nestC]
  | z :: zs, [], H, k => by simp [nestCells, nestC]
  | z :: zs, v :: vs, H, k => by
    cases z with
    | zero => simp only [nestCells, nestC]; rw [nestCells_eq]; simp
    | succ z => cases v <;> (simp only [nestCells, nestC, fNat_eq, fSp_eq]; rw [nestCells_eq]; simp [isEmp])
section
variable {I : Imm} {w : World}
theorem nestC_rel {c : Ctx} : ∀ (zs : List Nat) (vs : List AV) (H : Heap) (ρ : Ren) (g : Nat → Option Value), Sim I ρ H w → (∀ j x u, vs[j]? = some x → g j = some u → VRel I ρ x u) →
    ∃ ρ', Sim I ρ' (nestC c zs vs H).2 w ∧ Ext H.length I ρ H w I ρ' (nestC c zs vs H).2 w ∧ H.length ≤ (nestC c zs vs H).2.length ∧ (nestC c zs vs H).1.length = vs.length ∧
      (∀ j x u, (nestC c zs vs H).1[j]? = some x → g j = some u → VRel I ρ' x u) ∧ (vs.all AV.isCell = true → (nestC c zs vs H).1.all AV.isCell = true)
  | [], vs, H, ρ, g, hs, hv => by
    simp only [nestC]
    exact ⟨ρ, hs, Ext.refl _ _ _ _ _, Nat.le_refl _, trivial, hv, id⟩
  | z :: zs, [], H, ρ, g, hs, hv => by
    simp only [nestC]
    exact ⟨ρ, hs, Ext.refl _ _ _ _ _, Nat.le_refl _, trivial, hv, id⟩
  | z :: zs, v :: vs, H, ρ, g, hs, hv => by
    simp only [nestC]
    split
    · rename_i hz
      obtain ⟨s1, e1⟩ := hs.vacant (c.ty (z - 1)).size
      have h1 : ∀ j x u, vs[j]? = some x → g (j + 1) = some u → VRel I (ρ.put H.length (0, (c.ty (z - 1)).size, 0)) x u := fun j x u hx hu => e1.vrel hs (hv (j + 1) x u hx hu)
      obtain ⟨ρ', s2, e2, l2, n2, v2, c2⟩ := nestC_rel (c := c) zs vs (H ++ [.rows (c.ty (z - 1)).size true []]) _ (fun j => g (j + 1)) s1 h1
      have hlt : H.length < (H ++ [Blk.rows (c.ty (z - 1)).size true []]).length := by simp
      refine ⟨ρ', s2, e1.trans e2 (by simp), by simp at l2 ⊢; omega, by simp [n2], fun j x u hx hu => ?_, fun hc => ?_⟩
      · cases j with
        | zero =>
          simp only [List.getElem?_cons_zero, Option.some.injEq] at hx
          subst hx
          have h0 := hv 0 v u rfl hu
          have hρ : ρ' H.length = some (0, (c.ty (z - 1)).size, 0) := by rw [e2.ren _ hlt]; exact Ren.put_same _ _ _
          have he := hz.2
          cases h0 with
          | nils => exact .sle _ _ _ _ _ _ hρ
          | emp _ a => exact .sle _ _ _ _ _ _ hρ
          | _ => simp [isEmp] at he
        | succ j => exact v2 j x u hx hu
      · simp only [List.all_cons, Bool.and_eq_true] at hc ⊢
        exact ⟨rfl, c2 hc.2⟩
    · obtain ⟨ρ', s2, e2, l2, n2, v2, c2⟩ := nestC_rel (c := c) zs vs H ρ (fun j => g (j + 1)) hs (fun j x u hx hu => hv (j + 1) x u hx hu)
      refine ⟨ρ', s2, e2, l2, by simp [n2], fun j x u hx hu => ?_, fun hc => ?_⟩
      · cases j with
        | zero =>
          simp only [List.getElem?_cons_zero, Option.some.injEq] at hx
          subst hx
          exact e2.vrel hs (hv 0 _ u rfl hu)
        | succ j => exact v2 j x u hx hu
      · simp only [List.all_cons, Bool.and_eq_true] at hc ⊢
        exact ⟨hc.1, c2 hc.2⟩
def nestA (c : Ctx) (zs : List Nat) (v : AV) (H : Heap) : AV × Heap := match zs with
  | [] => (v, H)
  | zs => match v with
    | .agg cs => (.agg (nestC c zs cs H).1, (nestC c zs cs H).2)
    | v => (oneOf v (nestC c zs [v] H).1, (nestC c zs [v] H).2)
theorem nestAV_eq {β : Type} (c : Ctx) (zs : List Nat) (v : AV) (H : Heap) (k : AV → Heap → β) : nestAV c zs v H k = k (nestA c zs v H).1 (nestA c zs v H).2 := by
  cases zs with
  | nil => rfl
  | cons z zs =>
    cases v <;> simp only [nestAV, nestA, nestCells_eq]
theorem nestA_rel {c : Ctx} {zs : List Nat} {v : AV} {H : Heap} {ρ : Ren} {cv : Value} (hs : Sim I ρ H w) (hv : VRel I ρ v cv) :
    ∃ ρ', Sim I ρ' (nestA c zs v H).2 w ∧ Ext H.length I ρ H w I ρ' (nestA c zs v H).2 w ∧ H.length ≤ (nestA c zs v H).2.length ∧ VRel I ρ' (nestA c zs v H).1 cv := by
  cases zs with
  | nil => exact ⟨ρ, hs, Ext.refl _ _ _ _ _, Nat.le_refl _, hv⟩
  | cons z zs =>
    have single : (nestA c (z :: zs) v H) = (oneOf v (nestC c (z :: zs) [v] H).1, (nestC c (z :: zs) [v] H).2) →
        ∃ ρ', Sim I ρ' (nestA c (z :: zs) v H).2 w ∧ Ext H.length I ρ H w I ρ' (nestA c (z :: zs) v H).2 w ∧ H.length ≤ (nestA c (z :: zs) v H).2.length ∧ VRel I ρ' (nestA c (z :: zs) v H).1 cv := fun e => by
      rw [e]
      obtain ⟨ρ', s2, e2, l2, n2, v2, c2⟩ := nestC_rel (c := c) (z :: zs) [v] H ρ (fun j => if j = 0 then some cv else none) hs (fun j x u hx hu => by
        cases j with
        | zero => simp at hx hu; subst hx; subst hu; exact hv
        | succ j => simp at hx)
      refine ⟨ρ', s2, e2, l2, ?_⟩
      unfold oneOf
      split
      · rename_i x hx
        exact v2 0 x cv (by rw [hx]; rfl) rfl
      · exact e2.vrel hs hv
    cases v with
    | agg cs =>
      cases hv with
      | agg _ _ vs hl hh =>
        obtain ⟨ρ', s2, e2, l2, n2, v2, c2⟩ := nestC_rel (c := c) (z :: zs) cs H ρ (fun j => vs[j]?) hs (fun j x u hx hu => hh j x u hx hu)
        exact ⟨ρ', s2, e2, l2, .agg _ _ _ (by rw [n2]; exact hl) (fun j x u hx hu => v2 j x u hx hu)⟩
    | _ => exact single rfl
def nestF (c : Ctx) (nz : Nat → List Nat) : Fr → Heap → Fr × Heap
  | [], H => ([], H)
  | p :: r, H => (((p.1, (nestA c (nz p.1) p.2 H).1) :: (nestF c nz r (nestA c (nz p.1) p.2 H).2).1), (nestF c nz r (nestA c (nz p.1) p.2 H).2).2)
theorem nestFr_eq {β : Type} (c : Ctx) (nz : Nat → List Nat) : ∀ (fr : Fr) (H : Heap) (k : Fr → Heap → β), nestFr c nz fr H k = k (nestF c nz fr H).1 (nestF c nz fr H).2
  | [], H, k => rfl
  | p :: r, H, k => by simp only [nestFr, nestF, nestAV_eq]; rw [nestFr_eq]
theorem nestF_keys (c : Ctx) (nz : Nat → List Nat) : ∀ (fr : Fr) (H : Heap), (nestF c nz fr H).1.map (·.1) = fr.map (·.1)
  | [], H => rfl
  | p :: r, H => by simp only [nestF, List.map_cons]; rw [nestF_keys]
theorem nestF_srt {c : Ctx} {nz : Nat → List Nat} {fr : Fr} {H : Heap} (h : Srt fr) : Srt (nestF c nz fr H).1 := by
  unfold Srt at *
  have h1 : (fr.map (·.1)).Pairwise (· < ·) := List.pairwise_map.2 h
  rw [← nestF_keys c nz fr H] at h1
  exact List.pairwise_map.1 h1
theorem nestF_rel {c : Ctx} {nz : Nat → List Nat} : ∀ (fr : Fr) (H : Heap) (ρ : Ren) (g : Nat → Value), Sim I ρ H w → (∀ p ∈ fr, VRel I ρ p.2 (g p.1)) →
    ∃ ρ', Sim I ρ' (nestF c nz fr H).2 w ∧ Ext H.length I ρ H w I ρ' (nestF c nz fr H).2 w ∧ H.length ≤ (nestF c nz fr H).2.length ∧ ∀ p ∈ (nestF c nz fr H).1, VRel I ρ' p.2 (g p.1)
  | [], H, ρ, g, hs, hv => ⟨ρ, hs, Ext.refl _ _ _ _ _, Nat.le_refl _, fun p hp => by simp [nestF] at hp⟩
  | p :: r, H, ρ, g, hs, hv => by
    obtain ⟨ρ1, s1, e1, l1, v1⟩ := nestA_rel (c := c) (zs := nz p.1) hs (hv p (by simp))
    obtain ⟨ρ2, s2, e2, l2, v2⟩ := nestF_rel (c := c) (nz := nz) r _ ρ1 g s1 (fun q hq => e1.vrel hs (hv q (by simp [hq])))
    simp only [nestF]
    refine ⟨ρ2, s2, e1.trans e2 l1, Nat.le_trans l1 l2, fun q hq => ?_⟩
    rcases List.mem_cons.1 hq with rfl | hq
    · exact e2.vrel s1 v1
    · exact v2 q hq
theorem get_of_mem : ∀ (fr : Fr) (t : Nat), fr.get t = .undef ∨ ∃ p ∈ fr, p.1 = t ∧ fr.get t = p.2
  | [], t => .inl rfl
  | p :: r, t => by
    rw [Fr.get_cons]
    cases h : Nat.beq p.1 t with
    | true => exact .inr ⟨p, by simp, Nat.eq_of_beq_eq_true h, rfl⟩
    | false =>
      rcases get_of_mem r t with h1 | ⟨q, hq, h1, h2⟩
      · exact .inl (by simpa [ifB] using h1)
      · exact .inr ⟨q, by simp [hq], h1, by simpa [ifB] using h2⟩
theorem nestF_frel {c : Ctx} {nz : Nat → List Nat} {fr : Fr} {H : Heap} {ρ : Ren} {tmps : Array Value} {n : Nat} (hs : Sim I ρ H w) (hf : FrRel I ρ fr tmps n) :
    ∃ ρ', Sim I ρ' (nestF c nz fr H).2 w ∧ Ext H.length I ρ H w I ρ' (nestF c nz fr H).2 w ∧ H.length ≤ (nestF c nz fr H).2.length ∧ FrRel I ρ' (nestF c nz fr H).1 tmps n := by
  obtain ⟨ρ', s, e, l, v⟩ := nestF_rel (c := c) (nz := nz) fr H ρ (fun t => tmps.getD t undef) hs (fun p hp => by have := hf.at_ p.1; rw [hf.srt.get hp] at this; exact this)
  refine ⟨ρ', s, e, l, FrRel.of_get hf.size (nestF_srt hf.srt) fun t => ?_⟩
  rcases get_of_mem (nestF c nz fr H).1 t with h | ⟨p, hp, rfl, h⟩
  · rw [h]; exact .undef _ _
  · rw [h]; exact v p hp
end
end Go.Ev
