/- Rows get new numbers at a function's beginning: nothing changes for the machine. -/
import Derived.Test.YtkecfadnfnnfaaaEvV
import Derived.Test.YtkecfadnfnnfaaaEvT
set_option linter.unusedVariables false
set_option linter.unusedSimpArgs false
namespace Go.Ev
def mvB (σ : Nat → Nat) (mv : List Nat) : Nat → Heap → Heap
  | _, [] => []
  | i, x :: r => (if i ∈ mv then .dead else x.rn σ) :: mvB σ mv (i + 1) r
theorem mvBlks_eq {β : Type} (σ : Nat → Nat) (mv : List Nat) : ∀ (i : Nat) (H : Heap) (k : Heap → β), mvBlks σ mv i H k = k (mvB σ mv i H)
  | i, [], k => rfl
  | i, x :: r, k => by
    simp only [mvBlks, mvB]
    cases h : isIn i mv with
    | true => rw [if_pos ((isIn_iff i mv).1 h)]; simp only [ifB]; rw [mvBlks_eq]
    | false =>
      rw [if_neg (fun hm => by rw [(isIn_iff i mv).2 hm] at h; cases h)]
      simp only [ifB, ren'_eq]; rw [mvBlks_eq]
theorem mvB_get (σ : Nat → Nat) (mv : List Nat) : ∀ (H : Heap) (i j : Nat), (mvB σ mv i H)[j]? = (H[j]?).map fun x => if i + j ∈ mv then .dead else x.rn σ
  | [], i, j => by simp [mvB]
  | x :: r, i, 0 => by simp [mvB]
  | x :: r, i, j + 1 => by
    simp only [mvB, List.getElem?_cons_succ]
    rw [mvB_get σ mv r (i + 1) j, show i + 1 + j = i + (j + 1) by omega]
theorem mvB_length (σ : Nat → Nat) (mv : List Nat) : ∀ (i : Nat) (H : Heap), (mvB σ mv i H).length = H.length
  | _, [] => rfl
  | i, x :: r => by simp [mvB, mvB_length σ mv (i + 1) r]
theorem mvFrom_spec (keep : List Nat) : ∀ (H : Heap) (i : Nat), (mvFrom keep i H).Nodup ∧ ∀ b ∈ mvFrom keep i H, i ≤ b ∧ b ∉ keep ∧ ∃ z es, H[b - i]? = some (.rows z true es)
  | [], i => by simp [mvFrom]
  | k :: r, i => by
    obtain ⟨h1, h2⟩ := mvFrom_spec keep r (i + 1)
    have tail : ∀ b ∈ mvFrom keep (i + 1) r, i ≤ b ∧ b ∉ keep ∧ ∃ z es, (k :: r)[b - i]? = some (.rows z true es) := fun b hb => by
      obtain ⟨a1, a2, z, es, a3⟩ := h2 b hb
      refine ⟨by omega, a2, z, es, ?_⟩
      rw [show b - i = (b - (i + 1)) + 1 by omega]
      exact a3
    unfold mvFrom
    split
    · rename_i z es
      cases hk : isIn i keep with
      | true => exact ⟨h1, tail⟩
      | false =>
        simp only [ifB]
        refine ⟨List.nodup_cons.2 ⟨fun hm => by have := (h2 i hm).1; omega, h1⟩, fun b hb => ?_⟩
        rcases List.mem_cons.1 hb with rfl | hb
        · exact ⟨Nat.le_refl _, fun hm => (by rw [(isIn_iff b keep).2 hm] at hk; cases hk), z, es, by simp⟩
        · exact tail b hb
    · exact ⟨h1, tail⟩
def Ren.mv (ρ : Ren) (m : Nat) (mv : List Nat) : Ren := fun b => if b < m then ρ b else match mv[b - m]? with | some b0 => ρ b0 | none => none
section
variable {I : Imm} {ρ : Ren} {H : Heap} {w : World}
theorem mvHeap_eq {β : Type} (args : List AV) (H : Heap) (k : Heap → β) : mvHeap args H k = k (mvB (mvNo H.length (mvFrom (args.flatMap refs) 0 H)) (mvFrom (args.flatMap refs) 0 H) 0 H ++ (mvFrom (args.flatMap refs) 0 H).map (blkAt H)) := by
  unfold mvHeap
  simp only [fSp_eq, mvBlks_eq]
theorem mvNo_in {m : Nat} {mv : List Nat} {b : Nat} (h : b ∈ mv) : ∃ j, mvNo m mv b = m + j ∧ mv[j]? = some b := by
  obtain ⟨j, h1, h2⟩ := indexIn_at b mv 0 h
  exact ⟨j, by unfold mvNo; rw [(isIn_iff b mv).2 h]; simp only [ifB]; omega, h2⟩
theorem mvNo_out {m : Nat} {mv : List Nat} {b : Nat} (h : b ∉ mv) : mvNo m mv b = b := by
  unfold mvNo
  cases hk : isIn b mv with
  | true => exact absurd ((isIn_iff b mv).1 hk) h
  | false => rfl
theorem Sim.moved (hs : Sim I ρ H w) {mv : List Nat} (hd : mv.Nodup) (hmv : ∀ b ∈ mv, ∃ z es, H[b]? = some (.rows z true es)) :
    Sim I (ρ.mv H.length mv) (mvB (mvNo H.length mv) mv 0 H ++ mv.map (blkAt H)) w ∧ Ext H.length I ρ H w I (ρ.mv H.length mv) (mvB (mvNo H.length mv) mv 0 H ++ mv.map (blkAt H)) w ∧
    (∀ b x, ρ b = some x → ρ.mv H.length mv (mvNo H.length mv b) = some x) := by
  have hlow : ∀ b x, ρ b = some x → ρ.mv H.length mv b = some x := fun b x hx => by simp [Ren.mv, (hs.dom b x hx).1, hx]
  have hno : ∀ b x, ρ b = some x → ρ.mv H.length mv (mvNo H.length mv b) = some x := fun b x hx => by
    by_cases hm : b ∈ mv
    · obtain ⟨j, h1, h2⟩ := mvNo_in (m := H.length) hm
      rw [h1]
      have hnl : ¬ (H.length + j < H.length) := by omega
      simp [Ren.mv, h2, hx, hnl]
    · rw [mvNo_out hm]; exact hlow b x hx
  -- each block's origin
  have horig : ∀ (i : Nat) (k : Blk), (mvB (mvNo H.length mv) mv 0 H ++ mv.map (blkAt H))[i]? = some k →
      k = .dead ∨ ∃ o k0, H[o]? = some k0 ∧ ρ.mv H.length mv i = ρ o ∧ k.solid = k0.solid ∧ k.live = k0.live ∧ ((i = o ∧ o ∉ mv ∧ k = k0.rn (mvNo H.length mv)) ∨ (H.length ≤ i ∧ mv[i - H.length]? = some o ∧ k = k0 ∧ ∃ z es, k0 = .rows z true es)) := fun i k hk => by
    by_cases hi : i < H.length
    · rw [List.getElem?_append_left (by rw [mvB_length]; exact hi), mvB_get, List.getElem?_eq_getElem hi] at hk
      simp only [Option.map_some, Nat.zero_add, Option.some.injEq] at hk
      split at hk
      · exact .inl hk.symm
      · rename_i hm
        refine .inr ⟨i, H[i], List.getElem?_eq_getElem hi, by simp [Ren.mv, hi], ?_, ?_, .inl ⟨rfl, hm, hk.symm⟩⟩
        · rw [← hk, rn_solid]
        · rw [← hk, rn_live]
    · rw [List.getElem?_append_right (by rw [mvB_length]; omega), mvB_length, List.getElem?_map] at hk
      cases hj : mv[i - H.length]? with
      | none => simp [hj] at hk
      | some o =>
        simp [hj] at hk
        obtain ⟨z, es, ho⟩ := hmv o (List.mem_of_getElem? hj)
        have hb : blkAt H o = .rows z true es := by simp [blkAt, ho]
        rw [hb] at hk
        subst hk
        exact .inr ⟨o, _, ho, by simp [Ren.mv, hi, hj], rfl, rfl, .inr ⟨by omega, rfl, rfl, z, es, rfl⟩⟩
  have same : ∀ i i' o k k', ((i = o ∧ o ∉ mv ∧ k) ∨ (H.length ≤ i ∧ mv[i - H.length]? = some o ∧ k')) → ∀ l l', ((i' = o ∧ o ∉ mv ∧ l) ∨ (H.length ≤ i' ∧ mv[i' - H.length]? = some o ∧ l')) → i = i' := fun i i' o k k' h l l' h' => by
    rcases h with ⟨rfl, h1, _⟩ | ⟨h1, h2, _⟩ <;> rcases h' with ⟨rfl, h1', _⟩ | ⟨h1', h2', _⟩
    · rfl
    · exact absurd (List.mem_of_getElem? h2') h1
    · exact absurd (List.mem_of_getElem? h2) h1'
    · have e1 := List.getElem?_eq_some_iff.1 h2
      have e2 := List.getElem?_eq_some_iff.1 h2'
      have := (List.getElem_inj hd).1 (e1.2.trans e2.2.symm)
      omega
  have hlen : (mvB (mvNo H.length mv) mv 0 H ++ mv.map (blkAt H)).length = H.length + mv.length := by rw [List.length_append, mvB_length, List.length_map]
  refine ⟨⟨hs.imm, fun b hb => ?_, fun b x hx => ?_, fun b k c z n hk hx => ?_, fun b b' k k' x x' hk hk' s s' hx hx' q q' e => ?_, fun b k x hk hl hx q o => ?_⟩,
    ⟨Imm.le_refl I, fun _ _ _ h => .inl h, fun b hb => by simp [Ren.mv, hb], fun b k hb hk hsk => ?_, ?_, ?_, rfl, rfl, rfl, Nat.le_refl _, fun _ _ _ => rfl⟩, hno⟩
  · rw [hlen] at hb
    by_cases hlt : b < H.length
    · simp only [Ren.mv, hlt, if_true]; exact hs.tot b hlt
    · simp only [Ren.mv, hlt, if_false]
      rw [List.getElem?_eq_getElem (by omega)]
      obtain ⟨z, es, ho⟩ := hmv _ (List.getElem_mem (show b - H.length < mv.length by omega))
      exact hs.tot _ (List.getElem?_eq_some_iff.1 ho).1
  · rw [hlen]
    unfold Ren.mv at hx
    split at hx
    · exact ⟨by omega, (hs.dom b x hx).2⟩
    · cases hj : mv[b - H.length]? with
      | none => simp [hj] at hx
      | some o =>
        simp [hj] at hx
        have := (List.getElem?_eq_some_iff.1 hj).1
        exact ⟨by omega, (hs.dom o x hx).2⟩
  · rcases horig b k hk with rfl | ⟨o, k0, ho, hρ, _, _, h⟩
    · trivial
    · rw [hρ] at hx
      have hb := hs.blk o k0 c z n ho hx
      rcases h with ⟨_, _, rfl⟩ | ⟨_, _, rfl, z', es, rfl⟩
      · exact rn_rel hb (fun d _ y hy => hno d y hy)
      · exact hb.mono (Imm.le_refl I) hlow (fun _ => rfl)
  · rcases horig b k hk with rfl | ⟨o, k0, ho, hρ, e1, _, h⟩
    · simp [Blk.solid] at s
    rcases horig b' k' hk' with rfl | ⟨o', k0', ho', hρ', e1', _, h'⟩
    · simp [Blk.solid] at s'
    rw [hρ] at hx
    rw [hρ'] at hx'
    have := hs.inj o o' k0 k0' x x' ho ho' (e1 ▸ s) (e1' ▸ s') hx hx' q q' e
    subst this
    exact same b b' o _ _ h _ _ h'
  · rcases horig b k hk with rfl | ⟨o', k0, ho, hρ, _, e2, h⟩
    · simp [Blk.live] at hl
    rw [hρ] at hx
    exact hs.sep o' k0 x ho (e2 ▸ hl) hx q o
  · rcases horig b k hk with rfl | ⟨o, k0, ho, hρ, e1, _, h⟩
    · simp [Blk.solid] at hsk
    rcases h with ⟨rfl, _, _⟩ | ⟨h1, _⟩
    · exact ⟨k0, ho, e1 ▸ hsk⟩
    · omega
  · rintro c ⟨b, k, x, hk, hsk, hx, e⟩
    rcases horig b k hk with rfl | ⟨o, k0, ho, hρ, e1, _, h⟩
    · simp [Blk.solid] at hsk
    rw [hρ] at hx
    exact .inl ⟨o, k0, x, ho, e1 ▸ hsk, hx, e⟩
  · rintro c ⟨b, k, x, hk, hsk, hx, e⟩
    rcases horig b k hk with rfl | ⟨o, k0, ho, hρ, _, e2, h⟩
    · simp [Blk.live] at hsk
    rw [hρ] at hx
    exact .inl ⟨o, k0, x, ho, e2 ▸ hsk, hx, e⟩
/-- A function's first state. -/
theorem mv_rel {args : List AV} {cvs : Array Value} (hs : Sim I ρ H w) (ha : VRels I ρ args cvs) {β : Type} (c : Ctx) (f : FuncId) :
    ∃ H1 ρ1, (∀ (γ : Type) (k : Heap → γ), mvIf c f args H k = k H1) ∧ Sim I ρ1 H1 w ∧ Ext H.length I ρ H w I ρ1 H1 w ∧ VRels I ρ1 args cvs ∧ H.length ≤ H1.length := by
  unfold mvIf
  cases c.stay f with
  | true => exact ⟨H, ρ, fun _ _ => rfl, hs, Ext.refl _ _ _ _ _, ha, Nat.le_refl _⟩
  | false =>
    obtain ⟨m1, m2⟩ := mvFrom_spec (args.flatMap refs) H 0
    obtain ⟨s1, e1, _⟩ := hs.moved (mv := mvFrom (args.flatMap refs) 0 H) m1 (fun b hb => by obtain ⟨_, _, h⟩ := m2 b hb; exact h)
    exact ⟨_, _, fun γ k => by simp only [ifB]; exact mvHeap_eq args H k, s1, e1, ⟨ha.len, fun j x u hx hu => e1.vrel hs (ha.at_ j x u hx hu)⟩, by rw [List.length_append, mvB_length]; omega⟩
end
end Go.Ev
