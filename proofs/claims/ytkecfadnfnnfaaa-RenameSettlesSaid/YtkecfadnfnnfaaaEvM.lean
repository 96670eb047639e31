/- The moves of a state: a new block, a block written, a block that grows in its place, a block frozen, blocks renumbered. -/
import Derived.Test.YtkecfadnfnnfaaaEvR
set_option linter.unusedVariables false
set_option linter.unusedSimpArgs false
namespace Go.Ev

theorem cell_of_heap {w w' : World} {c : Nat} (h : w'.heap[c]? = w.heap[c]?) (o : Nat) : w'.cell? ⟨c, o, none⟩ = w.cell? ⟨c, o, none⟩ := by simp [World.cell?, h]
theorem frozen_of_heap {w w' : World} {c : Nat} (h : w'.heap[c]? = w.heap[c]?) (o : Nat) : w'.frozen? ⟨c, o, none⟩ = w.frozen? ⟨c, o, none⟩ := by simp [World.frozen?, h]
theorem cell_lt {w : World} {c o : Nat} {v : Value} (h : w.cell? ⟨c, o, none⟩ = some v) : c < w.heap.size := by
  simp only [World.cell?] at h
  by_cases hc : c < w.heap.size
  · exact hc
  · simp [Array.getElem?_eq_none (Nat.le_of_not_lt hc)] at h

theorem nil_of_le {α : Type} {es : List α} (h : es.length ≤ 0) : es = [] := List.eq_nil_of_length_eq_zero (by omega)
/-- A place without room says the same of every world. -/
theorem BRel.vain {I J : Imm} {ρ ρ' : Ren} {w w' : World} {c c' z : Nat} {k : Blk} (h : BRel I ρ w c z 0 k) : BRel J ρ' w' c' z 0 k := by
  cases k with
  | rows z' p es =>
    obtain ⟨h1, h2, h3, h4, h5⟩ := h
    have := nil_of_le h2
    subst this
    exact ⟨h1, h2, h3, fun o ho => by omega, fun i j r x v hr => by simp at hr⟩
  | ro z' es =>
    obtain ⟨h1, h2, h3, h4⟩ := h
    have := nil_of_le h2
    subst this
    exact ⟨h1, h2, h3, fun i j r x hr => by simp at hr⟩
  | map es => exact absurd h.1 (by omega)
  | iter => trivial
  | dead => trivial
theorem BRel.mono {I J : Imm} {ρ ρ' : Ren} {w w' : World} {c z n : Nat} {k : Blk} (h : BRel I ρ w c z n k) (hI : I.le J) (hρ : ∀ b x, ρ b = some x → ρ' b = some x) (hw0 : 0 < n → w'.heap[c]? = w.heap[c]?) :
    BRel J ρ' w' c z n k := by
  cases n with
  | zero => exact h.vain
  | succ n =>
  have hw := hw0 (by omega)
  cases k with
  | rows z' p es =>
    obtain ⟨h1, h2, h3, h4, h5⟩ := h
    refine ⟨h1, h2, h3, fun o ho => by rw [cell_of_heap hw, frozen_of_heap hw]; exact h4 o ho, fun i j r x v hr hx hv => ?_⟩
    rw [cell_of_heap hw] at hv
    have := h5 i j r x v hr hx hv
    cases p with
    | true => exact this.imm hI
    | false => exact this.mono hI hρ
  | ro z' es =>
    obtain ⟨h1, h2, h3, h4⟩ := h
    exact ⟨h1, h2, h3, fun i j r x hr hx => let ⟨v, hv, hrel⟩ := h4 i j r x hr hx; ⟨v, hI _ _ _ hv, hrel.imm hI⟩⟩
  | map es =>
    obtain ⟨h0, ents, clock, h1, h2, h3⟩ := h
    exact ⟨h0, ents, clock, by rw [hw]; exact h1, h2, fun j x e hx he => ⟨(h3 j x e hx he).1.imm hI, (h3 j x e hx he).2.imm hI⟩⟩
  | iter => trivial
  | dead => trivial
theorem Agrees.keep {I : Imm} {w w' : World} (h : Agrees I w) (hk : ∀ c o v, I c o = some v → w'.heap[c]? = w.heap[c]?) : Agrees I w' :=
  ⟨fun b o v hv => by rw [cell_of_heap (hk b o v hv)]; exact h.at_ b o v hv⟩

/-- The world with a new block, draws aside. -/
structure NewIn (w w' : World) (o : Obj) : Prop where
  heap : w'.heap = w.heap.push o
  os : w'.os = w.os
  tape : w'.tape = w.tape
  output : w'.output = w.output
theorem NewIn.size {w w' : World} {o : Obj} (h : NewIn w w' o) : w'.heap.size = w.heap.size + 1 := by rw [h.heap]; simp
theorem NewIn.old {w w' : World} {o : Obj} (h : NewIn w w' o) {c : Nat} (hc : c < w.heap.size) : w'.heap[c]? = w.heap[c]? := by rw [h.heap, Array.getElem?_push]; simp [Nat.ne_of_lt hc]
theorem NewIn.at_ {w w' : World} {o : Obj} (h : NewIn w w' o) : w'.heap[w.heap.size]? = some o := by rw [h.heap]; simp
theorem NewIn.alloc (w : World) (o : Obj) : NewIn w (w.alloc o) o := ⟨rfl, rfl, rfl, rfl⟩
theorem NewIn.drew_alloc (w : World) (o : Obj) : NewIn w (w.drew.alloc o) o := ⟨rfl, rfl, rfl, rfl⟩

def Ren.put (ρ : Ren) (b : Nat) (x : Nat × Nat × Nat) : Ren := fun i => if i = b then some x else ρ i
theorem Ren.put_same (ρ : Ren) (b : Nat) (x : Nat × Nat × Nat) : ρ.put b x b = some x := by simp [Ren.put]
theorem Ren.put_ne (ρ : Ren) {b i : Nat} (x : Nat × Nat × Nat) (h : i ≠ b) : ρ.put b x i = ρ i := by simp [Ren.put, h]

section
variable {I : Imm} {ρ : Ren} {H : Heap} {w w' : World}

theorem Sim.mono_put (hs : Sim I ρ H w) (x : Nat × Nat × Nat) : ∀ b y, ρ b = some y → ρ.put H.length x b = some y := fun b y hb => by
  rw [Ren.put_ne _ _ (by have := (hs.dom b y hb).1; omega)]; exact hb

/-- A new block. -/
theorem Sim.alloc (hs : Sim I ρ H w) {o : Obj} (hw : NewIn w w' o) (k : Blk) (z n : Nat) (hb : BRel I (ρ.put H.length (w.heap.size, z, n)) w' w.heap.size z n k) :
    Sim I (ρ.put H.length (w.heap.size, z, n)) (H ++ [k]) w' ∧ Ext H.length I ρ H w I (ρ.put H.length (w.heap.size, z, n)) (H ++ [k]) w' := by
  have hmono := hs.mono_put (w.heap.size, z, n)
  have hold : ∀ b k', (H ++ [k])[b]? = some k' → b < H.length → H[b]? = some k' := fun b k' h hb => by rwa [List.getElem?_append_left hb] at h
  have hnew : ∀ b k', (H ++ [k])[b]? = some k' → ¬ b < H.length → b = H.length ∧ k' = k := fun b k' h hb => by
    rw [List.getElem?_append_right (by omega)] at h
    have : b - H.length = 0 := by
      rcases Nat.eq_zero_or_pos (b - H.length) with e | e
      · exact e
      · rw [List.getElem?_eq_none (by simp; omega)] at h; cases h
    rw [this] at h
    simp at h
    exact ⟨by omega, h.symm⟩
  have himm : Agrees I w' := hs.imm.keep fun c o v hv => hw.old (cell_lt (hs.imm.at_ c o v hv))
  have hfresh : ∀ o, I w.heap.size o = none := fun o => by
    cases h : I w.heap.size o with
    | none => rfl
    | some v => have := cell_lt (hs.imm.at_ _ _ _ h); omega
  constructor
  · refine ⟨himm, fun b hb => ?_, fun b x hx => ?_, fun b k' c z' n' hk hx => ?_, fun b b' k1 k2 x x' hk1 hk2 l1 l2 hx hx' q1 q2 e => ?_, fun b k' x hk hl hx q o => ?_⟩
    · by_cases e : b = H.length
      · subst e; exact ⟨_, Ren.put_same _ _ _⟩
      · rw [Ren.put_ne _ _ e]; exact hs.tot b (by simp at hb; omega)
    · by_cases e : b = H.length
      · subst e; rw [Ren.put_same] at hx; cases hx; exact ⟨by simp, fun _ => by rw [hw.size]; simp⟩
      · rw [Ren.put_ne _ _ e] at hx; have := hs.dom b x hx; exact ⟨by simp; omega, fun q => by have := this.2 q; rw [hw.size]; omega⟩
    · by_cases hlt : b < H.length
      · rw [Ren.put_ne _ _ (by omega)] at hx
        exact (hs.blk b k' c z' n' (hold b k' hk hlt) hx).mono (Imm.le_refl I) hmono (fun q => hw.old ((hs.dom b _ hx).2 q))
      · obtain ⟨rfl, rfl⟩ := hnew b k' hk hlt
        rw [Ren.put_same] at hx; cases hx; exact hb
    · by_cases h1 : b < H.length <;> by_cases h2 : b' < H.length
      · rw [Ren.put_ne _ _ (by omega)] at hx hx'
        exact hs.inj b b' k1 k2 x x' (hold _ _ hk1 h1) (hold _ _ hk2 h2) l1 l2 hx hx' q1 q2 e
      · obtain ⟨rfl, rfl⟩ := hnew _ _ hk2 h2
        rw [Ren.put_same] at hx'; cases hx'; rw [Ren.put_ne _ _ (by omega)] at hx
        have := (hs.dom b x hx).2 q1; simp at e; omega
      · obtain ⟨rfl, rfl⟩ := hnew _ _ hk1 h1
        rw [Ren.put_same] at hx; cases hx; rw [Ren.put_ne _ _ (by omega)] at hx'
        have := (hs.dom b' x' hx').2 q2; simp at e; omega
      · rw [(hnew _ _ hk1 h1).1, (hnew _ _ hk2 h2).1]
    · by_cases h1 : b < H.length
      · rw [Ren.put_ne _ _ (by omega)] at hx; exact hs.sep b k' x (hold _ _ hk h1) hl hx q o
      · obtain ⟨rfl, rfl⟩ := hnew _ _ hk h1
        rw [Ren.put_same] at hx; cases hx; exact hfresh o
  · refine ⟨Imm.le_refl I, fun _ _ _ h => .inl h, fun b hb => Ren.put_ne _ _ (by omega), fun b k' hb hk hl => ⟨k', hold _ _ hk hb, hl⟩, ?_, ?_, hw.os, hw.tape, hw.output, by rw [hw.size]; omega, fun c hc _ => hw.old hc⟩
    all_goals
      rintro c ⟨b, k', x, hk, hl, hx, e⟩
      by_cases h1 : b < H.length
      · rw [Ren.put_ne _ _ (by omega)] at hx
        exact .inl ⟨b, k', x, hold _ _ hk h1, hl, hx, e⟩
      · obtain ⟨rfl, rfl⟩ := hnew _ _ hk h1
        rw [Ren.put_same] at hx; cases hx; have e := e.1; simp at e; exact .inr (by omega)

/-- The world with block c written. -/
structure Upd (w w' : World) (c : Nat) : Prop where
  size : w'.heap.size = w.heap.size
  old : ∀ d, d ≠ c → w'.heap[d]? = w.heap[d]?
  os : w'.os = w.os
  tape : w'.tape = w.tape
  output : w'.output = w.output
theorem Upd.refl (w : World) (c : Nat) : Upd w w c := ⟨rfl, fun _ _ => rfl, rfl, rfl, rfl⟩
theorem Upd.setCells (b : Nat) : ∀ (vs : List Value) (o : Nat) (w : World), Upd w (w.setCells b o vs) b
  | [], _, w => Upd.refl w b
  | v :: r, o, w => by
    have h := Upd.setCells b r (o + 1) (w.setCell ⟨b, o, none⟩ v)
    refine ⟨h.size.trans (by simp [World.setCell]), fun d hd => (h.old d hd).trans ?_, h.os, h.tape, h.output⟩
    simp [World.setCell, Array.getElem?_modify, Ne.symm hd]

/-- A block that may be written holds something else. -/
theorem Sim.setB (hs : Sim I ρ H w) {b c z n : Nat} {k k' : Blk} (hk : H[b]? = some k) (hl : k.live = true) (hρ : ρ b = some (c, z, n)) (hn : 0 < n) (hu : Upd w w' c)
    (hk' : k'.live = true ∨ k' = .dead) (hb : BRel I ρ w' c z n k') : Sim I ρ (H.set b k') w' ∧ Ext H.length I ρ H w I ρ (H.set b k') w' := by
  have hlen : b < H.length := (List.getElem?_eq_some_iff.1 hk).1
  have hset : ∀ i x, (H.set b k')[i]? = some x → (i = b ∧ x = k') ∨ (i ≠ b ∧ H[i]? = some x) := fun i x h => by
    rw [List.getElem?_set] at h
    split at h
    · rename_i e; subst e; simp [hlen] at h; exact .inl ⟨rfl, h.symm⟩
    · rename_i e; exact .inr ⟨fun e' => e e'.symm, h⟩
  have hcI : ∀ o, I c o = none := hs.sep b k _ hk hl hρ hn
  have himm : Agrees I w' := hs.imm.keep fun d o v hv => hu.old d fun e => by rw [e, hcI] at hv; cases hv
  have hsol : ∀ {x : Blk}, (x.live = true ∨ x = .dead) → x.solid = true → x.live = true := fun h hx => by
    rcases h with h | rfl
    · exact h
    · simp [Blk.solid] at hx
  constructor
  · refine ⟨himm, fun i hi => hs.tot i (by simpa using hi), fun i x hx => ?_, fun i x d z' n' hx hr => ?_, fun i i' x x' y y' hx hx' l l' hr hr' q1 q2 e => ?_, fun i x y hx lx hr q o => ?_⟩
    · have := hs.dom i x hx; exact ⟨by simpa using this.1, by rw [hu.size]; exact this.2⟩
    · rcases hset i x hx with ⟨rfl, rfl⟩ | ⟨hne, hx'⟩
      · rw [hρ] at hr; cases hr; exact hb
      · by_cases hsx : x.solid = true
        · refine (hs.blk i x d z' n' hx' hr).mono (Imm.le_refl I) (fun _ _ h => h) (fun q => hu.old d fun e => ?_)
          subst e
          exact hne (hs.inj i b x k _ _ hx' hk hsx (Blk.solid_of_live hl) hr hρ q hn rfl)
        · cases x <;> simp [Blk.solid] at hsx <;> trivial
    · rcases hset i x hx with ⟨rfl, rfl⟩ | ⟨hne, hx1⟩ <;> rcases hset i' x' hx' with ⟨rfl, rfl⟩ | ⟨hne', hx1'⟩
      · rfl
      · exact hs.inj _ _ k x' _ _ hk hx1' (Blk.solid_of_live hl) l' hr hr' q1 q2 e
      · exact hs.inj _ _ x k _ _ hx1 hk l (Blk.solid_of_live hl) hr hr' q1 q2 e
      · exact hs.inj _ _ x x' _ _ hx1 hx1' l l' hr hr' q1 q2 e
    · rcases hset i x hx with ⟨rfl, rfl⟩ | ⟨hne, hx1⟩
      · exact hs.sep _ k y hk hl hr q o
      · exact hs.sep _ x y hx1 lx hr q o
  · refine ⟨Imm.le_refl I, fun _ _ _ h => .inl h, fun _ _ => rfl, fun i x hi hx hsx => ?_, ?_, ?_, hu.os, hu.tape, hu.output, by rw [hu.size]; omega, fun d hd hno => hu.old d fun e => hno (e ▸ ⟨b, k, _, hk, hl, hρ, rfl, hn⟩)⟩
    · rcases hset i x hx with ⟨rfl, rfl⟩ | ⟨_, hx1⟩
      · exact ⟨k, hk, Blk.solid_of_live hl⟩
      · exact ⟨x, hx1, hsx⟩
    · rintro d ⟨i, x, y, hx, hsx, hy, e⟩
      rcases hset i x hx with ⟨rfl, rfl⟩ | ⟨_, hx1⟩
      · exact .inl ⟨_, k, y, hk, Blk.solid_of_live hl, hy, e⟩
      · exact .inl ⟨i, x, y, hx1, hsx, hy, e⟩
    · rintro d ⟨i, x, y, hx, hsx, hy, e⟩
      rcases hset i x hx with ⟨rfl, rfl⟩ | ⟨_, hx1⟩
      · exact .inl ⟨_, k, y, hk, hl, hy, e⟩
      · exact .inl ⟨i, x, y, hx1, hsx, hy, e⟩

/-- A block is given up. -/
theorem Sim.kill (hs : Sim I ρ H w) (b : Nat) : Sim I ρ (H.set b .dead) w ∧ Ext H.length I ρ H w I ρ (H.set b .dead) w := by
  have hset : ∀ (i : Nat) (x : Blk), (H.set b Blk.dead)[i]? = some x → x = Blk.dead ∨ H[i]? = some x := fun i x h => by
    rw [List.getElem?_set] at h
    split at h
    · split at h
      · exact .inl (Option.some.inj h).symm
      · cases h
    · exact .inr h
  have hsol : ∀ (i : Nat) (x : Blk), (H.set b Blk.dead)[i]? = some x → x.solid = true → H[i]? = some x := fun i x h hx => by
    rcases hset i x h with rfl | h
    · simp [Blk.solid] at hx
    · exact h
  constructor
  · refine ⟨hs.imm, fun i hi => hs.tot i (by simpa using hi), fun i x hx => ?_, fun i x d z' n' hx hr => ?_, fun i i' x x' y y' hx hx' l l' hr hr' q1 q2 e => ?_, fun i x y hx lx hr q o => ?_⟩
    · have := hs.dom i x hx; exact ⟨by simpa using this.1, this.2⟩
    · rcases hset i x hx with rfl | h
      · trivial
      · exact hs.blk i x d z' n' h hr
    · exact hs.inj i i' x x' y y' (hsol _ _ hx l) (hsol _ _ hx' l') l l' hr hr' q1 q2 e
    · exact hs.sep i x y (hsol _ _ hx (Blk.solid_of_live lx)) lx hr q o
  · refine ⟨Imm.le_refl I, fun _ _ _ h => .inl h, fun _ _ => rfl, fun i x hi hx hsx => ⟨x, hsol _ _ hx hsx, hsx⟩, ?_, ?_, rfl, rfl, rfl, Nat.le_refl _, fun _ _ _ => rfl⟩
    · rintro d ⟨i, x, y, hx, hsx, hy, e⟩
      exact .inl ⟨i, x, y, hsol _ _ hx hsx, hsx, hy, e⟩
    · rintro d ⟨i, x, y, hx, hsx, hy, e⟩
      exact .inl ⟨i, x, y, hsol _ _ hx (Blk.solid_of_live hsx), hsx, hy, e⟩

/-- A block is given up; its place serves a new block. -/
theorem Sim.grow (hs : Sim I ρ H w) {b c z n : Nat} {k k' : Blk} (hk : H[b]? = some k) (hl : k.live = true) (hρ : ρ b = some (c, z, n)) (hn : 0 < n) (hu : Upd w w' c)
    (hk' : k'.live = true) (hb : BRel I (ρ.put H.length (c, z, n)) w' c z n k') :
    Sim I (ρ.put H.length (c, z, n)) (H.set b .dead ++ [k']) w' ∧ Ext H.length I ρ H w I (ρ.put H.length (c, z, n)) (H.set b .dead ++ [k']) w' := by
  have hlen : b < H.length := (List.getElem?_eq_some_iff.1 hk).1
  obtain ⟨s1, e1⟩ := hs.setB hk hl hρ hn hu (.inr rfl) (show BRel I ρ w' c z n .dead from trivial)
  have hmono : ∀ i y, ρ i = some y → ρ.put H.length (c, z, n) i = some y := hs.mono_put (c, z, n)
  have hold : ∀ i x, (H.set b .dead ++ [k'])[i]? = some x → i < H.length → (H.set b .dead)[i]? = some x := fun i x h hi => by rwa [List.getElem?_append_left (by simpa using hi)] at h
  have hnew : ∀ i x, (H.set b .dead ++ [k'])[i]? = some x → ¬ i < H.length → i = H.length ∧ x = k' := fun i x h hi => by
    rw [List.getElem?_append_right (by simp; omega)] at h
    have : i - (H.set b .dead).length = 0 := by
      rcases Nat.eq_zero_or_pos (i - (H.set b .dead).length) with e | e
      · exact e
      · rw [List.getElem?_eq_none (by simp at e ⊢; omega)] at h; cases h
    rw [this] at h
    simp at h this
    exact ⟨by omega, h.symm⟩
  have hcI : ∀ o, I c o = none := hs.sep b k _ hk hl hρ hn
  -- no other block that may be read has this place
  have hno : ∀ i x y, (H.set b .dead)[i]? = some x → x.solid = true → ρ i = some y → 0 < y.2.2 → y.1 ≠ c := fun i x y hx hsx hy q e => by
    have hi : H[i]? = some x ∧ i ≠ b := by
      rw [List.getElem?_set] at hx
      split at hx
      · rename_i e'; simp [hlen] at hx; subst hx; simp [Blk.solid] at hsx
      · rename_i e'; exact ⟨hx, fun h => e' h.symm⟩
    exact hi.2 (hs.inj i b x k y _ hi.1 hk hsx (Blk.solid_of_live hl) hy hρ q hn e)
  constructor
  · refine ⟨s1.imm, fun i hi => ?_, fun i x hx => ?_, fun i x d z' n' hx hr => ?_, fun i i' x x' y y' hx hx' l l' hr hr' q1 q2 e => ?_, fun i x y hx lx hr q o => ?_⟩
    · by_cases e : i = H.length
      · subst e; exact ⟨_, Ren.put_same _ _ _⟩
      · rw [Ren.put_ne _ _ e]; exact hs.tot i (by simp at hi; omega)
    · by_cases e : i = H.length
      · subst e; rw [Ren.put_same] at hx; cases hx; exact ⟨by simp, (s1.dom b _ hρ).2⟩
      · rw [Ren.put_ne _ _ e] at hx; have := s1.dom i x hx; exact ⟨by simp at this ⊢; omega, this.2⟩
    · by_cases hlt : i < H.length
      · rw [Ren.put_ne _ _ (by omega)] at hr
        exact (s1.blk i x d z' n' (hold i x hx hlt) hr).mono (Imm.le_refl I) hmono (fun _ => rfl)
      · obtain ⟨rfl, rfl⟩ := hnew i x hx hlt
        rw [Ren.put_same] at hr; cases hr; exact hb
    · by_cases h1 : i < H.length <;> by_cases h2 : i' < H.length
      · rw [Ren.put_ne _ _ (by omega)] at hr hr'
        exact s1.inj i i' x x' y y' (hold _ _ hx h1) (hold _ _ hx' h2) l l' hr hr' q1 q2 e
      · obtain ⟨rfl, rfl⟩ := hnew _ _ hx' h2
        rw [Ren.put_same] at hr'; cases hr'; rw [Ren.put_ne _ _ (by omega)] at hr
        exact absurd e (hno i x y (hold _ _ hx h1) l hr q1)
      · obtain ⟨rfl, rfl⟩ := hnew _ _ hx h1
        rw [Ren.put_same] at hr; cases hr; rw [Ren.put_ne _ _ (by omega)] at hr'
        exact absurd e.symm (hno i' x' y' (hold _ _ hx' h2) l' hr' q2)
      · rw [(hnew _ _ hx h1).1, (hnew _ _ hx' h2).1]
    · by_cases h1 : i < H.length
      · rw [Ren.put_ne _ _ (by omega)] at hr; exact s1.sep i x y (hold _ _ hx h1) lx hr q o
      · obtain ⟨rfl, rfl⟩ := hnew _ _ hx h1
        rw [Ren.put_same] at hr; cases hr; exact hcI o
  · refine ⟨Imm.le_refl I, fun _ _ _ h => .inl h, fun i hi => Ren.put_ne _ _ (by omega), fun i x hi hx hsx => e1.keepS i x hi (hold _ _ hx hi) hsx, ?_, ?_, hu.os, hu.tape, hu.output, by rw [hu.size]; omega, e1.kept⟩
    · rintro d ⟨i, x, y, hx, hsx, hy, e⟩
      by_cases h1 : i < H.length
      · rw [Ren.put_ne _ _ (by omega)] at hy
        exact e1.newS d ⟨i, x, y, hold _ _ hx h1, hsx, hy, e⟩
      · obtain ⟨rfl, rfl⟩ := hnew _ _ hx h1
        rw [Ren.put_same] at hy; cases hy; exact .inl ⟨b, k, _, hk, Blk.solid_of_live hl, hρ, e⟩
    · rintro d ⟨i, x, y, hx, hsx, hy, e⟩
      by_cases h1 : i < H.length
      · rw [Ren.put_ne _ _ (by omega)] at hy
        exact e1.newL d ⟨i, x, y, hold _ _ hx h1, hsx, hy, e⟩
      · obtain ⟨rfl, rfl⟩ := hnew _ _ hx h1
        rw [Ren.put_same] at hy; cases hy; exact .inl ⟨b, k, _, hk, hl, hρ, e⟩

/-- A block without rows: nobody's place. -/
theorem Sim.vacant (hs : Sim I ρ H w) (z : Nat) : Sim I (ρ.put H.length (0, z, 0)) (H ++ [.rows z true []]) w ∧ Ext H.length I ρ H w I (ρ.put H.length (0, z, 0)) (H ++ [.rows z true []]) w := by
  have hmono := hs.mono_put (0, z, 0)
  have hold : ∀ b k', (H ++ [Blk.rows z true []])[b]? = some k' → b < H.length → H[b]? = some k' := fun b k' h hb => by rwa [List.getElem?_append_left hb] at h
  have hlt : ∀ b x, ρ.put H.length (0, z, 0) b = some x → 0 < x.2.2 → b < H.length ∧ ρ b = some x := fun b x hx q => by
    by_cases e : b = H.length
    · subst e; rw [Ren.put_same] at hx; cases hx; exact absurd q (Nat.lt_irrefl 0)
    · rw [Ren.put_ne _ _ e] at hx; exact ⟨(hs.dom b x hx).1, hx⟩
  constructor
  · refine ⟨hs.imm, fun b hb => ?_, fun b x hx => ?_, fun b k' c z' n' hk hx => ?_, fun b b' k1 k2 x x' hk1 hk2 l1 l2 hx hx' q1 q2 e => ?_, fun b k' x hk hl hx q o => ?_⟩
    · by_cases e : b = H.length
      · subst e; exact ⟨_, Ren.put_same _ _ _⟩
      · rw [Ren.put_ne _ _ e]; exact hs.tot b (by simp at hb; omega)
    · by_cases e : b = H.length
      · subst e; rw [Ren.put_same] at hx; cases hx; exact ⟨by simp, fun q => absurd q (Nat.lt_irrefl 0)⟩
      · rw [Ren.put_ne _ _ e] at hx; have := hs.dom b x hx; exact ⟨by simp; omega, this.2⟩
    · by_cases e : b = H.length
      · subst e
        rw [Ren.put_same] at hx
        rw [List.getElem?_append_right (Nat.le_refl _), Nat.sub_self] at hk
        simp at hk hx
        obtain ⟨rfl, rfl, rfl⟩ := hx
        subst hk
        exact ⟨rfl, Nat.le_refl _, fun r hr => by simp at hr, fun o ho => by omega, fun i j r x v hr => by simp at hr⟩
      · rw [Ren.put_ne _ _ e] at hx
        exact (hs.blk b k' c z' n' (hold b k' hk (hs.dom b _ hx).1) hx).mono (Imm.le_refl I) hmono (fun _ => rfl)
    · obtain ⟨a1, a2⟩ := hlt b x hx q1
      obtain ⟨b1, b2⟩ := hlt b' x' hx' q2
      exact hs.inj b b' k1 k2 x x' (hold _ _ hk1 a1) (hold _ _ hk2 b1) l1 l2 a2 b2 q1 q2 e
    · obtain ⟨a1, a2⟩ := hlt b x hx q
      exact hs.sep b k' x (hold _ _ hk a1) hl a2 q o
  · refine ⟨Imm.le_refl I, fun _ _ _ h => .inl h, fun b hb => Ren.put_ne _ _ (by omega), fun b k' hb hk hl => ⟨k', hold _ _ hk hb, hl⟩, ?_, ?_, rfl, rfl, rfl, Nat.le_refl _, fun _ _ _ => rfl⟩
    all_goals
      rintro c ⟨b, k', x, hk, hl, hx, e, q⟩
      obtain ⟨a1, a2⟩ := hlt b x hx q
      exact .inl ⟨b, k', x, hold _ _ hk a1, hl, a2, e, q⟩

/-- The machine moves without the heap. -/
theorem Sim.drawn (hs : Sim I ρ H w) (hh : w'.heap = w.heap) (h1 : w'.os = w.os) (h2 : w'.tape = w.tape) (h3 : w'.output = w.output) : Sim I ρ H w' ∧ Ext H.length I ρ H w I ρ H w' := by
  have e : ∀ c : Nat, w'.heap[c]? = w.heap[c]? := fun c => by rw [hh]
  refine ⟨⟨hs.imm.keep fun c _ _ _ => e c, hs.tot, fun b x hx => by rw [hh]; exact hs.dom b x hx, fun b k c z n hk hr => (hs.blk b k c z n hk hr).mono (Imm.le_refl I) (fun _ _ h => h) (fun _ => e c), hs.inj, hs.sep⟩, ?_⟩
  exact ⟨Imm.le_refl I, fun _ _ _ h => .inl h, fun _ _ => rfl, fun b k _ h hs => ⟨k, h, hs⟩, fun _ h => .inl h, fun _ h => .inl h, h1, h2, h3, by rw [hh]; omega, fun c _ _ => e c⟩
end
end Go.Ev
