/- Freezing: a value whose memory is written no more stands for the same without its blocks. -/
import Derived.Test.YtkecfadnfnnfaaaEvM
set_option linter.unusedVariables false
set_option linter.unusedSimpArgs false
namespace Go.Ev
open Go.RowKit

theorem mapM'_spec {α β : Type} (f : α → Option β) : ∀ (l : List α) (m : List β), mapM' f l = some m → m.length = l.length ∧ ∀ (i : Nat) (a : α), l[i]? = some a → ∃ b, m[i]? = some b ∧ f a = some b
  | [], m, h => by simp [mapM'_nil] at h; subst h; exact ⟨rfl, fun i a hi => by simp at hi⟩
  | a :: l, m, h => by
    rw [mapM'_cons] at h
    unfold consO at h
    cases hf : f a with
    | none => simp [hf] at h
    | some b =>
      cases hm : mapM' f l with
      | none => simp [hf, hm] at h
      | some ms =>
        simp [hf, hm] at h
        subst h
        obtain ⟨h1, h2⟩ := mapM'_spec f l ms hm
        refine ⟨by simp [h1], fun i x hi => ?_⟩
        cases i with
        | zero => simp at hi; subst hi; exact ⟨b, rfl, hf⟩
        | succ i => simpa using h2 i x (by simpa using hi)

theorem cutRows_spec {α β : Type} {es : List α} {off len : Nat} {k : List α → Option β} {x : β} (h : cutRows es off len k = some x) : off + len ≤ es.length ∧ k ((es.drop off).take len) = some x := by
  unfold cutRows at h
  cases hb : Nat.ble (off + len) es.length with
  | false => simp [hb] at h
  | true => simp only [hb, fSp_eq] at h; exact ⟨Nat.le_of_ble_eq_true hb, h⟩
theorem cut_get {α : Type} {es : List α} {off len i : Nat} {r : α} (h : ((es.drop off).take len)[i]? = some r) : i < len ∧ es[off + i]? = some r := by
  rw [List.getElem?_take] at h
  split at h
  · rename_i hi; exact ⟨hi, by simpa [List.getElem?_drop] using h⟩
  · cases h
theorem cut_mem {α : Type} {es : List α} {off len : Nat} {r : α} (h : r ∈ (es.drop off).take len) : r ∈ es := List.mem_of_mem_drop (List.mem_of_mem_take h)

section
variable {I J : Imm} {ρ : Ren} {H : Heap} {w : World}

/-- Rows that are read out of a block as a list that is written no more: J holds their cells. -/
theorem cut_rel {b c z n off len cap : Nat} {a : Addr} {es : List (List AV)} (hle : off + len ≤ es.length) (hn : es.length ≤ n) (hz : ∀ r ∈ es, r.length = z ∧ ∀ x ∈ r, x.isCell = true)
    (hc : ∀ i j r x, es[i]? = some r → r[j]? = some x → ∃ v, J c (i * z + j) = some v ∧ VRel J ρ0 x v)
    (ha : 0 < len ∨ off = 0 → a = ⟨c, off * z, none⟩ ∧ off + cap ≤ n) (hl : len ≤ cap) : VRel J ρ0 (.lst ((es.drop off).take len)) (.slice (some a) len cap) := by
  have hlen : ((es.drop off).take len).length = len := by simp; omega
  rcases Nat.eq_zero_or_pos len with h0 | h0
  · subst h0
    rw [List.take_zero]
    exact .lst0 _ _ _
  · obtain ⟨rfl, _⟩ := ha (.inl h0)
    have hne : (es.drop off).take len ≠ [] := fun e => by rw [e] at hlen; simp at hlen; omega
    have hex : ∀ i j, ∃ v, ∀ r x, es[off + i]? = some r → r[j]? = some x → J c ((off + i) * z + j) = some v ∧ VRel J ρ0 x v := fun i j => by
      cases hr : es[off + i]? with
      | none => exact ⟨undef, fun r x h => by cases h⟩
      | some r =>
        cases hx : r[j]? with
        | none => exact ⟨undef, fun r' x h h' => by cases h; rw [hx] at h'; cases h'⟩
        | some x =>
          obtain ⟨v, hv⟩ := hc _ _ r x hr hx
          exact ⟨v, fun r' x' h h' => by cases h; rw [hx] at h'; cases h'; exact hv⟩
    have key := VRel.lst (I := J) ρ0 ((es.drop off).take len) c (off * z) cap z (fun i j => Classical.choose (hex i j)) hne (by omega) (fun r hr => (hz r (cut_mem hr)).1)
      (fun i j r x hr hx => by
        obtain ⟨hi, hr'⟩ := cut_get hr
        have := (Classical.choose_spec (hex i j) r x hr' hx).1
        rwa [show off * z + (i * z + j) = (off + i) * z + j by rw [Nat.add_mul]; omega])
      (fun i j r x hr hx => by
        obtain ⟨hi, hr'⟩ := cut_get hr
        exact (Classical.choose_spec (hex i j) r x hr' hx).2)
      (fun r hr => (hz r (cut_mem hr)).2)
    rwa [hlen] at key

/-- What J must hold for a block to be read as frozen. -/
def Holds (J : Imm) (w : World) (H : Heap) (ρ : Ren) (b : Nat) : Prop := ∀ z es x, H[b]? = some (.rows z true es) → ρ b = some x → 0 < x.2.2 → ∀ o u, w.cell? ⟨x.1, o, none⟩ = some u → J x.1 o = some u

/-- A block's rows, its cells held by J. -/
theorem rows_held (hs : Sim I ρ H w) (hI : I.le J) {b c z n z' : Nat} {es : List (List AV)} (hH : Holds J w H ρ b) (hρ : ρ b = some (c, z, n))
    (hb : H[b]? = some (.rows z' true es) ∨ H[b]? = some (.ro z' es)) :
    es.length ≤ n ∧ (∀ r ∈ es, r.length = z ∧ ∀ x ∈ r, x.isCell = true) ∧ ∀ i j r x, es[i]? = some r → r[j]? = some x → ∃ v, J c (i * z + j) = some v ∧ VRel J ρ0 x v := by
  rcases hb with hb | hb
  · obtain ⟨rfl, h2, h3, h4, h5⟩ := hs.blk b _ c z n hb hρ
    refine ⟨h2, h3, fun i j r x hr hx => ?_⟩
    have hi : i < es.length := (List.getElem?_eq_some_iff.1 hr).1
    have hj : j < z' := by have := (List.getElem?_eq_some_iff.1 hx).1; rw [(h3 r (List.mem_of_getElem? hr)).1] at this; exact this
    have hlt : i * z' + j < n * z' := by
      have : (i + 1) * z' ≤ n * z' := Nat.mul_le_mul_right _ (by omega)
      rw [Nat.add_mul] at this; omega
    obtain ⟨v, hv⟩ := Option.isSome_iff_exists.1 (h4 _ hlt).1
    exact ⟨v, hH _ _ _ hb hρ (show 0 < n by omega) _ _ hv, (h5 i j r x v hr hx hv).imm hI⟩
  · obtain ⟨rfl, h2, h3, h4⟩ := hs.blk b _ c z n hb hρ
    refine ⟨h2, h3, fun i j r x hr hx => ?_⟩
    obtain ⟨v, hv, hrel⟩ := h4 i j r x hr hx
    exact ⟨v, hI _ _ _ hv, hrel.imm hI⟩

theorem freezeN_rel (hs : Sim I ρ H w) (hI : I.le J) : ∀ (n : Nat) (v x : AV) (cv : Value), freezeN H n v = some x → VRel I ρ v cv → (∀ b ∈ frozenIn n v, Holds J w H ρ b) → VRel J ρ0 x cv
  | 0, v, x, cv, h, _, _ => by simp [freezeN] at h
  | n + 1, v, x, cv, h, hv, hb => by
    cases hv with
    | undef => simp [freezeN] at h
    | bool => simp [freezeN] at h; subst h; exact .bool _ _
    | int => simp [freezeN] at h; subst h; exact .int _ _ _
    | str _ s bs hh => simp [freezeN] at h; subst h; exact .str _ _ _ hh
    | nilp => simp [freezeN] at h; subst h; exact .nilp _
    | ptr => simp [freezeN] at h
    | iptr _ cs g off vs h1 h2 => simp [freezeN] at h; subst h; exact .iptr _ _ _ _ vs (fun j x hx => hI _ _ _ (h1 j x hx)) (fun j x hx => (h2 j x hx).imm hI)
    | nils => simp [freezeN] at h; subst h; exact .lst0 _ _ _
    | emp => simp [freezeN] at h; subst h; exact .lst0 _ _ _
    | lst0 => simp [freezeN] at h; subst h; exact .lst0 _ _ _
    | lst _ es g off cap z vs hne hl hz h1 h2 hc =>
      simp [freezeN] at h; subst h
      exact .lst _ _ _ _ _ z vs hne hl hz (fun i j r x hr hx => hI _ _ _ (h1 i j r x hr hx)) (fun i j r x hr hx => (h2 i j r x hr hx).imm hI) hc
    | sl _ b off len a cap c z m hρ ha hl =>
      have hbb : Holds J w H ρ b := hb b (by simp [frozenIn])
      simp only [freezeN] at h
      cases hk : H[b]? with
      | none => simp [hk] at h
      | some k =>
        cases k with
        | rows z' p es =>
          cases p with
          | false => simp [hk] at h
          | true =>
            simp only [hk] at h
            obtain ⟨hle, hx⟩ := cutRows_spec h
            cases hx
            obtain ⟨r1, r2, r3⟩ := rows_held hs hI hbb hρ (.inl hk)
            exact cut_rel (b := b) hle r1 r2 r3 ha hl
        | ro z' es =>
          simp only [hk] at h
          obtain ⟨hle, hx⟩ := cutRows_spec h
          cases hx
          obtain ⟨r1, r2, r3⟩ := rows_held hs hI hbb hρ (.inr hk)
          exact cut_rel (b := b) hle r1 r2 r3 ha hl
        | map => simp [hk] at h
        | iter => simp [hk] at h
        | dead => simp [hk] at h
    | sle _ b c z m a hρ =>
      simp only [freezeN] at h
      have key : ∀ es : List (List AV), cutRows es 0 0 (fun es => some (AV.lst es)) = some x → VRel J ρ0 x (.slice a 0 0) := fun es h => by
        obtain ⟨hle, hx⟩ := cutRows_spec h
        cases hx
        rw [List.take_zero]
        exact .lst0 _ _ _
      cases hk : H[b]? with
      | none => simp [hk] at h
      | some k =>
        cases k with
        | rows z' p es =>
          cases p with
          | false => simp [hk] at h
          | true => simp only [hk] at h; exact key _ h
        | ro z' es => simp only [hk] at h; exact key _ h
        | map => simp [hk] at h
        | iter => simp [hk] at h
        | dead => simp [hk] at h
    | nilm => simp [freezeN] at h; subst h; exact .nilm _
    | map => simp [freezeN] at h
    | nilf => simp [freezeN] at h; subst h; exact .nilf _
    | fn _ f caps vs hl hh =>
      cases caps with
      | nil => simp [freezeN] at h; subst h; exact .fn _ _ _ _ hl (fun j x v hx => by simp at hx)
      | cons => simp [freezeN] at h
    | nili => simp [freezeN] at h; subst h; exact .nili _
    | iface _ t v cv' hh =>
      simp only [freezeN] at h
      cases hf : freezeN H n v with
      | none => simp [hf] at h
      | some y =>
        simp [hf] at h; subst h
        exact .iface _ _ _ _ (freezeN_rel hs hI n v y cv' hf hh.any (fun b hb' => hb b (by simpa [frozenIn] using hb')))
    | agg _ cs vs hl hh =>
      simp only [freezeN] at h
      cases hf : mapM' (freezeN H n) cs with
      | none => simp [hf] at h
      | some ys =>
        simp [hf] at h; subst h
        obtain ⟨h1, h2⟩ := mapM'_spec _ _ _ hf
        refine .agg _ _ _ (by rw [h1]; exact hl) (fun j y v hy hvv => ?_)
        have hj : j < cs.length := by rw [← h1]; exact (List.getElem?_eq_some_iff.1 hy).1
        obtain ⟨y', hy', hfy⟩ := h2 j cs[j] (List.getElem?_eq_getElem hj)
        rw [hy] at hy'; cases hy'
        exact freezeN_rel hs hI n cs[j] y v hfy (hh j _ v (List.getElem?_eq_getElem hj) hvv) (fun b hb' => hb b (by
          simp only [frozenIn, List.mem_flatMap]
          exact ⟨cs[j], List.getElem_mem hj, hb'⟩))
    | tup => simp [freezeN] at h

/-- What shutting leaves. -/
theorem shut_spec {b : Nat} {H' : Heap} (h : shut H b = some H') : H'.length = H.length ∧ ∀ i k', H'[i]? = some k' →
    (∃ z es, i = b ∧ k' = .ro z es ∧ (H[i]? = some (.rows z true es) ∨ H[i]? = some (.ro z es))) ∨ (i ≠ b ∧ H[i]? = some k') := by
  unfold shut at h
  cases hk : H[b]? with
  | none => simp [hk] at h
  | some k =>
    have hlen : b < H.length := (List.getElem?_eq_some_iff.1 hk).1
    cases k with
    | rows z p es =>
      cases p with
      | false => simp [hk] at h
      | true =>
        simp only [hk, fSp_eq, Option.some.injEq] at h
        subst h
        refine ⟨by simp, fun i k' hi => ?_⟩
        rw [List.getElem?_set] at hi
        split at hi
        · rename_i e; subst e; simp [hlen] at hi; exact .inl ⟨z, es, rfl, hi.symm, .inl hk⟩
        · rename_i e; exact .inr ⟨fun e' => e e'.symm, hi⟩
    | ro z es =>
      simp only [hk, Option.some.injEq] at h
      subst h
      refine ⟨rfl, fun i k' hi => ?_⟩
      by_cases e : i = b
      · subst e; rw [hk] at hi; cases hi; exact .inl ⟨z, es, rfl, rfl, .inr hk⟩
      · exact .inr ⟨e, hi⟩
    | map => simp [hk] at h
    | iter => simp [hk] at h
    | dead => simp [hk] at h
theorem shutAll_spec : ∀ (l : List Nat) (H H' : Heap), shutAll l H = some H' → H'.length = H.length ∧ ∀ i k', H'[i]? = some k' →
    (∃ z es, i ∈ l ∧ k' = .ro z es ∧ (H[i]? = some (.rows z true es) ∨ H[i]? = some (.ro z es))) ∨ (i ∉ l ∧ H[i]? = some k')
  | [], H, H', h => by simp [shutAll] at h; subst h; exact ⟨rfl, fun i k' hi => .inr ⟨by simp, hi⟩⟩
  | b :: l, H, H', h => by
    simp only [shutAll] at h
    cases h1 : shut H b with
    | none => simp [h1] at h
    | some H1 =>
      simp only [h1] at h
      obtain ⟨a1, a2⟩ := shut_spec h1
      obtain ⟨b1, b2⟩ := shutAll_spec l H1 H' h
      refine ⟨b1.trans a1, fun i k' hi => ?_⟩
      rcases b2 i k' hi with ⟨z, es, hm, rfl, hH1⟩ | ⟨hm, hH1⟩
      · refine .inl ⟨z, es, by simp [hm], rfl, ?_⟩
        rcases hH1 with hH1 | hH1 <;> rcases a2 i _ hH1 with ⟨z', es', rfl, e, hH⟩ | ⟨_, hH⟩
        · cases e
        · exact .inl hH
        · cases e; exact hH
        · exact .inr hH
      · rcases a2 i k' hH1 with ⟨z, es, rfl, rfl, hH⟩ | ⟨hne, hH⟩
        · exact .inl ⟨z, es, by simp, rfl, hH⟩
        · exact .inr ⟨by simp [hne, hm], hH⟩

/-- Blocks are frozen, and the machine has gone on without touching what was there. -/
theorem Sim.frozen {w' : World} {l : List Nat} {H' : Heap} (hs : Sim I ρ H w) (h : shutAll l H = some H') (hI : I.le J) (hJ : Agrees J w') (hb : Below w.heap.size w w')
    (hJ1 : ∀ b ∈ l, Holds J w H ρ b) (hJ2 : ∀ c o v, J c o = some v → I c o = some v ∨ (∃ b ∈ l, ∃ k x, H[b]? = some k ∧ k.live = true ∧ ρ b = some x ∧ x.1 = c ∧ 0 < x.2.2) ∨ w.heap.size ≤ c) :
    Sim J ρ H' w' ∧ Ext H.length I ρ H w J ρ H' w' := by
  obtain ⟨hlen, hspec⟩ := shutAll_spec l H H' h
  have hold : ∀ b x, ρ b = some x → 0 < x.2.2 → w'.heap[x.1]? = w.heap[x.1]? := fun b x hx q => hb.block _ ((hs.dom b x hx).2 q)
  -- the old block behind a new one
  have hback : ∀ (i : Nat) (k' : Blk), H'[i]? = some k' → k'.solid = true → ∃ k, H[i]? = some k ∧ k.solid = true := fun i k' hi hk => by
    rcases hspec i k' hi with ⟨z, es, _, _, hH | hH⟩ | ⟨_, hH⟩
    · exact ⟨_, hH, rfl⟩
    · exact ⟨_, hH, rfl⟩
    · exact ⟨_, hH, hk⟩
  have hlive : ∀ (i : Nat) (k' : Blk), H'[i]? = some k' → k'.live = true → i ∉ l ∧ H[i]? = some k' := fun i k' hi hk => by
    rcases hspec i k' hi with ⟨z, es, _, rfl, _⟩ | hH
    · simp [Blk.live] at hk
    · exact hH
  constructor
  · refine ⟨hJ, fun b hb' => hs.tot b (by omega), fun b x hx => ?_, fun i k' c z n hi hx => ?_, fun i i' k k' x x' hi hi' s1 s2 hx hx' q1 q2 e => ?_, fun i k' x hi hk hx q o => ?_⟩
    · have := hs.dom b x hx; exact ⟨by omega, fun q => Nat.lt_of_lt_of_le (this.2 q) hb.size⟩
    · rcases hspec i k' hi with ⟨z', es, hm, rfl, hH⟩ | ⟨hm, hH⟩
      · obtain ⟨r1, r2, r3⟩ := rows_held hs hI (hJ1 i hm) hx hH
        have hz : z' = z := by
          rcases hH with hH | hH
          · exact (hs.blk i _ c z n hH hx).1
          · exact (hs.blk i _ c z n hH hx).1
        exact ⟨hz, r1, r2, r3⟩
      · exact (hs.blk i k' c z n hH hx).mono hI (fun _ _ h => h) (hold i _ hx)
    · obtain ⟨k1, h1, t1⟩ := hback i k hi s1
      obtain ⟨k2, h2, t2⟩ := hback i' k' hi' s2
      exact hs.inj i i' k1 k2 x x' h1 h2 t1 t2 hx hx' q1 q2 e
    · obtain ⟨hm, hH⟩ := hlive i k' hi hk
      cases hv : J x.1 o with
      | none => rfl
      | some v =>
        rcases hJ2 _ _ _ hv with h1 | ⟨b, hbl, k, y, hk1, hl1, hy, e, q'⟩ | h1
        · rw [hs.sep i k' x hH hk hx q o] at h1; cases h1
        · have := hs.inj b i k k' y x hk1 hH (Blk.solid_of_live hl1) (Blk.solid_of_live hk) hy hx q' q e
          subst this; exact absurd hbl hm
        · have := (hs.dom i x hx).2 q; omega
  · refine ⟨hI, fun c o v hv => ?_, fun _ _ => rfl, fun b k hb' hk hsk => hback b k hk hsk, ?_, ?_, hb.os, hb.tape, hb.output, hb.size, fun c hc _ => hb.block c hc⟩
    · rcases hJ2 c o v hv with h1 | ⟨b, hbl, k, y, hk1, hl1, hy, e⟩ | h1
      · exact .inl h1
      · exact .inr (.inl ⟨b, k, y, hk1, hl1, hy, e⟩)
      · exact .inr (.inr h1)
    · rintro c ⟨i, k', x, hi, hk, hx, e⟩
      obtain ⟨k1, h1, t1⟩ := hback i k' hi hk
      exact .inl ⟨i, k1, x, h1, t1, hx, e⟩
    · rintro c ⟨i, k', x, hi, hk, hx, e⟩
      exact .inl ⟨i, k', x, (hlive i k' hi hk).2, hk, hx, e⟩

open Classical in
/-- The cells of some blocks, from now on written no more. -/
noncomputable def Imm.add (I : Imm) (w : World) (S : Nat → Prop) : Imm := fun c o => if S c then w.cell? ⟨c, o, none⟩ else I c o
theorem Imm.add_le (hs : Agrees I w) (S : Nat → Prop) : I.le (I.add w S) := fun c o v hv => by
  unfold Imm.add
  split
  · exact hs.at_ c o v hv
  · exact hv
theorem Imm.add_agrees (hs : Agrees I w) (S : Nat → Prop) : Agrees (I.add w S) w := ⟨fun c o v hv => by
  unfold Imm.add at hv
  split at hv
  · exact hv
  · exact hs.at_ c o v hv⟩
def liveOf (H : Heap) (ρ : Ren) (l : List Nat) (c : Nat) : Prop := ∃ b ∈ l, ∃ k x, H[b]? = some k ∧ k.live = true ∧ ρ b = some x ∧ x.1 = c ∧ 0 < x.2.2
theorem add_holds (H : Heap) (ρ : Ren) (l : List Nat) : ∀ b ∈ l, Holds (I.add w (liveOf H ρ l)) w H ρ b := fun b hb z es x hk hx q o u hu => by
  unfold Imm.add
  rw [if_pos ⟨b, hb, _, x, hk, rfl, hx, rfl, q⟩]
  exact hu
theorem add_new (H : Heap) (ρ : Ren) (l : List Nat) : ∀ c o v, (I.add w (liveOf H ρ l)) c o = some v → I c o = some v ∨ (∃ b ∈ l, ∃ k x, H[b]? = some k ∧ k.live = true ∧ ρ b = some x ∧ x.1 = c ∧ 0 < x.2.2) ∨ w.heap.size ≤ c :=
  fun c o v hv => by
  unfold Imm.add at hv
  split at hv
  · rename_i h; exact .inr (.inl h)
  · exact .inl hv

theorem freezeS_rel (hs : Sim I ρ H w) {v x : AV} {H' : Heap} (h : freezeS H v = some (x, H')) {cv : Value} (hv : VRel I ρ v cv) :
    ∃ J, Sim J ρ H' w ∧ Ext H.length I ρ H w J ρ H' w ∧ VRel J ρ0 x cv ∧ H'.length = H.length := by
  unfold freezeS at h
  cases hf : freeze H v with
  | none => simp [hf] at h
  | some y =>
    simp only [hf] at h
    cases hsh : shutAll (frozenIn 12 v) H with
    | none => simp [hsh] at h
    | some H1 =>
      simp only [hsh, Option.some.injEq, Prod.mk.injEq] at h
      obtain ⟨rfl, rfl⟩ := h
      have hI := Imm.add_le hs.imm (liveOf H ρ (frozenIn 12 v))
      obtain ⟨s1, e1⟩ := hs.frozen hsh hI (Imm.add_agrees hs.imm _) (Below.refl _ _) (add_holds H ρ _) (add_new H ρ _)
      exact ⟨_, s1, e1, freezeN_rel hs hI 12 v y cv hf hv (add_holds H ρ _), (shutAll_spec _ _ _ hsh).1⟩

/-- A result that shares no memory stands for the same anywhere. -/
theorem flat_rel {ρ' : Ren} : ∀ (n : Nat) (v : AV) (cv : Value), flatN n v = true → VRel I ρ v cv → VRel J ρ' v cv
  | 0, v, cv, h, _ => by simp [flatN] at h
  | n + 1, v, cv, h, hv => by
    cases hv with
    | bool => exact .bool _ _
    | int => exact .int _ _ _
    | str _ s bs hh => exact .str _ _ _ hh
    | nilp => exact .nilp _
    | nils => exact .nils _
    | emp => exact .emp _ _
    | nilm => exact .nilm _
    | nilf => exact .nilf _
    | nili => exact .nili _
    | fn _ f caps vs hl hh =>
      cases caps with
      | nil => exact .fn _ _ _ _ hl (fun j x v hx => by simp at hx)
      | cons => simp [flatN] at h
    | iface _ t v cv' hh => exact .iface _ _ _ _ (flat_rel n v cv' (by simpa [flatN] using h) hh.any)
    | agg _ cs vs hl hh =>
      refine .agg _ _ _ hl (fun j x v hx hvv => flat_rel n x v ?_ (hh j x v hx hvv))
      simp only [flatN, List.all_eq_true] at h
      exact h x (List.mem_of_getElem? hx)
    | tup _ cs vs hl hh =>
      refine .tup _ _ _ hl (fun j x v hx hvv => flat_rel n x v ?_ (hh j x v hx hvv))
      simp only [flatN, List.all_eq_true] at h
      exact h x (List.mem_of_getElem? hx)
    | _ => simp [flatN] at h
end
end Go.Ev
