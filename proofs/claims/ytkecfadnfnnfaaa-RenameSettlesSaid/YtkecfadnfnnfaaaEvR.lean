/- What it means that abstract values, blocks and states stand for the machine's; that this bears growth and renumbering. -/
import Derived.Test.YtkecfadnfnnfaaaEvB
import Derived.Below
import Derived.Deep.AppendSrc
import Derived.Deep.Draws
import Derived.Laws.MakeOwn
import Derived.Laws.CopyOwn
import Derived.OrdersHeld
set_option linter.unusedVariables false
set_option linter.unusedSimpArgs false
namespace Go.Ev

/-- Cells that are never written again, with what they hold. -/
abbrev Imm := Nat → Nat → Option Value
/-- An abstract block's place: the machine's block, the cells of a row, the rows that have room. -/
abbrev Ren := Nat → Option (Nat × Nat × Nat)
def ρ0 : Ren := fun _ => none
def Imm.le (I J : Imm) : Prop := ∀ b o v, I b o = some v → J b o = some v
theorem Imm.le_refl (I : Imm) : I.le I := fun _ _ _ h => h
theorem Imm.le_trans {I J K : Imm} (h : I.le J) (k : J.le K) : I.le K := fun b o v x => k b o v (h b o v x)

inductive VRel (I : Imm) : Ren → AV → Value → Prop where
  | undef (ρ : Ren) (v : Value) : VRel I ρ .undef v
  | bool (ρ : Ren) (b : Bool) : VRel I ρ (.bool b) (.bool b)
  | int (ρ : Ren) (k : IntKind) (n : Int) : VRel I ρ (.int k n) (.int k n)
  | str (ρ : Ren) (s : List UInt8) (bs : ByteArray) (h : bs.data.toList = s) : VRel I ρ (.str s) (.string bs)
  | nilp (ρ : Ren) : VRel I ρ .nilp (.pointer none)
  | ptr (ρ : Ren) (b i o c z n : Nat) (h : ρ b = some (c, z, n)) : VRel I ρ (.ptr b i o) (.pointer (some ⟨c, i * z + o, none⟩))
  | iptr (ρ : Ren) (cs : List AV) (g off : Nat) (vs : Nat → Value) (h : ∀ (j : Nat) (x : AV), cs[j]? = some x → I g (off + j) = some (vs j))
      (hv : ∀ (j : Nat) (x : AV), cs[j]? = some x → VRel I ρ0 x (vs j)) : VRel I ρ (.iptr cs) (.pointer (some ⟨g, off, none⟩))
  | nils (ρ : Ren) : VRel I ρ .nils (.slice none 0 0)
  | emp (ρ : Ren) (a : Option Addr) : VRel I ρ .emp (.slice a 0 0)
  | lst0 (ρ : Ren) (a : Option Addr) (cap : Nat) : VRel I ρ (.lst []) (.slice a 0 cap)
  | lst (ρ : Ren) (es : List (List AV)) (g off cap z : Nat) (vs : Nat → Nat → Value) (hne : es ≠ []) (hl : es.length ≤ cap) (hz : ∀ r ∈ es, r.length = z)
      (h : ∀ (i j : Nat) (r : List AV) (x : AV), es[i]? = some r → r[j]? = some x → I g (off + (i * z + j)) = some (vs i j))
      (hv : ∀ (i j : Nat) (r : List AV) (x : AV), es[i]? = some r → r[j]? = some x → VRel I ρ0 x (vs i j)) (hc : ∀ r ∈ es, ∀ x ∈ r, x.isCell = true) : VRel I ρ (.lst es) (.slice (some ⟨g, off, none⟩) es.length cap)
  | sl (ρ : Ren) (b off len : Nat) (a : Addr) (cap c z n : Nat) (h : ρ b = some (c, z, n)) (ha : 0 < len ∨ off = 0 → a = ⟨c, off * z, none⟩ ∧ off + cap ≤ n) (hl : len ≤ cap) :
      VRel I ρ (.sl b off len) (.slice (some a) len cap)
  | sle (ρ : Ren) (b c z n : Nat) (a : Option Addr) (h : ρ b = some (c, z, n)) : VRel I ρ (.sl b 0 0) (.slice a 0 0)
  | nilm (ρ : Ren) : VRel I ρ .nilm (.map none)
  | map (ρ : Ren) (b c z n : Nat) (h : ρ b = some (c, z, n)) : VRel I ρ (.map b) (.map (some c))
  | nilf (ρ : Ren) : VRel I ρ .nilf .nilFunc
  | fn (ρ : Ren) (f : FuncId) (caps : List AV) (vs : Array Value) (hl : caps.length = vs.size) (hv : ∀ (j : Nat) (x : AV) (v : Value), caps[j]? = some x → vs[j]? = some v → VRel I ρ x v) :
      VRel I ρ (.fn f caps) (.func (.func f) #[] vs)
  | nili (ρ : Ren) : VRel I ρ .nili .nilIface
  | iface (ρ : Ren) (t : TypeId) (v : AV) (cv : Value) (h : VRel I ρ0 v cv) : VRel I ρ (.iface t v) (.iface t cv)
  | agg (ρ : Ren) (cs : List AV) (vs : Array Value) (hl : cs.length = vs.size) (hv : ∀ (j : Nat) (x : AV) (v : Value), cs[j]? = some x → vs[j]? = some v → VRel I ρ x v) : VRel I ρ (.agg cs) (.agg vs)
  | tup (ρ : Ren) (cs : List AV) (vs : Array Value) (hl : cs.length = vs.size) (hv : ∀ (j : Nat) (x : AV) (v : Value), cs[j]? = some x → vs[j]? = some v → VRel I ρ x v) : VRel I ρ (.tup cs) (.tuple vs)

theorem VRel.mono {I J : Imm} {ρ ρ' : Ren} {v : AV} {cv : Value} (h : VRel I ρ v cv) (hI : I.le J) (hρ : ∀ b x, ρ b = some x → ρ' b = some x) : VRel J ρ' v cv := by
  induction h generalizing ρ' with
  | undef => exact .undef _ _
  | bool => exact .bool _ _
  | int => exact .int _ _ _
  | str _ s bs h => exact .str _ _ _ h
  | nilp => exact .nilp _
  | ptr _ b i o c z n h => exact .ptr _ _ _ _ _ _ _ (hρ _ _ h)
  | iptr _ cs g off vs h hv ih => exact .iptr _ _ _ _ vs (fun j x hx => hI _ _ _ (h j x hx)) (fun j x hx => ih j x hx (fun _ _ hb => hb))
  | nils => exact .nils _
  | emp => exact .emp _ _
  | lst0 => exact .lst0 _ _ _
  | lst _ es g off cap z vs hne hl hz h hv hc ih =>
    exact .lst _ _ _ _ _ z vs hne hl hz (fun i j r x hr hx => hI _ _ _ (h i j r x hr hx)) (fun i j r x hr hx => ih i j r x hr hx (fun _ _ hb => hb)) hc
  | sl _ b off len a cap c z n h ha hl => exact .sl _ _ _ _ _ _ _ _ _ (hρ _ _ h) ha hl
  | sle _ b c z n a h => exact .sle _ _ _ _ _ _ (hρ _ _ h)
  | nilm => exact .nilm _
  | map _ b c z n h => exact .map _ _ _ _ _ (hρ _ _ h)
  | nilf => exact .nilf _
  | fn _ f caps vs hl hv ih => exact .fn _ _ _ _ hl (fun j x v hx hv' => ih j x v hx hv' hρ)
  | nili => exact .nili _
  | iface _ t v cv h ih => exact .iface _ _ _ _ (ih (fun _ _ hb => hb))
  | agg _ cs vs hl hv ih => exact .agg _ _ _ hl (fun j x v hx hv' => ih j x v hx hv' hρ)
  | tup _ cs vs hl hv ih => exact .tup _ _ _ hl (fun j x v hx hv' => ih j x v hx hv' hρ)

theorem VRel.imm {I J : Imm} {ρ : Ren} {v : AV} {cv : Value} (h : VRel I ρ v cv) (hI : I.le J) : VRel J ρ v cv := h.mono hI (fun _ _ h => h)
/-- What holds no reference stands for the same by whatever places. -/
theorem VRel.any {I : Imm} {ρ : Ren} {v : AV} {cv : Value} (h : VRel I ρ0 v cv) : VRel I ρ v cv := h.mono (Imm.le_refl I) (fun _ _ h => by cases h)

theorem VRel.oneCell {I : Imm} {ρ : Ren} {v : AV} {cv : Value} (h : VRel I ρ v cv) (hc : v.isCell = true) : cv.oneCell' = true := by
  cases h <;> first | rfl | (simp [AV.isCell] at hc)
/-- A value's cells stand for its cells. -/
theorem VRel.cells {I : Imm} {ρ : Ren} {v : AV} {cv : Value} (h : VRel I ρ v cv) (hc : v.cells.all AV.isCell = true) :
    v.cells.length = cv.cells.size ∧ (∀ (j : Nat) (x : AV) (u : Value), v.cells[j]? = some x → cv.cells[j]? = some u → VRel I ρ x u) ∧ ∀ u ∈ cv.cells, u.oneCell' = true := by
  have key : ∀ (cs : List AV) (vs : Array Value), cs.length = vs.size → (∀ (j : Nat) (x : AV) (v : Value), cs[j]? = some x → vs[j]? = some v → VRel I ρ x v) → cs.all AV.isCell = true → ∀ u ∈ vs, u.oneCell' = true := by
    intro cs vs hl hv hc u hu
    obtain ⟨j, hj, rfl⟩ := Array.mem_iff_getElem.1 hu
    have hj' : j < cs.length := by omega
    exact (hv j cs[j] vs[j] (List.getElem?_eq_getElem hj') (Array.getElem?_eq_getElem hj)).oneCell (List.all_eq_true.1 hc _ (List.getElem_mem hj'))
  have single : ∀ (x : AV) (u : Value), x.cells = [x] → u.cells = #[u] → VRel I ρ x u → x.cells.all AV.isCell = true →
      x.cells.length = u.cells.size ∧ (∀ (j : Nat) (y : AV) (w : Value), x.cells[j]? = some y → u.cells[j]? = some w → VRel I ρ y w) ∧ ∀ w ∈ u.cells, w.oneCell' = true := by
    intro x u hx hu hr hc
    rw [hx] at hc ⊢
    rw [hu]
    refine ⟨rfl, ?_, ?_⟩
    · intro j y w hy hw
      cases j with
      | zero => simp at hy hw; subst hy; subst hw; exact hr
      | succ j => simp at hy
    · intro w hw
      simp at hw
      subst hw
      exact hr.oneCell (by simpa using hc)
  cases h with
  | agg _ cs vs hl hv => exact ⟨hl, hv, key cs vs hl hv hc⟩
  | undef => simp [AV.cells, AV.isCell] at hc
  | tup => simp [AV.cells, AV.isCell] at hc
  | _ => exact single _ _ rfl rfl (by constructor <;> assumption) hc

/-! ### Blocks and states -/
def BRel (I : Imm) (ρ : Ren) (w : World) (c z n : Nat) : Blk → Prop
  | .rows z' p es => z' = z ∧ es.length ≤ n ∧ (∀ r ∈ es, r.length = z ∧ ∀ x ∈ r, x.isCell = true) ∧
      (∀ o, o < n * z → (w.cell? ⟨c, o, none⟩).isSome = true ∧ w.frozen? ⟨c, o, none⟩ = false) ∧
      ∀ (i j : Nat) (r : List AV) (x : AV) (v : Value), es[i]? = some r → r[j]? = some x → w.cell? ⟨c, i * z + j, none⟩ = some v → VRel I (bif p then ρ0 else ρ) x v
  | .ro z' es => z' = z ∧ es.length ≤ n ∧ (∀ r ∈ es, r.length = z ∧ ∀ x ∈ r, x.isCell = true) ∧
      ∀ (i j : Nat) (r : List AV) (x : AV), es[i]? = some r → r[j]? = some x → ∃ v, I c (i * z + j) = some v ∧ VRel I ρ0 x v
  | .map es => 0 < n ∧ ∃ ents clock, w.heap[c]? = some (.map ents clock) ∧ es.length = ents.size ∧
      ∀ (j : Nat) (x : AV × AV) (e : MapEntry), es[j]? = some x → ents[j]? = some e → VRel I ρ0 x.1 e.key ∧ VRel I ρ0 x.2 e.val
  | .iter _ _ => True
  | .dead => True
structure Agrees (I : Imm) (w : World) : Prop where
  at_ : ∀ b o v, I b o = some v → w.cell? ⟨b, o, none⟩ = some v
/-- The machine's block c is the place of a block that may be written (read). -/
def LiveIm (ρ : Ren) (H : Heap) (c : Nat) : Prop := ∃ b k x, H[b]? = some k ∧ k.live = true ∧ ρ b = some x ∧ x.1 = c ∧ 0 < x.2.2
def SolidIm (ρ : Ren) (H : Heap) (c : Nat) : Prop := ∃ b k x, H[b]? = some k ∧ k.solid = true ∧ ρ b = some x ∧ x.1 = c ∧ 0 < x.2.2
theorem Blk.solid_of_live {k : Blk} (h : k.live = true) : k.solid = true := by cases k <;> simp_all [Blk.live, Blk.solid]
theorem LiveIm.solid {ρ : Ren} {H : Heap} {c : Nat} (h : LiveIm ρ H c) : SolidIm ρ H c := let ⟨b, k, x, h1, h2, h3⟩ := h; ⟨b, k, x, h1, Blk.solid_of_live h2, h3⟩
structure Sim (I : Imm) (ρ : Ren) (H : Heap) (w : World) : Prop where
  imm : Agrees I w
  tot : ∀ b, b < H.length → ∃ x, ρ b = some x
  dom : ∀ b x, ρ b = some x → b < H.length ∧ (0 < x.2.2 → x.1 < w.heap.size)
  blk : ∀ b k c z n, H[b]? = some k → ρ b = some (c, z, n) → BRel I ρ w c z n k
  inj : ∀ b b' k k' x x', H[b]? = some k → H[b']? = some k' → k.solid = true → k'.solid = true → ρ b = some x → ρ b' = some x' → 0 < x.2.2 → 0 < x'.2.2 → x.1 = x'.1 → b = b'
  sep : ∀ b k x, H[b]? = some k → k.live = true → ρ b = some x → 0 < x.2.2 → ∀ o, I x.1 o = none
/-- A frame's entries lie in order. -/
def Srt (fr : Fr) : Prop := fr.Pairwise fun p q => p.1 < q.1
/-- A frame stands for the machine's temporaries. -/
structure FrRel (I : Imm) (ρ : Ren) (fr : Fr) (tmps : Array Value) (n : Nat) : Prop where
  size : tmps.size = n
  srt : Srt fr
  at_ : ∀ t, VRel I ρ (fr.get t) (tmps.getD t undef)
  all : ∀ p ∈ fr, ∃ cv, VRel I ρ p.2 cv

/-- From a state to a later one: the first m places stay; what was not the place of a block that may be written is as it was. -/
structure Ext (m : Nat) (I : Imm) (ρ : Ren) (H : Heap) (w : World) (I' : Imm) (ρ' : Ren) (H' : Heap) (w' : World) : Prop where
  imm : I.le I'
  immNew : ∀ c o v, I' c o = some v → I c o = some v ∨ LiveIm ρ H c ∨ w.heap.size ≤ c
  ren : ∀ b, b < m → ρ' b = ρ b
  keepS : ∀ b k, b < m → H'[b]? = some k → k.solid = true → ∃ k0, H[b]? = some k0 ∧ k0.solid = true
  newS : ∀ c, SolidIm ρ' H' c → SolidIm ρ H c ∨ w.heap.size ≤ c
  newL : ∀ c, LiveIm ρ' H' c → LiveIm ρ H c ∨ w.heap.size ≤ c
  os : w'.os = w.os
  tape : w'.tape = w.tape
  output : w'.output = w.output
  size : w.heap.size ≤ w'.heap.size
  kept : ∀ c, c < w.heap.size → ¬ LiveIm ρ H c → w'.heap[c]? = w.heap[c]?
theorem Ext.refl (m : Nat) (I : Imm) (ρ : Ren) (H : Heap) (w : World) : Ext m I ρ H w I ρ H w :=
  ⟨Imm.le_refl I, fun _ _ _ h => .inl h, fun _ _ => rfl, fun b k _ h hs => ⟨k, h, hs⟩, fun _ h => .inl h, fun _ h => .inl h, rfl, rfl, rfl, Nat.le_refl _, fun _ _ _ => rfl⟩
theorem Ext.trans {m m1 : Nat} {I I1 I2 : Imm} {ρ ρ1 ρ2 : Ren} {H H1 H2 : Heap} {w w1 w2 : World} (h : Ext m I ρ H w I1 ρ1 H1 w1) (k : Ext m1 I1 ρ1 H1 w1 I2 ρ2 H2 w2) (hm : m ≤ m1) :
    Ext m I ρ H w I2 ρ2 H2 w2 where
  imm := Imm.le_trans h.imm k.imm
  immNew c o v hv := by
    have hs := h.size
    rcases k.immNew c o v hv with h1 | h1 | h1
    · exact h.immNew c o v h1
    · rcases h.newL c h1 with h2 | h2
      · exact .inr (.inl h2)
      · exact .inr (.inr h2)
    · exact .inr (.inr (by omega))
  ren b hb := (k.ren b (by omega)).trans (h.ren b hb)
  keepS b kk hb hk hs := by
    obtain ⟨k1, h1, s1⟩ := k.keepS b kk (by omega) hk hs
    exact h.keepS b k1 hb h1 s1
  newS c hc := by
    have hs := h.size
    rcases k.newS c hc with h1 | h1
    · exact h.newS c h1
    · exact .inr (by omega)
  newL c hc := by
    have hs := h.size
    rcases k.newL c hc with h1 | h1
    · exact h.newL c h1
    · exact .inr (by omega)
  os := k.os.trans h.os
  tape := k.tape.trans h.tape
  output := k.output.trans h.output
  size := Nat.le_trans h.size k.size
  kept c hc hn := by
    rw [k.kept c (by have := h.size; omega) (fun hl => ?_), h.kept c hc hn]
    rcases h.newL c hl with h1 | h1
    · exact hn h1
    · omega
theorem Ext.mono {m m' : Nat} {I I' : Imm} {ρ ρ' : Ren} {H H' : Heap} {w w' : World} (h : Ext m I ρ H w I' ρ' H' w') (hm : m' ≤ m) : Ext m' I ρ H w I' ρ' H' w' :=
  { h with ren := fun b hb => h.ren b (by omega), keepS := fun b k hb => h.keepS b k (by omega) }
theorem Ext.vrel {I I' : Imm} {ρ ρ' : Ren} {H H' : Heap} {w w' : World} (h : Ext H.length I ρ H w I' ρ' H' w') (hs : Sim I ρ H w) {v : AV} {cv : Value} (hv : VRel I ρ v cv) : VRel I' ρ' v cv :=
  hv.mono h.imm (fun b x hb => by rw [h.ren b (hs.dom b x hb).1]; exact hb)
theorem Ext.frel {I I' : Imm} {ρ ρ' : Ren} {H H' : Heap} {w w' : World} (h : Ext H.length I ρ H w I' ρ' H' w') (hs : Sim I ρ H w) {fr : Fr} {tmps : Array Value} {n : Nat} (hv : FrRel I ρ fr tmps n) :
    FrRel I' ρ' fr tmps n := ⟨hv.size, hv.srt, fun t => h.vrel hs (hv.at_ t), fun p hp => let ⟨cv, hcv⟩ := hv.all p hp; ⟨cv, h.vrel hs hcv⟩⟩

/-! ### Frames -/
theorem Fr.get_set (fr : Fr) (d : Nat) (v : AV) (t : Nat) : (fr.set d v).get t = if t = d then v else fr.get t := by
  induction fr with
  | nil =>
    rw [Fr.set_nil, Fr.get_cons]
    cases h : Nat.beq d t with
    | true => have := Nat.eq_of_beq_eq_true h; simp [ifB, this]
    | false => have : t ≠ d := fun e => by subst e; simp [Nat.beq_refl] at h
               simp [ifB, this, Fr.get_nil]
  | cons p r ih =>
    rw [Fr.set_cons]
    cases h1 : Nat.beq p.1 d with
    | true =>
      have e := Nat.eq_of_beq_eq_true h1
      simp only [ifB]
      rw [Fr.get_cons, Fr.get_cons]
      cases h : Nat.beq d t with
      | true => have := Nat.eq_of_beq_eq_true h; simp [ifB, this]
      | false =>
        have : t ≠ d := fun e => by subst e; simp [Nat.beq_refl] at h
        simp [ifB, this, e, h]
    | false =>
      have hne : p.1 ≠ d := fun e => by rw [e] at h1; simp [Nat.beq_refl] at h1
      cases h2 : Nat.blt d p.1 with
      | true =>
        simp only [ifB]
        rw [Fr.get_cons]
        cases h : Nat.beq d t with
        | true => have := Nat.eq_of_beq_eq_true h; simp [ifB, this]
        | false =>
          have : t ≠ d := fun e => by subst e; simp [Nat.beq_refl] at h
          simp [ifB, this]
      | false =>
        simp only [ifB]
        rw [Fr.get_cons, Fr.get_cons]
        cases h : Nat.beq p.1 t with
        | true =>
          have := Nat.eq_of_beq_eq_true h
          have : t ≠ d := fun e => hne (this.trans e)
          simp [ifB, this]
        | false => simpa [ifB] using ih
theorem Fr.mem_set {fr : Fr} {d : Nat} {v : AV} {p : Nat × AV} (h : p ∈ fr.set d v) : p = (d, v) ∨ p ∈ fr := by
  induction fr with
  | nil => rw [Fr.set_nil] at h; exact .inl (by simpa using h)
  | cons q r ih =>
    rw [Fr.set_cons] at h
    cases h1 : Nat.beq q.1 d with
    | true =>
      simp only [h1, ifB, List.mem_cons] at h
      rcases h with h | h
      · exact .inl h
      · exact .inr (List.mem_cons_of_mem _ h)
    | false =>
      cases h2 : Nat.blt d q.1 with
      | true =>
        simp only [h1, h2, ifB, List.mem_cons] at h
        rcases h with h | h | h
        · exact .inl h
        · exact .inr (by simp [h])
        · exact .inr (List.mem_cons_of_mem _ h)
      | false =>
        simp only [h1, h2, ifB, List.mem_cons] at h
        rcases h with h | h
        · exact .inr (by simp [h])
        · rcases ih h with h | h
          · exact .inl h
          · exact .inr (List.mem_cons_of_mem _ h)
theorem Srt.set {fr : Fr} (h : Srt fr) (d : Nat) (v : AV) : Srt (fr.set d v) := by
  induction fr with
  | nil => rw [Fr.set_nil]; exact List.pairwise_singleton _ _
  | cons p r ih =>
    have hp := List.pairwise_cons.1 h
    rw [Fr.set_cons]
    cases h1 : Nat.beq p.1 d with
    | true =>
      have e := Nat.eq_of_beq_eq_true h1
      simp only [ifB]
      refine List.pairwise_cons.2 ⟨fun q hq => ?_, hp.2⟩
      have := hp.1 q hq
      simp only; omega
    | false =>
      have hne : p.1 ≠ d := fun e => by rw [e] at h1; simp [Nat.beq_refl] at h1
      cases h2 : Nat.blt d p.1 with
      | true =>
        have hlt : d < p.1 := (show d + 1 ≤ p.1 by simpa [Nat.blt] using h2)
        simp only [ifB]
        refine List.pairwise_cons.2 ⟨fun q hq => ?_, h⟩
        rcases List.mem_cons.1 hq with rfl | hq
        · exact hlt
        · have := hp.1 q hq
          simp only; omega
      | false =>
        have hge : ¬ d < p.1 := fun hlt => by
          have : Nat.blt d p.1 = true := (by simp [Nat.blt]; omega)
          rw [this] at h2; cases h2
        simp only [ifB]
        refine List.pairwise_cons.2 ⟨fun q hq => ?_, ih hp.2⟩
        rcases Fr.mem_set hq with rfl | hq
        · simp only; omega
        · exact hp.1 q hq
theorem Srt.get {fr : Fr} (h : Srt fr) {p : Nat × AV} (hp : p ∈ fr) : fr.get p.1 = p.2 := by
  induction fr with
  | nil => simp at hp
  | cons q r ih =>
    have hq := List.pairwise_cons.1 h
    rw [Fr.get_cons]
    rcases List.mem_cons.1 hp with rfl | hp
    · simp [Nat.beq_refl, ifB]
    · have hlt := hq.1 p hp
      have hne : Nat.beq q.1 p.1 = false := by
        cases hb : Nat.beq q.1 p.1 with
        | false => rfl
        | true => have := Nat.eq_of_beq_eq_true hb; omega
      simp only [hne, ifB]
      exact ih hq.2 hp
theorem Srt.put {fr : Fr} (h : Srt fr) (dst : Option Tmp) (v : AV) : Srt (fr.put dst v) := by
  cases dst with
  | none => exact h
  | some d => exact h.set d v
/-- From what a frame's temporaries hold. -/
theorem FrRel.of_get {I : Imm} {ρ : Ren} {fr : Fr} {tmps : Array Value} {n : Nat} (hs : tmps.size = n) (h : Srt fr) (ha : ∀ t, VRel I ρ (fr.get t) (tmps.getD t undef)) : FrRel I ρ fr tmps n :=
  ⟨hs, h, ha, fun p hp => ⟨_, by have := ha p.1; rw [h.get hp] at this; exact this⟩⟩
theorem FrRel.put {I : Imm} {ρ : Ren} {fr : Fr} {tmps : Array Value} {n : Nat} (h : FrRel I ρ fr tmps n) (dst : Option Tmp) {v : AV} {cv : Value} (hv : VRel I ρ v cv) (hd : dstOk n dst = true)
    (ds : List Deferred) : FrRel I ρ (fr.put dst v) ((⟨tmps, ds⟩ : Act).put dst cv).tmps n := by
  cases dst with
  | none => exact h
  | some d =>
    have hlt : d < n := (show d + 1 ≤ n by simpa [dstOk, Nat.blt] using hd)
    refine ⟨by simpa [Act.put] using h.size, h.srt.set d v, fun t => ?_, fun p hp => ?_⟩
    case refine_2 =>
      rcases Fr.mem_set hp with rfl | hp
      · exact ⟨cv, hv⟩
      · exact h.all p hp
    simp only [Fr.put, Act.put, Fr.get_set]
    by_cases e : t = d
    · subst e
      have : t < tmps.size := by rw [h.size]; exact hlt
      simpa [Array.getElem?_setIfInBounds, this] using hv
    · have := h.at_ t
      simpa [e, Array.getElem?_setIfInBounds_ne (Ne.symm e)] using this
theorem opv_rel {I : Imm} {ρ : Ren} {fr : Fr} {a : Act} {n : Nat} (h : FrRel I ρ fr a.tmps n) (x : Operand) : VRel I ρ (opv fr x) (a.eval x) := by
  cases x with
  | tmp t => exact h.at_ t
  | const v =>
    simp only [opv, Act.eval]
    cases v with
    | bool => exact .bool _ _
    | int => exact .int _ _ _
    | string s => exact .str _ _ _ rfl
    | pointer a => cases a with
      | none => exact .nilp _
      | some a => exact .undef _ _
    | slice a l c =>
      cases a with
      | some a => exact .undef _ _
      | none =>
        cases l with
        | succ l => exact .undef _ _
        | zero => cases c with
          | succ c => exact .undef _ _
          | zero => exact .nils _
    | map r => cases r with
      | none => exact .nilm _
      | some r => exact .undef _ _
    | nilFunc => exact .nilf _
    | nilIface => exact .nili _
    | _ => exact .undef _ _
  | global g => exact .undef _ _
  | func f => exact .fn _ _ _ _ rfl (fun j x v hx => by simp at hx)
end Go.Ev
