/- The soundness of the operations that leave the heap as it is, at 'execOp'. -/
import Derived.Test.YtkecfadnfnnfaaaEvO
import Derived.Laws.Tables
set_option linter.unusedVariables false
set_option linter.unusedSimpArgs false
namespace Go.Ev
open Go.RowKit

section
variable {P : Program} {c : Ctx} {I : Imm} {ρ : Ren} {H : Heap} {w : World}

def eqOp (op : BinOp) (r : Option Bool) : Option AV := match op with
  | .eql => match r with | some b => some (.bool b) | none => none
  | .neq => match r with | some b => some (.bool !b) | none => none
  | _ => none
theorem binop_run (hc : TysOk P c) {t : TypeId} {a1 a2 : Operand} {op : BinOp} {x y v : AV} {u1 u2 : Value} (h : binop c (c.ty t) (isConst a1 || isConst a2) op x y = some v) (hx : VRel I ρ x u1) (hy : VRel I ρ y u2) :
    ∃ cv, (do eqGuard op t a1 a2 u1 u2; binOp op t u1 u2 : Sem Value).run P w = .ok cv w ∧ VRel I ρ v cv := by
  have hgi : ∀ (k j : IntKind) (a b : Int), (eqGuard op t a1 a2 (.int k a) (.int j b)).run P w = .ok () w := fun k j a b => by unfold eqGuard; cases op <;> simp
  have hgs : ∀ (a b : ByteArray), (eqGuard op t a1 a2 (.string a) (.string b)).run P w = .ok () w := fun a b => by unfold eqGuard; cases op <;> simp
  -- the values that are no numbers and no strings
  have key : eqOp op (eqAV c (c.ty t) (isConst a1 || isConst a2) x y) = some v → (∀ k n, u1 ≠ .int k n) → (∀ s, u1 = .string s → ∀ s', u2 ≠ .string s') → (∀ k n, u1 ≠ .float k n) → (∀ k n m, u1 ≠ .complex k n m) →
      ∃ cv, (do eqGuard op t a1 a2 u1 u2; binOp op t u1 u2 : Sem Value).run P w = .ok cv w ∧ VRel I ρ v cv := by
    intro hk n1 n2 n3 n4
    cases hq : eqAV c (c.ty t) (isConst a1 || isConst a2) x y with
    | none => cases op <;> simp [hq, eqOp] at hk
    | some b =>
      obtain ⟨e1, e2⟩ := eqAV_run (P := P) (w := w) hc hq hx hy
      cases op <;> simp [hq, eqOp] at hk
      · subst hk
        refine ⟨.bool b, ?_, .bool _ _⟩
        have hb : binOp .eql t u1 u2 = (do pure (.bool (← Op.equal t u1 u2))) := by
          unfold binOp
          cases u1 <;> cases u2 <;> first | rfl | exact absurd rfl (n1 _ _) | exact absurd rfl (n2 _ rfl _) | exact absurd rfl (n3 _ _) | exact absurd rfl (n4 _ _ _)
        rw [hb]
        simp only [Sem.run_bind, e2 .eql a1 a2 (fun h => h), Result.andThen_ok, e1]
        rfl
      · subst hk
        refine ⟨.bool !b, ?_, .bool _ _⟩
        have hb : binOp .neq t u1 u2 = (do pure (.bool (!(← Op.equal t u1 u2)))) := by
          unfold binOp
          cases u1 <;> cases u2 <;> first | rfl | exact absurd rfl (n1 _ _) | exact absurd rfl (n2 _ rfl _) | exact absurd rfl (n3 _ _) | exact absurd rfl (n4 _ _ _)
        rw [hb]
        simp only [Sem.run_bind, e2 .neq a1 a2 (fun h => h), Result.andThen_ok, e1]
        rfl
  unfold binop at h
  cases hx with
  | int _ k a =>
    cases hy with
    | int _ j b =>
      simp only [Sem.run_bind, hgi, Result.andThen_ok]
      by_cases hop : op = .shl
      · subst hop
        simp only [ltI_eq] at h
        by_cases hb : b < 0
        · simp [hb] at h
        · simp [hb, wr_eq] at h
          subst h
          exact ⟨_, by simp [binOp, Op.shift, hb], .int _ _ _⟩
      · by_cases hop' : op = .shr
        · subst hop'
          simp only [ltI_eq] at h
          by_cases hb : b < 0
          · simp [hb] at h
          · simp [hb] at h
            subst h
            exact ⟨_, by simp [binOp, Op.shift, hb], .int _ _ _⟩
        · by_cases hk : k = j
          · subst hk
            have h' : intBin op k a b = some v := by cases op <;> first | exact absurd rfl hop | exact absurd rfl hop' | simpa using h
            exact intBin_run h' hop hop'
          · exfalso
            cases op <;> first | exact absurd rfl hop | exact absurd rfl hop' | simp [hk] at h
    | _ =>
      exfalso
      cases op <;> simp at h <;> (unfold eqAV at h; cases hd : (c.ty t).d <;> simp [hd] at h)
  | str _ s bs e =>
    cases hy with
    | str _ s' bs' e' =>
      simp only [Sem.run_bind, hgs, Result.andThen_ok]
      subst e
      subst e'
      exact strBin_run h
    | _ =>
      exfalso
      cases op <;> simp at h <;> (unfold eqAV at h; cases hd : (c.ty t).d <;> simp [hd] at h)
  | undef =>
    exfalso
    cases op <;> simp at h <;> (unfold eqAV at h; cases hd : (c.ty t).d <;> simp [hd] at h)
  | _ => exact key (by cases op <;> exact h) (by simp) (by simp) (by simp) (by simp)

theorem unop_run {op : UnOp} {x v : AV} {u : Value} (h : unop op x = some v) (hx : VRel I ρ x u) : ∃ cv, (Op.unary op u).run P w = .ok cv w ∧ VRel I ρ v cv := by
  unfold unop at h
  split at h
  · rename_i k n
    simp only [Option.some.injEq] at h; subst h; cases hx
    exact ⟨.int k (k.wrap (0 - n)), by simp [Op.unary, Op.intArith], by rw [wr_eq]; exact .int _ _ _⟩
  · split at h
    · rename_i k n r hr
      simp at h; subst h; cases hx
      unfold intBits at hr
      simp at hr
      subst hr
      exact ⟨.int _ _, by simp [Op.unary, Op.intBits], .int _ _ _⟩
    · cases h
  · simp at h; subst h; cases hx
    exact ⟨.bool _, by simp [Op.unary], .bool _ _⟩
  · cases h

theorem convert_run (hc : TysOk P c) {s t : TypeId} {x v : AV} {u : Value} (h : convertAV (c.ty s) (c.ty t) x = some v) (hx : VRel I ρ x u) : ∃ cv, (convert s t u).run P w = .ok cv w ∧ VRel I ρ v cv := by
  unfold convertAV at h
  cases hk : (c.ty s).known with
  | false => simp [hk] at h
  | true =>
    simp only [hk] at h
    have hkt : (c.ty t).known = true := by unfold TI.known; cases hd : (c.ty t).d <;> simp [hd] at h <;> rfl
    obtain ⟨i1, d1, z1, h1⟩ := hc.ty s hk
    obtain ⟨i2, d2, z2, h2⟩ := hc.ty t hkt
    have r2 := h2.rel
    have r1 := h1.rel
    have e1 := h1.und
    have e2 := h2.und
    unfold convert
    simp only [Sem.run_bind, run_underlying e1, run_underlying e2, Result.andThen_ok]
    revert h
    revert r2 r1
    generalize (c.ty t).d = td
    generalize (c.ty s).d = sd
    intro r2 r1 h
    cases r2 with
    | int k =>
      cases hx <;> simp at h
      subst h
      rename_i k' n
      exact ⟨.int k (k.wrap n), by cases r1 <;> simp [Conv.intToInt], by rw [wr_eq]; exact .int _ _ _⟩
    | str =>
      cases hx <;> simp at h
      subst h
      rename_i e
      exact ⟨_, by cases r1 <;> first | rfl | simp, .str _ _ _ e⟩
    | _ => simp at h
end
end Go.Ev
/- The soundness of places, parts, slices and lengths. -/
set_option linter.unusedVariables false
set_option linter.unusedSimpArgs false
namespace Go.Ev
open Go.RowKit

section
variable {P : Program} {c : Ctx} {I : Imm} {ρ : Ren} {H : Heap} {w : World}

theorem run_sizeOf {t : TypeId} {i : TypeInfo} {d : TypeDesc} {z : Value} (h : TyOk P c t i d z) (w : World) : (sizeOf t).run P w = .ok (c.ty t).size w := by
  simp [sizeOf, typeInfo, h.info, h.size]
theorem known_of (hd : ∀ (i : TI), i.d = .other → False → True) {t : TypeId} (h : (c.ty t).d ≠ .other) : (c.ty t).known = true := by
  unfold TI.known
  cases hd : (c.ty t).d <;> simp_all
theorem known' {t : TypeId} (h : (c.ty t).d ≠ .other) : (c.ty t).known = true := known_of (fun _ _ _ => trivial) h

/-! ### Loads and places -/
theorem load_run (hc : TysOk P c) (hs : Sim I ρ H w) {t : TypeId} {x v : AV} {u : Value} (h : loadAV c t H x = some v) (hx : VRel I ρ x u) : ∃ cv, (Instr.loadAt t u).run P w = .ok cv w ∧ VRel I ρ v cv := by
  unfold loadAV at h
  cases hx with
  | ptr _ b i o g z n hρ =>
    simp only at h
    have key : ∀ {r : List AV} {z' : Nat} {p : Bool} {es : List (List AV)}, (H[b]? = some (.rows z' p es) ∨ H[b]? = some (.ro z' es)) → es[i]? = some r → pack (c.ty t) (r.drop o) = some v →
        ∃ cv, (Instr.loadAt t (.pointer (some ⟨g, i * z + o, none⟩))).run P w = .ok cv w ∧ VRel I ρ v cv := by
      intro r z' p es hb hr hp
      obtain ⟨h1, h2, h3, h4⟩ := row_cells hs hb hρ hr
      obtain ⟨cv, hrun, hrel⟩ := loadVar_rel hc hp (h1.drop o)
      exact ⟨cv, by simp only [Instr.loadAt, Instr.sureAddr, Sem.run_bind, Sem.run_pure, Result.andThen_ok, hrun], hrel⟩
    split at h
    · rename_i z' p es hb
      split at h
      · rename_i r hr; exact key (.inl hb) hr h
      · cases h
    · rename_i z' es hb
      split at h
      · rename_i r hr; exact key (p := true) (.inr hb) hr h
      · cases h
    · cases h
  | iptr _ cs g off vs h1 h2 =>
    simp only at h
    obtain ⟨cv, hrun, hrel⟩ := loadVar_rel (I := I) (ρ := ρ) hc h (fun j x hx => ⟨vs j, hs.imm.at_ _ _ _ (h1 j x hx), (h2 j x hx).any⟩)
    exact ⟨cv, by simp only [Instr.loadAt, Instr.sureAddr, Sem.run_bind, Sem.run_pure, Result.andThen_ok, hrun], hrel⟩
  | _ => simp at h

theorem iptr_drop {cs : List AV} {g off : Nat} {vs : Nat → Value} (h : ∀ (j : Nat) (x : AV), cs[j]? = some x → I g (off + j) = some (vs j)) (hv : ∀ (j : Nat) (x : AV), cs[j]? = some x → VRel I ρ0 x (vs j)) (k : Nat) :
    VRel I ρ (.iptr (cs.drop k)) (.pointer (some ⟨g, off + k, none⟩)) :=
  .iptr _ _ _ _ (fun j => vs (k + j)) (fun j x hx => by rw [List.getElem?_drop] at hx; rw [Nat.add_assoc]; exact h _ x hx) (fun j x hx => by rw [List.getElem?_drop] at hx; exact hv _ x hx)

theorem fieldAddr_run (hc : TysOk P c) {t : TypeId} {f : Nat} {x v : AV} {u : Value} (h : fieldAddrAV c (c.ty t) x f = some v) (hx : VRel I ρ x u) : ∃ cv, (Instr.fieldAt t u f).run P w = .ok cv w ∧ VRel I ρ v cv := by
  unfold fieldAddrAV fieldOf at h
  have hkn : (c.ty t).known = true := by unfold TI.known; cases hd : (c.ty t).d <;> simp [hd] at h <;> rfl
  obtain ⟨i, d, z, ht⟩ := hc.ty t hkn
  have hr := ht.rel
  have hu := ht.und
  revert h hr
  generalize (c.ty t).d = td
  intro h hr
  cases hr with
  | strct fs gs hl hf =>
    simp only at h
    cases hfs : fs[f]? with
    | none => simp [hfs] at h
    | some p =>
      obtain ⟨off, e⟩ := p
      simp only [hfs] at h
      have hlt : f < gs.size := by have := (List.getElem?_eq_some_iff.1 hfs).1; omega
      have hgs : gs[f]? = some gs[f] := Array.getElem?_eq_getElem hlt
      obtain ⟨h1, h2, h3⟩ := hf f _ _ hfs hgs
      obtain ⟨i2, d2, z2, ht2⟩ := hc.ty e h3
      cases hb : Nat.ble 1 (c.ty e).size with
      | false => simp [hb] at h
      | true =>
        simp only [hb] at h
        have hpos := Nat.le_of_ble_eq_true hb
        have hplace : ∀ (g o : Nat), (fieldPlace ⟨g, o, none⟩ gs[f]).run P w = .ok ⟨g, o + off, none⟩ w := fun g o => by
          unfold fieldPlace
          rw [Sem.run_bind, h2, run_sizeOf ht2]
          have hne : (c.ty e).size ≠ 0 := by omega
          simp only [Result.andThen_ok, if_neg hne, Sem.run_pure, h1, Addr.add_off]
        have hat : ∀ (g o : Nat), (Instr.fieldAt t (.pointer (some ⟨g, o, none⟩)) f).run P w = .ok (.pointer (some ⟨g, o + off, none⟩)) w := fun g o => by
          unfold Instr.fieldAt
          simp only [Sem.run_bind, run_underlying hu, Result.andThen_ok, hgs, Instr.sureAddr, Sem.run_pure, hplace]
        cases hx with
        | ptr _ b i o g z n hρ =>
          simp only [Option.some.injEq] at h
          subst h
          exact ⟨_, hat _ _, by rw [Nat.add_assoc]; exact .ptr _ _ _ _ _ _ _ hρ⟩
        | iptr _ cs g o vs h1 h2 =>
          simp only [fSp_eq, Option.some.injEq] at h
          subst h
          exact ⟨_, hat _ _, iptr_drop h1 h2 off⟩
        | _ => simp at h
  | _ => simp at h

theorem field_run (hc : TysOk P c) {t : TypeId} {f : Nat} {x v : AV} {u : Value} (h : fieldAV c (c.ty t) x f = some v) (hx : VRel I ρ x u) : ∃ cv, (Instr.field t u f).run P w = .ok cv w ∧ VRel I ρ v cv := by
  unfold fieldAV fieldOf at h
  have hkn : (c.ty t).known = true := by unfold TI.known; cases hd : (c.ty t).d <;> simp [hd] at h <;> rfl
  obtain ⟨i, d, z, ht⟩ := hc.ty t hkn
  have hr := ht.rel
  have hu := ht.und
  revert h hr
  generalize (c.ty t).d = td
  intro h hr
  cases hr with
  | strct fs gs hl hf =>
    simp only at h
    cases hfs : fs[f]? with
    | none => simp [hfs] at h
    | some p =>
      obtain ⟨off, e⟩ := p
      simp only [hfs] at h
      have hlt : f < gs.size := by have := (List.getElem?_eq_some_iff.1 hfs).1; omega
      have hgs : gs[f]? = some gs[f] := Array.getElem?_eq_getElem hlt
      obtain ⟨h1, h2, h3⟩ := hf f _ _ hfs hgs
      cases hx with
      | agg _ cs vs hl hv =>
        simp only at h
        obtain ⟨cv, hrun, hrel⟩ := part_rel (w := w) hc h hl hv
        refine ⟨cv, ?_, hrel⟩
        unfold Instr.field
        simp only [Sem.run_bind, run_underlying hu, Result.andThen_ok, hgs, asAgg, Sem.run_pure, h1, h2, hrun]
      | _ => simp at h
  | _ => simp at h

theorem atIdx_spec {n : Int} {len i : Nat} (h : atIdx n len = some i) : 0 ≤ n ∧ n < len ∧ n.toNat = i ∧ i < len := by
  unfold atIdx at h
  rw [leI_eq, ltI_eq] at h
  by_cases h0 : 0 ≤ n ∧ n < len
  · simp [h0.1, h0.2] at h
    subst h
    exact ⟨h0.1, h0.2, rfl, by omega⟩
  · have : (decide (0 ≤ n) && decide (n < (len : Int))) = false := by
      cases hb : (decide (0 ≤ n) && decide (n < (len : Int))) with
      | false => rfl
      | true => simp at hb; exact absurd hb h0
    simp [this] at h

theorem isSize_spec (hs : Sim I ρ H w) {b k g z n : Nat} (h : isSize H b k = true) (hρ : ρ b = some (g, z, n)) : z = k := by
  unfold isSize rowSize at h
  split at h
  · rename_i z' hz
    have he := Nat.eq_of_beq_eq_true h
    split at hz
    · rename_i zz p es hb
      simp at hz
      obtain ⟨h1, _⟩ := hs.blk b _ g z n hb hρ
      omega
    · rename_i zz es hb
      simp at hz
      obtain ⟨h1, _⟩ := hs.blk b _ g z n hb hρ
      omega
    · cases hz
  · cases h

theorem indexAddr_run (hc : TysOk P c) (hs : Sim I ρ H w) {t : TypeId} {x y v : AV} {u u2 : Value} (h : indexAddrAV c (c.ty t) H x y = some v) (hx : VRel I ρ x u) (hy : VRel I ρ y u2) :
    ∃ cv, (Instr.indexAt t u u2).run P w = .ok cv w ∧ VRel I ρ v cv := by
  unfold indexAddrAV at h
  cases hy with
  | int _ k n =>
    simp only at h
    have hkn : (c.ty t).known = true := by unfold TI.known; cases hd : (c.ty t).d <;> simp [hd] at h <;> rfl
    obtain ⟨i, d, z, ht⟩ := hc.ty t hkn
    have hr := ht.rel
    have hu := ht.und
    revert h hr
    generalize (c.ty t).d = td
    intro h hr
    cases hr with
    | slice e he =>
      obtain ⟨i2, d2, z2, ht2⟩ := hc.ty e he
      simp only at h
      have hat : ∀ (a : Addr) (len cap : Nat), 0 ≤ n ∧ n < len → (Instr.indexAt t (.slice (some a) len cap) (.int k n)).run P w = .ok (.pointer (some (a.add (n.toNat * (c.ty e).size)))) w := fun a len cap hn => by
        unfold Instr.indexAt
        simp only [Sem.run_bind, asIntOf, Sem.run_pure, Result.andThen_ok, run_underlying hu, if_pos hn, run_sizeOf ht2]
      unfold elemAddr at h
      cases hx with
      | lst _ es g off cap z' vs hne hl hz h1 h2 h3 =>
        simp only at h
        cases ha : atIdx n es.length with
        | none => simp [ha] at h
        | some j =>
          obtain ⟨a1, a2, a3, a4⟩ := atIdx_spec ha
          have hej : es[j]? = some es[j] := List.getElem?_eq_getElem a4
          simp only [ha, hej] at h
          cases hb : Nat.beq es[j].length (c.ty e).size with
          | false => simp [hb] at h
          | true =>
            have hlen := Nat.eq_of_beq_eq_true hb
            have hzj := hz es[j] (List.getElem_mem a4)
            simp only [hb, Option.some.injEq] at h
            subst h
            refine ⟨_, hat _ _ _ ⟨a1, a2⟩, ?_⟩
            rw [Addr.add_off, a3, ← hlen, hzj]
            refine .iptr _ _ _ _ (vs j) (fun q x hx => ?_) (fun q x hx => h2 j q _ x hej hx)
            have := h1 j q _ x hej hx
            rwa [← Nat.add_assoc] at this
      | lst0 => simp [atIdx, leI_eq, ltI_eq] at h; exfalso; split at h <;> simp_all <;> omega
      | sl _ b off len a cap g z n' hρ ha hl =>
        simp only at h
        cases hi : atIdx n len with
        | none => simp [hi] at h
        | some j =>
          obtain ⟨a1, a2, a3, a4⟩ := atIdx_spec hi
          simp only [hi] at h
          cases hb : isSize H b (c.ty e).size with
          | false => simp [hb] at h
          | true =>
            have hz := isSize_spec hs hb hρ
            simp only [hb, Option.some.injEq] at h
            subst h
            obtain ⟨e1, e2⟩ := ha (.inl (by omega))
            refine ⟨_, hat _ _ _ ⟨a1, a2⟩, ?_⟩
            rw [e1, Addr.add_off, a3, ← hz, ← Nat.add_mul]
            have := VRel.ptr (I := I) ρ b (off + j) 0 g z n' hρ
            rwa [Nat.add_zero] at this
      | sle _ b g z n' a hρ =>
        simp only at h
        cases hi : atIdx n 0 with
        | none => simp [hi] at h
        | some j => obtain ⟨a1, a2, a3, a4⟩ := atIdx_spec hi; omega
      | _ => simp at h
    | arr m e he =>
      obtain ⟨i2, d2, z2, ht2⟩ := hc.ty e he
      simp only at h
      have hat : ∀ (a : Addr), 0 ≤ n ∧ n < m → (Instr.indexAt t (.pointer (some a)) (.int k n)).run P w = .ok (.pointer (some (a.add (n.toNat * (c.ty e).size)))) w := fun a hn => by
        unfold Instr.indexAt
        simp only [Sem.run_bind, asIntOf, Sem.run_pure, Result.andThen_ok, run_underlying hu, if_pos hn, run_sizeOf ht2, Instr.sureAddr]
      unfold arrAddr at h
      cases hi : atIdx n m with
      | none => simp [hi] at h
      | some j =>
        obtain ⟨a1, a2, a3, a4⟩ := atIdx_spec hi
        simp only [hi] at h
        cases hx with
        | ptr _ b q o g z n' hρ =>
          simp only [Option.some.injEq] at h
          subst h
          exact ⟨_, hat _ ⟨a1, a2⟩, by rw [Addr.add_off, a3, Nat.add_assoc]; exact .ptr _ _ _ _ _ _ _ hρ⟩
        | iptr _ cs g o vs h1 h2 =>
          simp only [fSp_eq, Option.some.injEq] at h
          subst h
          exact ⟨_, hat _ ⟨a1, a2⟩, by rw [Addr.add_off, a3]; exact iptr_drop h1 h2 _⟩
        | _ => simp at h
    | _ => simp at h
  | _ => simp at h

theorem index_run (hc : TysOk P c) {t : TypeId} {x y v : AV} {u u2 : Value} (h : indexAV c (c.ty t) x y = some v) (hx : VRel I ρ x u) (hy : VRel I ρ y u2) :
    ∃ cv, (Instr.index t u u2).run P w = .ok cv w ∧ VRel I ρ v cv := by
  unfold indexAV at h
  cases hy with
  | int _ k n =>
    simp only at h
    have hkn : (c.ty t).known = true := by unfold TI.known; cases hd : (c.ty t).d <;> simp [hd] at h <;> rfl
    obtain ⟨i, d, z, ht⟩ := hc.ty t hkn
    have hr := ht.rel
    have hu := ht.und
    revert h hr
    generalize (c.ty t).d = td
    intro h hr
    cases hr with
    | arr m e he =>
      obtain ⟨i2, d2, z2, ht2⟩ := hc.ty e he
      cases hx with
      | agg _ cs vs hl hv =>
        simp only at h
        unfold indexArr at h
        cases hi : atIdx n m with
        | none => simp [hi] at h
        | some j =>
          obtain ⟨a1, a2, a3, a4⟩ := atIdx_spec hi
          simp only [hi] at h
          obtain ⟨cv, hrun, hrel⟩ := part_rel (w := w) hc h hl hv
          refine ⟨cv, ?_, hrel⟩
          unfold Instr.index
          simp only [Sem.run_bind, asIntOf, Sem.run_pure, Result.andThen_ok, run_underlying hu, if_pos (And.intro a1 a2), run_sizeOf ht2, a3, hrun]
      | _ => simp at h
    | str =>
      cases hx with
      | str _ s bs e =>
        simp only at h
        unfold indexStr at h
        cases hi : atIdx n s.length with
        | none => simp [hi] at h
        | some j =>
          obtain ⟨a1, a2, a3, a4⟩ := atIdx_spec hi
          simp only [hi, List.getElem?_eq_getElem a4, Option.some.injEq] at h
          subst h
          subst e
          have hlt : j < bs.size := by
            have : bs.size = bs.data.toList.length := Array.length_toList.symm
            omega
          have hg : bs[j]? = some bs.data.toList[j] := by
            simp [getElem?_def, hlt]
            rfl
          refine ⟨_, ?_, .int _ _ _⟩
          unfold Instr.index
          simp only [Sem.run_bind, asIntOf, Sem.run_pure, Result.andThen_ok, run_underlying hu, if_pos a1, a3, hg]
      | _ => simp at h
    | _ => cases hx <;> simp at h
  | _ => simp at h
end
end Go.Ev
