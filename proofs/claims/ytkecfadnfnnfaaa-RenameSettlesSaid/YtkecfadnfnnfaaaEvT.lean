/- What ties the evaluator's tables to a program; the reading and laying of cells. -/
import Derived.Test.YtkecfadnfnnfaaaEvN
set_option linter.unusedVariables false
set_option linter.unusedSimpArgs false
namespace Go.Ev
open Go.RowKit

/-! ### Types -/
inductive TdRel (c : Ctx) : TD → TypeDesc → Prop where
  | int (k : IntKind) : TdRel c (.int k) (.int k)
  | bool : TdRel c .bool .bool
  | str : TdRel c .str .string
  | ptr (e : TypeId) : TdRel c (.ptr e) (.pointer e)
  | slice (e : TypeId) (h : (c.ty e).known = true) : TdRel c (.slice e) (.slice e)
  | arr (n : Nat) (e : TypeId) (h : (c.ty e).known = true) : TdRel c (.arr n e) (.array n e)
  | map (k e : TypeId) (hk : (c.ty k).known = true) (he : (c.ty e).known = true) : TdRel c (.map k e) (.map k e)
  | strct (fs : List (Nat × TypeId)) (gs : Array Field) (hl : fs.length = gs.size)
      (h : ∀ (k : Nat) (p : Nat × TypeId) (g : Field), fs[k]? = some p → gs[k]? = some g → g.offset = p.1 ∧ g.type = p.2 ∧ (c.ty p.2).known = true) : TdRel c (.strct fs) (.struct gs)
  | func (ps rs : Array TypeId) (v : Bool) : TdRel c .func (.func ps rs v)
  | iface (ms : Array (String × TypeId)) : TdRel c .iface (.interface ms)
/-- The table's row of a type is the program's. -/
structure TyOk (P : Program) (c : Ctx) (t : TypeId) (i : TypeInfo) (d : TypeDesc) (z : Value) : Prop where
  info : P.info? t = some i
  und : P.underlying t = some d
  rel : TdRel c (c.ty t).d d
  size : i.size = (c.ty t).size
  bytes : i.bytes = (c.ty t).bytes
  zero : i.zero = some z
  cells : (c.ty t).zero = z.cells.toList.map ofConst
  len : z.cells.size = i.size
  agg : if (c.ty t).isAgg then ∃ zs, z = .agg zs else (z.cells = #[z] ∧ i.size = 1)
/-- Structs that are compared field by field. -/
structure FlatOk (P : Program) (c : Ctx) (t : TypeId) (gs : Array Field) : Prop where
  stood : P.stoodInHeld t = false
  guard : P.eqGuardType P.depth t = false
  names : ∀ g ∈ gs, g.name ≠ "_"
  offs : ∀ (k : Nat) (g : Field), gs[k]? = some g → g.offset = k
/-- A function that can be entered. -/
def Enters (P : Program) (f : FuncId) : Prop := ∃ F, P.funcs[f]? = some F ∧ F.name ≠ "runtime.NumGoroutine" ∧ F.body.isSome = true

/-- The values of a call stand for its arguments. -/
structure VRels (I : Imm) (ρ : Ren) (vs : List AV) (cvs : Array Value) : Prop where
  len : vs.length = cvs.size
  at_ : ∀ (j : Nat) (x : AV) (u : Value), vs[j]? = some x → cvs[j]? = some u → VRel I ρ x u
/-- What a call with frozen arguments does. -/
def PCall (P : Program) (f : FuncId) (cvs : Array Value) (v : AV) (I : Imm) (w : World) : Prop :=
  Calls P f cvs w fun e w' => ∃ cv I', e = .returned cv ∧ I.le I' ∧ (∀ c o u, I' c o = some u → I c o = some u ∨ w.heap.size ≤ c) ∧ Agrees I' w' ∧ VRel I' ρ0 v cv ∧
    Below w.heap.size w w' ∧ w'.os = w.os ∧ w'.tape = w.tape ∧ w'.output = w.output
/-- What slices.Clone does. -/
def ClonesOk (P : Program) (c : Ctx) (f : FuncId) (e : TypeId) : Prop :=
  ∀ (I : Imm) (ρ : Ren) (H : Heap) (w : World) (args : List AV) (cvs : Array Value) (v : AV) (H' : Heap), Sim I ρ H w → VRels I ρ args cvs → cloneAV c e args H = some (v, H') →
    Calls P f cvs w fun r w' => ∃ cv I' ρ', r = .returned cv ∧ Ext H.length I ρ H w I' ρ' H' w' ∧ Sim I' ρ' H' w' ∧ VRel I' ρ' v cv ∧ H.length ≤ H'.length
def PrimOk (P : Program) (c : Ctx) (f : FuncId) : Prim → Prop
  | .no => True
  | .clone e => Enters P f ∧ ClonesOk P c f e
  | .pure p => Enters P f ∧ ∀ (I : Imm) (w : World) (fs : List AV) (cvs : Array Value) (v : AV), Agrees I w → VRels I ρ0 fs cvs → p fs = some v → PCall P f cvs v I w
structure TysOk (P : Program) (c : Ctx) : Prop where
  ty : ∀ t, (c.ty t).known = true → ∃ i d z, TyOk P c t i d z
  flat : ∀ t, (c.ty t).flat = true → ∀ gs, P.underlying t = some (.struct gs) → FlatOk P c t gs
structure CtxOk (P : Program) (c : Ctx) : Prop extends TysOk P c where
  fn : ∀ f F, c.fn f = some F → P.funcs[f]? = some F ∧ F.name ≠ "runtime.NumGoroutine"
  code : ∀ f F b, c.fn f = some F → F.body = some b → codeOk c f b = true
  prim : ∀ f, PrimOk P c f (c.prim f)
  mixed : P.follows .mixedOrders = true

theorem ofConst_rel (I : Imm) (ρ : Ren) (v : Value) : VRel I ρ (ofConst v) v := by
  cases v with
  | bool => exact .bool _ _
  | int => exact .int _ _ _
  | string s => exact .str _ _ _ rfl
  | pointer a => cases a with
    | none => exact .nilp _
    | some a => exact .undef _ _
  | slice a l c =>
    cases a with
    | some a => exact .undef _ _
    | none =>
      cases l with
      | succ l => exact .undef _ _
      | zero => cases c with
        | succ c => exact .undef _ _
        | zero => exact .nils _
  | map r => cases r with
    | none => exact .nilm _
    | some r => exact .undef _ _
  | nilFunc => exact .nilf _
  | nilIface => exact .nili _
  | _ => exact .undef _ _

theorem VRels.of_map {I : Imm} {ρ : Ren} {fr : Fr} {a : Act} {n : Nat} (h : FrRel I ρ fr a.tmps n) (xs : Array Operand) : VRels I ρ (xs.toList.map (opv fr)) (xs.map a.eval) := by
  refine ⟨by simp, fun j x u hx hu => ?_⟩
  rw [List.getElem?_map] at hx
  rw [Array.getElem?_map] at hu
  rw [Array.getElem?_toList] at hx
  cases hj : xs[j]? with
  | none => simp [hj] at hx
  | some o =>
    simp [hj] at hx hu
    subst hx
    subst hu
    exact opv_rel h o
theorem VRels.mono {I J : Imm} {ρ ρ' : Ren} {vs : List AV} {cvs : Array Value} (h : VRels I ρ vs cvs) (hI : I.le J) (hρ : ∀ b x, ρ b = some x → ρ' b = some x) : VRels J ρ' vs cvs :=
  ⟨h.len, fun j x u hx hu => (h.at_ j x u hx hu).mono hI hρ⟩
theorem VRels.append {I : Imm} {ρ : Ren} {vs vs' : List AV} {cvs cvs' : Array Value} (h : VRels I ρ vs cvs) (h' : VRels I ρ vs' cvs') : VRels I ρ (vs ++ vs') (cvs ++ cvs') := by
  refine ⟨by simp [h.len, h'.len], fun j x u hx hu => ?_⟩
  rw [List.getElem?_append] at hx
  rw [Array.getElem?_append] at hu
  rw [h.len] at hx
  split at hx
  · rename_i hj; rw [if_pos hj] at hu; exact h.at_ j x u hx hu
  · rename_i hj; rw [if_neg hj] at hu; exact h'.at_ _ x u hx hu

/-! ### Reading cells -/
section
variable {P : Program} {c : Ctx} {I : Imm} {ρ : Ren} {H : Heap} {w : World}

/-- Cells from a place on stand for the machine's. -/
def Cells (I : Imm) (ρ : Ren) (w : World) (g off : Nat) (r : List AV) : Prop := ∀ (j : Nat) (x : AV), r[j]? = some x → ∃ v, w.cell? ⟨g, off + j, none⟩ = some v ∧ VRel I ρ x v
theorem Cells.drop {g off : Nat} {r : List AV} (h : Cells I ρ w g off r) (k : Nat) : Cells I ρ w g (off + k) (r.drop k) := fun j x hx => by
  rw [List.getElem?_drop] at hx
  obtain ⟨v, hv, hr⟩ := h (k + j) x hx
  exact ⟨v, by rw [Nat.add_assoc]; exact hv, hr⟩

theorem mul_lt_row {i j z n : Nat} (hi : i < n) (hj : j < z) : i * z + j < n * z := by
  have h1 : (i + 1) * z ≤ n * z := Nat.mul_le_mul_right z hi
  rw [Nat.succ_mul] at h1
  omega
theorem row_inj {i j i' j' z : Nat} (hj : j < z) (hj' : j' < z) (h : i * z + j = i' * z + j') : i = i' ∧ j = j' := by
  have hz : 0 < z := by omega
  have h1 : (i * z + j) / z = i := by rw [Nat.mul_comm, Nat.mul_add_div hz, Nat.div_eq_of_lt hj]; omega
  have h2 : (i' * z + j') / z = i' := by rw [Nat.mul_comm, Nat.mul_add_div hz, Nat.div_eq_of_lt hj']; omega
  have e : i = i' := by rw [← h1, ← h2, h]
  subst e
  exact ⟨rfl, by omega⟩

theorem row_cells (hs : Sim I ρ H w) {b i g z n z' : Nat} {p : Bool} {es : List (List AV)} {r : List AV} (hb : H[b]? = some (.rows z' p es) ∨ H[b]? = some (.ro z' es)) (hρ : ρ b = some (g, z, n)) (hr : es[i]? = some r) :
    Cells I ρ w g (i * z) r ∧ r.length = z ∧ z' = z ∧ i < n := by
  have hi : i < es.length := (List.getElem?_eq_some_iff.1 hr).1
  rcases hb with hb | hb
  · obtain ⟨rfl, h2, h3, h4, h5⟩ := hs.blk b _ g z n hb hρ
    have hrl := (h3 r (List.mem_of_getElem? hr)).1
    refine ⟨fun j x hx => ?_, hrl, rfl, by omega⟩
    have hj : j < z' := by have := (List.getElem?_eq_some_iff.1 hx).1; omega
    obtain ⟨v, hv⟩ := Option.isSome_iff_exists.1 (h4 _ (mul_lt_row (show i < n by omega) hj)).1
    refine ⟨v, hv, ?_⟩
    have := h5 i j r x v hr hx hv
    cases p with
    | true => exact VRel.any this
    | false => exact this
  · obtain ⟨rfl, h2, h3, h4⟩ := hs.blk b _ g z n hb hρ
    refine ⟨fun j x hx => ?_, (h3 r (List.mem_of_getElem? hr)).1, rfl, by omega⟩
    obtain ⟨v, hv, hrel⟩ := h4 i j r x hr hx
    exact ⟨v, hs.imm.at_ _ _ _ hv, hrel.any⟩

theorem Addr.add_off (g o j : Nat) : (⟨g, o, none⟩ : Addr).add j = ⟨g, o + j, none⟩ := by unfold Addr.add; split <;> simp_all

theorem isAgg_run {t : TypeId} {i : TypeInfo} {d : TypeDesc} {z : Value} (h : TyOk P c t i d z) (w : World) : (isAgg t).run P w = .ok (c.ty t).isAgg w := by
  unfold isAgg
  rw [Sem.run_bind, run_underlying h.und w]
  have hr := h.rel
  unfold TI.isAgg
  revert hr
  generalize (c.ty t).d = td
  intro hr
  cases hr <;> rfl

theorem loadVar_rel (hc : TysOk P c) {t : TypeId} {g off : Nat} {cs : List AV} {v : AV} (h : pack (c.ty t) cs = some v) (hcs : Cells I ρ w g off cs) :
    ∃ cv, (loadVar t ⟨g, off, none⟩).run P w = .ok cv w ∧ VRel I ρ v cv := by
  unfold pack at h
  cases hk : (c.ty t).known with
  | false => simp [hk] at h
  | true =>
    obtain ⟨i, d, z, ht⟩ := hc.ty t hk
    simp only [hk] at h
    unfold loadVar
    rw [Sem.run_bind, isAgg_run ht]
    cases ha : (c.ty t).isAgg with
    | false =>
      simp only [ha] at h
      cases cs with
      | nil => simp at h
      | cons x r =>
        simp at h
        subst h
        obtain ⟨u, hu, hr⟩ := hcs 0 x (by simp)
        rw [Nat.add_zero] at hu
        refine ⟨u, ?_, hr⟩
        simp [load, Sem.run, hu]
    | true =>
      simp only [ha] at h
      cases hb : Nat.ble (c.ty t).size cs.length with
      | false => simp [hb] at h
      | true =>
        have hle := Nat.le_of_ble_eq_true hb
        simp only [hb, Option.some.injEq] at h
        subst h
        -- the cells read
        have hex : ∀ n, n ≤ cs.length → ∃ vs : List Value, vs.length = n ∧ (∀ j u, vs[j]? = some u → w.cell? ((⟨g, off, none⟩ : Addr).add j) = some u) ∧ ∀ (j : Nat) (x : AV) (u : Value), cs[j]? = some x → vs[j]? = some u → VRel I ρ x u := by
          intro n
          induction n with
          | zero => exact fun _ => ⟨[], rfl, fun j u h => by simp at h, fun j x u _ h => by simp at h⟩
          | succ n ih =>
            intro hn
            obtain ⟨vs, h1, h2, h3⟩ := ih (by omega)
            obtain ⟨u, hu, hr⟩ := hcs n cs[n] (List.getElem?_eq_getElem (by omega))
            refine ⟨vs ++ [u], by simp [h1], fun j u' hj => ?_, fun j x u' hx hj => ?_⟩
            · rw [List.getElem?_append] at hj
              split at hj
              · exact h2 j u' hj
              · rename_i hlt
                have : j = n := by
                  have := (List.getElem?_eq_some_iff.1 hj).1
                  simp at this; omega
                subst this
                simp [h1] at hj
                subst hj
                rw [Addr.add_off]; exact hu
            · rw [List.getElem?_append] at hj
              split at hj
              · exact h3 j x u' hx hj
              · rename_i hlt
                have : j = n := by
                  have := (List.getElem?_eq_some_iff.1 hj).1
                  simp at this; omega
                subst this
                simp [h1] at hj
                subst hj
                rw [List.getElem?_eq_getElem (by omega)] at hx
                simp at hx
                subst hx
                exact hr
        obtain ⟨vs, h1, h2, h3⟩ := hex _ hle
        have hl := run_loadCells_list (P := P) w ⟨g, off, none⟩ vs h2
        refine ⟨.agg vs.toArray, ?_, .agg _ _ _ (by simp [h1]; omega) (fun j x u hx hu => ?_)⟩
        · simp [Sem.run_bind, sizeOf, typeInfo, ht.info, ht.size, ← h1, hl]
        · rw [List.getElem?_take] at hx
          split at hx
          · simp at hu; exact h3 j x u hx (by simpa using hu)
          · cases hx

/-- A part of a struct or an array. -/
theorem part_rel (hc : TysOk P c) {t : TypeId} {off : Nat} {cs : List AV} {vs : Array Value} {v : AV} (h : pack (c.ty t) (cs.drop off) = some v) (hl : cs.length = vs.size)
    (hv : ∀ (j : Nat) (x : AV) (v : Value), cs[j]? = some x → vs[j]? = some v → VRel I ρ x v) : ∃ cv, (part t vs off).run P w = .ok cv w ∧ VRel I ρ v cv := by
  unfold pack at h
  cases hk : (c.ty t).known with
  | false => simp [hk] at h
  | true =>
    obtain ⟨i, d, z, ht⟩ := hc.ty t hk
    simp only [hk] at h
    unfold part
    rw [Sem.run_bind, isAgg_run ht]
    cases ha : (c.ty t).isAgg with
    | false =>
      simp only [ha] at h
      rw [List.head?_drop] at h
      have hlt : off < vs.size := by have := (List.getElem?_eq_some_iff.1 h).1; omega
      have e : vs[off]? = some vs[off] := Array.getElem?_eq_getElem hlt
      refine ⟨vs[off], ?_, hv off v _ h e⟩
      simp [e]
    | true =>
      simp only [ha] at h
      cases hb : Nat.ble (c.ty t).size (cs.drop off).length with
      | false => simp only [hb] at h; cases h
      | true =>
        have hle := Nat.le_of_ble_eq_true hb
        simp only [hb, Option.some.injEq] at h
        subst h
        have hd : (cs.drop off).length = cs.length - off := List.length_drop
        refine ⟨.agg (vs.extract off (off + i.size)), ?_, .agg _ _ _ ?_ (fun j x u hx hu => ?_)⟩
        · simp [Sem.run_bind, sizeOf, typeInfo, ht.info]
        · have hsz := ht.size
          simp only [List.length_take, Array.size_extract, hd]
          rw [hsz]
          omega
        · rw [List.getElem?_take] at hx
          split at hx
          · rw [List.getElem?_drop] at hx
            rw [Array.getElem?_extract] at hu
            split at hu
            · exact hv (off + j) x u hx hu
            · cases hu
          · cases hx

/-! ### New rows -/
/-- A new block of cells. -/
theorem Sim.newRows (hs : Sim I ρ H w) {w' : World} {cells : Array Value} {el : TypeId} (hw : NewIn w w' (.cells cells el (0, 0))) (z n : Nat) (p : Bool) (es : List (List AV)) (hn : es.length ≤ n) (hz : n * z ≤ cells.size)
    (hr : ∀ r ∈ es, r.length = z ∧ ∀ x ∈ r, x.isCell = true)
    (hv : ∀ (i j : Nat) (r : List AV) (x : AV) (v : Value), es[i]? = some r → r[j]? = some x → cells[i * z + j]? = some v → VRel I (bif p then ρ0 else ρ) x v) :
    Sim I (ρ.put H.length (w.heap.size, z, n)) (H ++ [.rows z p es]) w' ∧ Ext H.length I ρ H w I (ρ.put H.length (w.heap.size, z, n)) (H ++ [.rows z p es]) w' := by
  refine hs.alloc hw (.rows z p es) z n ⟨rfl, hn, hr, fun o ho => ?_, fun i j r x v hri hx hcell => ?_⟩
  · have hlt : o < cells.size := by omega
    simp [World.cell?, World.frozen?, hw.at_, hlt]
  · simp [World.cell?, hw.at_] at hcell
    have := hv i j r x v hri hx hcell
    cases p with
    | true => exact this
    | false => exact this.mono (Imm.le_refl I) (hs.mono_put _)
theorem Ren.put_slice {z n len cap : Nat} {g : Nat} (h : len ≤ cap) (hc : cap ≤ n) : VRel I (ρ.put H.length (g, z, n)) (.sl H.length 0 len) (.slice (some ⟨g, 0, none⟩) len cap) :=
  .sl _ _ _ _ _ _ g z n (Ren.put_same _ _ _) (fun _ => ⟨by simp, by omega⟩) h
theorem Ren.put_ptr {z n : Nat} {g : Nat} : VRel I (ρ.put H.length (g, z, n)) (.ptr H.length 0 0) (.pointer (some ⟨g, 0, none⟩)) := by
  have := VRel.ptr (I := I) (ρ.put H.length (g, z, n)) H.length 0 0 g z n (Ren.put_same _ _ _)
  simpa using this
end
end Go.Ev
