/- Words for the operations with symbolic values. -/
import Derived.Test.YtkecfadnfnnfaaaEvSym
set_option linter.unusedVariables false
set_option linter.unusedSimpArgs false
noncomputable section
namespace Go.Ev
section
variable (c : Ctx) (rec : Task → Option Res)
/-! ### Readiness -/
theorem s_norm {β : Type} (nz : Nat → List Nat) (mask m : Nat) (st : St) (k : St → Option β) : st.norm c nz mask m k = nestFr c nz (st.fr.only mask) st.H fun fr H => St.canon m { fr := fr, H := H } k := by
  unfold St.norm; rw [fSp_eq]
theorem s_nestNil {β : Type} (nz : Nat → List Nat) (H : Heap) (k : Fr → Heap → β) : nestFr c nz [] H k = k [] H := rfl
theorem s_nestCons {β : Type} (nz : Nat → List Nat) (t : Nat) (v : AV) (r : Fr) (H : Heap) (k : Fr → Heap → β) : nestFr c nz ((t, v) :: r) H k = nestAV c (nz t) v H fun v H => nestFr c nz r H fun r H => k ((t, v) :: r) H := rfl
theorem s_nestAV0 {β : Type} (v : AV) (H : Heap) (k : AV → Heap → β) : nestAV c [] v H k = k v H := rfl
theorem s_nestAgg {β : Type} (z : Nat) (zs : List Nat) (cs : List AV) (H : Heap) (k : AV → Heap → β) : nestAV c (z :: zs) (.agg cs) H k = nestCells c (z :: zs) cs H fun cs H => k (.agg cs) H := rfl
theorem s_nestSl {β : Type} (z : Nat) (zs : List Nat) (b o l : Nat) (H : Heap) (k : AV → Heap → β) : nestAV c (z :: zs) (.sl b o l) H k = k (.sl b o l) H := by cases z <;> cases zs <;> rfl
theorem s_nestLst {β : Type} (z : Nat) (zs : List Nat) (es : List (List AV)) (H : Heap) (k : AV → Heap → β) : nestAV c (z :: zs) (.lst es) H k = k (.lst es) H := by cases z <;> cases zs <;> rfl
theorem s_nestUndef {β : Type} (z : Nat) (zs : List Nat) (H : Heap) (k : AV → Heap → β) : nestAV c (z :: zs) .undef H k = k .undef H := by cases z <;> cases zs <;> rfl
theorem s_nestNils {β : Type} (e : Nat) (H : Heap) (k : AV → Heap → β) : nestAV c [e + 1] .nils H k = k (.sl H.length 0 (hd (tg e []))) (H ++ [.rows (c.ty e).size true (tg e [])]) := by
  simp only [nestAV, nestCells, fNat_eq, fSp_eq, oneOf]; rfl
theorem s_nestEmp {β : Type} (e : Nat) (H : Heap) (k : AV → Heap → β) : nestAV c [e + 1] .emp H k = k (.sl H.length 0 (hd (tg e []))) (H ++ [.rows (c.ty e).size true (tg e [])]) := by
  simp only [nestAV, nestCells, fNat_eq, fSp_eq, oneOf]; rfl
theorem s_cells0 {β : Type} (vs : List AV) (H : Heap) (k : List AV → Heap → β) : nestCells c [] vs H k = k vs H := by cases vs <;> rfl
theorem s_cellsE {β : Type} (z : Nat) (zs : List Nat) (H : Heap) (k : List AV → Heap → β) : nestCells c (z :: zs) [] H k = k [] H := rfl
theorem s_cellsZ {β : Type} (zs : List Nat) (v : AV) (vs : List AV) (H : Heap) (k : List AV → Heap → β) : nestCells c (0 :: zs) (v :: vs) H k = nestCells c zs vs H fun vs H => k (v :: vs) H := rfl
theorem s_cellsNils {β : Type} (e : Nat) (zs : List Nat) (vs : List AV) (H : Heap) (k : List AV → Heap → β) : nestCells c ((e + 1) :: zs) (.nils :: vs) H k =
    nestCells c zs vs (H ++ [.rows (c.ty e).size true (tg e [])]) fun vs H' => k (.sl H.length 0 (hd (tg e [])) :: vs) H' := by
  simp only [nestCells, fNat_eq, fSp_eq]; rfl
theorem s_cellsEmp {β : Type} (e : Nat) (zs : List Nat) (vs : List AV) (H : Heap) (k : List AV → Heap → β) : nestCells c ((e + 1) :: zs) (.emp :: vs) H k =
    nestCells c zs vs (H ++ [.rows (c.ty e).size true (tg e [])]) fun vs H' => k (.sl H.length 0 (hd (tg e [])) :: vs) H' := by
  simp only [nestCells, fNat_eq, fSp_eq]; rfl
theorem s_cellsSl {β : Type} (e : Nat) (zs : List Nat) (b o l : Nat) (vs : List AV) (H : Heap) (k : List AV → Heap → β) : nestCells c ((e + 1) :: zs) (.sl b o l :: vs) H k = nestCells c zs vs H fun vs H => k (.sl b o l :: vs) H := rfl
theorem s_cellsLst {β : Type} (e : Nat) (zs : List Nat) (es : List (List AV)) (vs : List AV) (H : Heap) (k : List AV → Heap → β) : nestCells c ((e + 1) :: zs) (.lst es :: vs) H k = nestCells c zs vs H fun vs H => k (.lst es :: vs) H := rfl
theorem s_lookZ0 (k : Nat) : lookZ [] k = [] := rfl
theorem s_lookZ (a : Nat) (b : List Nat) (r : List (Nat × List Nat)) (k : Nat) : lookZ ((a, b) :: r) k = if a = k then b else lookZ r k := by
  simp only [lookZ]
  by_cases h : a = k
  · subst h; simp [Nat.beq_refl]
  · have : Nat.beq a k = false := by
      cases hb : Nat.beq a k with
      | true => exact absurd (Nat.eq_of_beq_eq_true hb) h
      | false => rfl
    simp [this, h]
theorem s_lookN0 (k : Nat) : lookN [] k = 0 := rfl
theorem s_lookN (a b : Nat) (r : List (Nat × Nat)) (k : Nat) : lookN ((a, b) :: r) k = if a = k then b else lookN r k := by
  simp only [lookN]
  by_cases h : a = k
  · subst h; simp [Nat.beq_refl]
  · have : Nat.beq a k = false := by
      cases hb : Nat.beq a k with
      | true => exact absurd (Nat.eq_of_beq_eq_true hb) h
      | false => rfl
    simp [this, h]
theorem s_lookP0 (k : Nat) : lookP [] k = .done := rfl
theorem s_lookP (a : Nat) (b : Plan) (r : List (Nat × Plan)) (k : Nat) : lookP ((a, b) :: r) k = if a = k then b else lookP r k := by
  simp only [lookP]
  by_cases h : a = k
  · subst h; simp [Nat.beq_refl]
  · have : Nat.beq a k = false := by
      cases hb : Nat.beq a k with
      | true => exact absurd (Nat.eq_of_beq_eq_true hb) h
      | false => rfl
    simp [this, h]
/-! ### Calls -/
theorem s_callRaw (f : FuncId) (args : List AV) (H : Heap) : callRaw rec f args H =
    reach 0 args H fun seen => renBlks (fun b => indexIn b seen 0) H seen fun H0 => (rec (.fn f (args.map (ren fun b => indexIn b seen 0)) H0)).bind (valK fun v H' =>
      backBlks (backNo seen seen.length H.length) seen H' H fun rest H1 => newBlks (backNo seen seen.length H.length) rest fun new => some (ren (backNo seen seen.length H.length) v, H1 ++ new)) := by
  unfold callRaw
  congr 1
  funext seen
  simp only [fVs_eq, renBlks_eq]
  cases rec (.fn f (args.map (ren fun b => indexIn b seen 0)) (seen.map fun b => (blkAt H b).rn fun b => indexIn b seen 0)) with
  | none => rfl
  | some r =>
    cases r with
    | code => rfl
    | val v H' => simp only [Option.bind_some, valK, fLen, fNat_eq, hV_eq, fSp_eq]
theorem s_callPure (f : FuncId) (args : List AV) (H : Heap) : callPure rec f args H =
    (mapM' (freezeN H 12) args).bind fun fs => (rec (.pfn f fs)).bind (valK fun v _ => if flatN 8 v = true then some (v, H) else (shutAll (args.flatMap (frozenIn 12)) H).bind fun H => some (v, H)) := by
  unfold callPure
  cases mapM' (freezeN H 12) args with
  | none => rfl
  | some fs =>
    simp only [Option.bind_some]
    cases rec (.pfn f fs) with
    | none => rfl
    | some r =>
      cases r with
      | code => rfl
      | val v H' =>
        simp only [Option.bind_some, valK]
        cases flatN 8 v with
        | true => rfl
        | false =>
          simp only
          cases shutAll (args.flatMap (frozenIn 12)) H <;> rfl
theorem s_callClone (f : FuncId) (args : List AV) (H : Heap) (e : TypeId) (h : c.prim f = .clone e) : callAV c rec f args H = cloneAV c e args H := by unfold callAV; rw [h]
theorem s_callNo (f : FuncId) (args : List AV) (H : Heap) (h : c.prim f = .no) : callAV c rec f args H = if (c.raw f || !(args.all fun v => (freezeN H 12 v).isSome)) = true then callRaw rec f args H else callPure rec f args H := by
  unfold callAV; rw [h]
  cases (c.raw f || !(args.all fun v => (freezeN H 12 v).isSome)) <;> rfl
theorem s_shut (H : Heap) (b : Nat) : shut H b = (H[b]?).bind fun k => match k with
    | .rows z true es => some (H.set b (.ro z es))
    | .ro _ _ => some H
    | _ => none := by
  unfold shut
  cases H[b]? with
  | none => rfl
  | some k => cases k with
    | rows z p es => cases p <;> simp [fSp_eq]
    | _ => rfl
theorem s_shutAll (b : Nat) (l : List Nat) (H : Heap) : shutAll (b :: l) H = (shut H b).bind (shutAll l) := by
  simp only [shutAll]; cases shut H b <;> rfl
theorem s_freezeSl (H : Heap) (n b off len : Nat) : freezeN H (n + 1) (.sl b off len) = (H[b]?).bind fun k => match k with
    | .rows _ true es => cutRows es off len fun es => some (.lst es)
    | .ro _ es => cutRows es off len fun es => some (.lst es)
    | _ => none := by
  simp only [freezeN]
  cases H[b]? with
  | none => rfl
  | some k => cases k with
    | rows z p es => cases p <;> rfl
    | _ => rfl
theorem s_freezeAgg (H : Heap) (n : Nat) (cs : List AV) : freezeN H (n + 1) (.agg cs) = (mapM' (freezeN H n) cs).bind fun cs => some (.agg cs) := by
  simp only [freezeN]; cases mapM' (freezeN H n) cs <;> rfl
theorem s_freezeS (H : Heap) (v : AV) : freezeS H v = (freezeN H 12 v).bind fun x => (shutAll (frozenIn 12 v) H).bind fun H => some (x, H) := by
  unfold freezeS freeze
  cases freezeN H 12 v with
  | none => rfl
  | some x => simp only [Option.bind_some]; cases shutAll (frozenIn 12 v) H <;> rfl
theorem s_freezeRt (H : Heap) (vs : List AV) : freezeR H (.tup vs) = (mapM' (freezeN H 12) vs).bind fun vs => some (.tup vs) := by
  simp only [freezeR]
  show (match mapM' (freezeN H 12) vs with | some vs => some (AV.tup vs) | none => none) = _
  cases mapM' (freezeN H 12) vs <;> rfl
theorem s_freezeRint (H : Heap) (k : IntKind) (n : Int) : freezeR H (.int k n) = some (.int k n) := rfl
theorem s_freezeRbool (H : Heap) (b : Bool) : freezeR H (.bool b) = some (.bool b) := rfl
theorem s_freezeRstr (H : Heap) (s : List UInt8) : freezeR H (.str s) = some (.str s) := rfl
theorem s_freezeRlst (H : Heap) (es : List (List AV)) : freezeR H (.lst es) = some (.lst es) := rfl
theorem s_freezeRsl (H : Heap) (b o l : Nat) : freezeR H (.sl b o l) = freezeN H 12 (.sl b o l) := rfl
theorem s_freezeRagg (H : Heap) (cs : List AV) : freezeR H (.agg cs) = freezeN H 12 (.agg cs) := rfl
theorem s_freezeRnils (H : Heap) : freezeR H .nils = some (.lst []) := rfl
/-! ### Rows -/
theorem s_cutRows {α β : Type} (es : List α) (off len : Nat) (k : List α → Option β) : cutRows es off len k = if off + len ≤ es.length then k ((es.drop off).take len) else none := by
  unfold cutRows
  rw [ble_eq']
  by_cases h : off + len ≤ es.length <;> simp [h, fSp_eq]
theorem s_cutHd {β γ : Type} (l : List γ) (r : γ → List AV) (k : List (List AV) → Option β) : cutRows (tm r l) 0 (hd l) k = k (tm r l) := by
  rw [s_cutRows, List.drop_zero, List.take_of_length_le (by simp [hd, tm]), if_pos (by simp [hd, tm])]
theorem s_takeHd {γ : Type} (l : List γ) (r : γ → List AV) : (tm r l).take (hd l) = tm r l := by
  unfold hd tm; exact List.take_of_length_le (by simp)
theorem s_hdMap {γ : Type} (l : List γ) (r : γ → List AV) : hd (tm r l) = hd l := by simp [hd, tm]
theorem s_hdLe {γ : Type} (l : List γ) (r : γ → List AV) : (hd l ≤ (tm r l).length) = True := by simp [hd, tm]
theorem s_mapLen {γ : Type} (l : List γ) (r : γ → List AV) : (tm r l).length = hd l := by simp [hd, tm]
theorem s_elemLst {γ : Type} (e : TypeId) (H : Heap) (n : Int) (l : List γ) (r : γ → List AV) : elemAddr c e H n (.lst (tm r l)) = (idx l n).bind fun x => if Nat.beq (r x).length (c.ty e).size = true then some (.iptr (r x)) else none := by
  simp only [elemAddr, tm, List.length_map, idx]
  cases atIdx n l.length with
  | none => rfl
  | some i =>
    simp only [Option.bind_some, List.getElem?_map]
    cases l[i]? with
    | none => rfl
    | some x => simp only [Option.map_some, Option.bind_some]; cases Nat.beq (r x).length (c.ty e).size <;> rfl
theorem s_elemNil (e : TypeId) (H : Heap) (n : Int) : elemAddr c e H n (.lst []) = none := by
  simp only [elemAddr]
  cases h : atIdx n ([] : List (List AV)).length with
  | none => rfl
  | some i => simp
theorem s_elemSl (e : TypeId) (H : Heap) (n : Int) (b off len : Nat) : elemAddr c e H n (.sl b off len) = (atIdx n len).bind fun i => if isSize H b (c.ty e).size = true then some (.ptr b (off + i) 0) else none := by
  simp only [elemAddr]
  cases atIdx n len with
  | none => rfl
  | some i => simp only [Option.bind_some]; cases isSize H b (c.ty e).size <;> rfl
theorem s_mapGet {γ : Type} (l : List γ) (r : γ → List AV) (i : Nat) : (tm r l)[i]? = (l[i]?).bind fun x => some (r x) := by
  unfold tm; rw [List.getElem?_map]; cases l[i]? <;> rfl
theorem s_loadPtr (t : TypeId) (H : Heap) (b i o : Nat) : loadAV c t H (.ptr b i o) = (rowAt H b i).bind fun r => pack (c.ty t) (r.drop o) := by
  simp only [loadAV, rowAt]
  cases H[b]? with
  | none => rfl
  | some k => cases k with
    | rows z p es => simp only; cases es[i]? <;> rfl
    | ro z es => simp only; cases es[i]? <;> rfl
    | _ => rfl
theorem s_rowAt (H : Heap) (b i : Nat) : rowAt H b i = (H[b]?).bind fun k => match k with
    | .rows _ _ es => es[i]?
    | .ro _ es => es[i]?
    | _ => none := by
  unfold rowAt
  cases H[b]? with
  | none => rfl
  | some k => cases k <;> rfl
theorem s_sameRow (H H' : Heap) (b i : Nat) : sameRow H H' b i = okB ((rowAt H b i).bind fun x => (rowAt H' b i).bind fun y => some (AV.beqL x y)) := by
  unfold sameRow
  cases rowAt H b i <;> cases rowAt H' b i <;> rfl
theorem s_rowSize (H : Heap) (b : Nat) : rowSize H b = (H[b]?).bind fun k => match k with
    | .rows z _ _ => some z
    | .ro z _ => some z
    | _ => none := by
  unfold rowSize
  cases H[b]? with
  | none => rfl
  | some k => cases k <;> rfl
theorem s_isSize (H : Heap) (b n : Nat) : isSize H b n = okB ((rowSize H b).bind fun z => some (Nat.beq z n)) := by
  unfold isSize; cases rowSize H b <;> rfl
theorem s_sameAskedR (H H' : Heap) (k b i : Nat) : sameAsked H H' (k, b, some i) = sameRow H H' b i := rfl
theorem s_sameAskedN (H H' : Heap) (k b : Nat) : sameAsked H H' (k, b, none) = okB ((rowSize H b).bind fun x => (rowSize H' b).bind fun y => some (Nat.beq x y)) := by
  unfold sameAsked
  simp only
  cases rowSize H b <;> cases rowSize H' b <;> rfl
theorem s_storeIn (t : TypeId) (b i o : Nat) (v : List AV) (H : Heap) : storeIn c t b i o v H = (H[b]?).bind fun k => match k with
    | .rows z pu es => (es[i]?).bind fun r => if (Nat.beq v.length (c.ty t).size && Nat.ble (o + v.length) r.length && v.all AV.isCell) = true then (if (c.ty t).known = true then some (H.set b (.rows z pu (es.set i (setFrom r o v)))) else none) else none
    | _ => none := by
  unfold storeIn
  cases H[b]? with
  | none => rfl
  | some k => cases k with
    | rows z pu es =>
      simp only [Option.bind_some]
      cases es[i]? with
      | none => rfl
      | some r =>
        simp only [Option.bind_some, fSp_eq]
        cases (Nat.beq v.length (c.ty t).size && Nat.ble (o + v.length) r.length && v.all AV.isCell) with
        | false => rfl
        | true => simp only [if_true]; cases (c.ty t).known <;> rfl
    | _ => rfl
theorem s_storeAV (t : TypeId) (H : Heap) (b i o : Nat) (v : AV) : storeAV c t H (.ptr b i o) v = (H[b]?).bind fun k => match k with
    | .rows _ true _ => (freezeS H v).bind fun p => storeIn c t b i o p.1.cells p.2
    | .rows _ false _ => nestCells c (c.ty t).zs v.cells H fun v H => storeIn c t b i o v H
    | _ => none := by
  simp only [storeAV]
  cases H[b]? with
  | none => rfl
  | some k => cases k with
    | rows z p es => cases p with
      | true => simp only [Option.bind_some]; cases freezeS H v <;> rfl
      | false => rfl
    | _ => rfl
theorem s_storeOp (t : TypeId) (a v : AV) (H : Heap) : storeOp c t a v H = (storeAV c t H a v).bind fun H => some (.tup [], H) := by
  unfold storeOp; cases storeAV c t H a v <;> rfl
theorem s_okV (H : Heap) (o : Option AV) : okV H o = o.bind fun v => some (v, H) := by cases o <;> rfl
theorem s_rowsSl (H : Heap) (b off len : Nat) : rowsOf H (.sl b off len) = (H[b]?).bind fun k => match k with
    | .rows _ _ es => cutRows es off len some
    | .ro _ es => cutRows es off len some
    | _ => none := by
  simp only [rowsOf]
  cases H[b]? with
  | none => rfl
  | some k => cases k <;> rfl
theorem s_pureSl (H : Heap) (b off len : Nat) : pureRows (.sl b off len) H = okB ((H[b]?).bind fun k => match k with | .rows _ p _ => some p | .ro _ _ => some true | _ => some false) := by
  simp only [pureRows]
  cases H[b]? with
  | none => rfl
  | some k => cases k <;> rfl
def appTo (e : TypeId) (H : Heap) (new : List (List AV)) : AV → Option (AV × Heap)
  | .nils => appendNew c e H new
  | .emp => appendNew c e H new
  | .sl b o len => if o = 0 then (H[b]?).bind fun k => match k with
    | .rows z true es => if Nat.beq z (c.ty e).size = true ∧ (len + new.length) * (c.ty e).bytes ≤ 35184372088832 ∧ len ≤ es.length ∧ 1 ≤ (c.ty e).bytes then some (.sl H.length 0 (hd (es.take len ++ new)), H.set b .dead ++ [.rows z true (es.take len ++ new)]) else none
    | _ => none else none
  | _ => none
theorem s_append (t tx : TypeId) (H : Heap) (s x : AV) : appendAV c t tx H s x = if (elemOf (c.ty tx)).isSome = true then (elemOf (c.ty t)).bind fun e => (rowsOf H x).bind fun new =>
    if pureRows x H = true then (if (new.all fun r => Nat.beq r.length (c.ty e).size) = true then appTo c e H new s else none) else none else none := by
  unfold appendAV
  cases (elemOf (c.ty tx)).isSome with
  | false => rfl
  | true =>
    simp only [if_true]
    cases elemOf (c.ty t) with
    | none => rfl
    | some e =>
      simp only [Option.bind_some]
      cases rowsOf H x with
      | none => rfl
      | some new =>
        simp only [Option.bind_some]
        cases pureRows x H with
        | false => rfl
        | true =>
          simp only [if_true]
          cases (new.all fun r => Nat.beq r.length (c.ty e).size) with
          | false => rfl
          | true =>
            simp only [if_true]
            cases s with
            | sl b o len =>
              cases o with
              | succ o => rfl
              | zero =>
                simp only [appTo, if_true]
                cases H[b]? with
                | none => rfl
                | some k => cases k with
                  | rows z p es => cases p with
                    | false => rfl
                    | true =>
                      simp only [Option.bind_some, fSp_eq, ble_eq']
                      by_cases h1 : Nat.beq z (c.ty e).size = true <;> by_cases h2 : (len + new.length) * (c.ty e).bytes ≤ 35184372088832 <;> by_cases h3 : len ≤ es.length <;> by_cases h4 : 1 ≤ (c.ty e).bytes <;> simp [h1, h2, h3, h4, hd]
                  | _ => rfl
            | _ => rfl
theorem s_appendNew (e : TypeId) (H : Heap) (new : List (List AV)) : appendNew c e H new = if new.length * (c.ty e).bytes ≤ 35184372088832 ∧ 1 ≤ (c.ty e).bytes then some (.sl H.length 0 (hd new), H ++ [.rows (c.ty e).size true new]) else none := by
  unfold appendNew
  simp only [fSp_eq, ble_eq']
  by_cases h1 : new.length * (c.ty e).bytes ≤ 35184372088832 <;> by_cases h2 : 1 ≤ (c.ty e).bytes <;> simp [h1, h2, hd]
theorem s_clone (e : TypeId) (x : AV) (H : Heap) : cloneAV c e [x] H = (rowsOf H x).bind fun new => if pureRows x H = true then (if (new.all fun r => Nat.beq r.length (c.ty e).size) = true then appendNew c e H new else none) else none := by
  simp only [cloneAV]
  cases rowsOf H x with
  | none => rfl
  | some new =>
    simp only [Option.bind_some]
    cases pureRows x H with
    | false => rfl
    | true =>
      simp only [if_true]
      cases (new.all fun r => Nat.beq r.length (c.ty e).size) <;> rfl
theorem s_fillRows (size : Nat) (rows : List (List AV)) (i : Nat) (v : AV) (rest : List (Nat × AV)) (H : Heap) : fillRows size rows ((i, v) :: rest) H = (freezeS H v).bind fun p =>
    if (Nat.beq p.1.cells.length size && Nat.blt i rows.length && p.1.cells.all AV.isCell) = true then fillRows size (rows.set i p.1.cells) rest p.2 else none := by
  simp only [fillRows]
  cases freezeS H v with
  | none => rfl
  | some p =>
    simp only [Option.bind_some, fSp_eq]
    cases (Nat.beq p.1.cells.length size && Nat.blt i rows.length && p.1.cells.all AV.isCell) <;> rfl
theorem s_fillNil (size : Nat) (rows : List (List AV)) (H : Heap) : fillRows size rows [] H = some (rows, H) := rfl
theorem s_buildSlice (i : TI) (len : Nat) (parts : List (Nat × AV)) (H : Heap) : buildSliceAV c i len parts H = (elemOf i).bind fun e =>
    if (Nat.ble (len * (c.ty e).size) 16777216 && (c.ty e).zero.all AV.isCell) = true then (fillRows (c.ty e).size (List.replicate len ((c.ty e).zero.map lstZ)) parts H).bind fun p => some (.sl p.2.length 0 (if p.1.length = len then hd (tg e p.1) else len), p.2 ++ [.rows (c.ty e).size true (tg e p.1)]) else none := by
  unfold buildSliceAV
  cases elemOf i with
  | none => rfl
  | some e =>
    simp only [Option.bind_some]
    cases (Nat.ble (len * (c.ty e).size) 16777216 && (c.ty e).zero.all AV.isCell) with
    | false => rfl
    | true =>
      simp only [if_true]
      cases fillRows (c.ty e).size (List.replicate len ((c.ty e).zero.map lstZ)) parts H with
      | none => rfl
      | some p =>
        simp only [Option.bind_some, fSp_eq]
        have : (if p.1.length = len then hd (tg e p.1) else len) = len := by split <;> simp_all [hd, tg]
        rw [this]; rfl
theorem s_match5 {α : Type} (a b c d e : Bool) (x : Option α) : (match a && b && c && d && e with | true => x | false => none) = if a = true then if b = true then if c = true then if d = true then if e = true then x else none else none else none else none else none := by
  cases a <;> cases b <;> cases c <;> cases d <;> cases e <;> rfl
theorem s_makeSlice (i : TI) (n m : Int) (H : Heap) : makeSliceAV c i (.int .i64 n) (.int .i64 m) H = (elemOf i).bind fun e =>
    if 0 ≤ n then if n = m then if n.toNat * (c.ty e).bytes ≤ 140737488355328 then if 1 ≤ (c.ty e).bytes then if (c.ty e).zero.all AV.isCell = true then
      some (.sl H.length 0 (hd (tg e (List.replicate n.toNat ((c.ty e).zero.map lstZ)))), H ++ [.rows (c.ty e).size true (tg e (List.replicate n.toNat ((c.ty e).zero.map lstZ)))]) else none else none else none else none else none := by
  unfold makeSliceAV
  cases elemOf i with
  | none => rfl
  | some e =>
    simp only [Option.bind_some, fSp_eq, ble_eq', leI_eq, eqI_eq]
    refine (s_match5 _ _ _ _ _ _).trans ?_
    simp only [decide_eq_true_eq, hd, tg, List.length_replicate]
def bnd (n : Int) (most : Nat) : Option Nat := if 0 ≤ n ∧ n ≤ (most : Int) then some n.toNat else none
theorem s_boundN (d most : Nat) : bound none d most = some d := rfl
theorem s_boundS (k : IntKind) (n : Int) (d most : Nat) : bound (some (.int k n)) d most = bnd n most := by
  simp only [bound, bnd, leI_eq]
  by_cases h1 : 0 ≤ n <;> by_cases h2 : n ≤ (most : Int) <;> simp [h1, h2]
theorem s_sliceStr (t : TypeId) (H : Heap) (s : List UInt8) (lo hi : Option AV) (ht : (c.ty t).d = .str) : sliceAV c t H (.str s) lo hi = (bound hi (hd s) (hd s)).bind fun h => (bound lo 0 h).bind fun l => some (.str ((s.drop l).take (h - l))) := by
  simp only [sliceAV, ht, hd, fSp_eq]
  cases bound hi s.length s.length with
  | none => rfl
  | some h => simp only [Option.bind_some]; cases bound lo 0 h <;> rfl
theorem s_sliceLst (t : TypeId) (H : Heap) (es : List (List AV)) (lo hi : Option AV) : sliceAV c t H (.lst es) lo hi = (elemOf (c.ty t)).bind fun e => (bound hi (hd es) (hd es)).bind fun h => (bound lo 0 h).bind fun l =>
    if (es.all fun r => Nat.beq r.length (c.ty e).size) = true then some (.lst ((es.drop l).take (h - l))) else none := by
  simp only [sliceAV, hd, fSp_eq]
  cases elemOf (c.ty t) with
  | none => rfl
  | some e =>
    simp only [Option.bind_some]
    cases bound hi es.length es.length with
    | none => rfl
    | some h =>
      simp only [Option.bind_some]
      cases bound lo 0 h with
      | none => rfl
      | some l => simp only [Option.bind_some]; cases (es.all fun r => Nat.beq r.length (c.ty e).size) <;> rfl
theorem s_sliceSl (t : TypeId) (H : Heap) (b off len : Nat) (lo hi : Option AV) : sliceAV c t H (.sl b off len) lo hi = (elemOf (c.ty t)).bind fun e => (bound hi len len).bind fun h => (bound lo 0 h).bind fun l =>
    if isSize H b (c.ty e).size = true then some (.sl b (off + l) (h - l)) else none := by
  simp only [sliceAV]
  cases elemOf (c.ty t) with
  | none => rfl
  | some e =>
    simp only [Option.bind_some]
    cases bound hi len len with
    | none => rfl
    | some h =>
      simp only [Option.bind_some]
      cases bound lo 0 h with
      | none => rfl
      | some l => simp only [Option.bind_some]; cases isSize H b (c.ty e).size <;> rfl
theorem s_sliceNils (t : TypeId) (H : Heap) (lo hi : Option AV) : sliceAV c t H .nils lo hi = (elemOf (c.ty t)).bind fun _ => (bound hi 0 0).bind fun _ => (bound lo 0 0).bind fun _ => some .nils := by
  simp only [sliceAV]
  cases elemOf (c.ty t) with
  | none => rfl
  | some e =>
    simp only [Option.bind_some]
    cases bound hi 0 0 with
    | none => rfl
    | some h => simp only [Option.bind_some]; cases bound lo 0 0 <;> rfl
theorem s_copy (t : TypeId) (H : Heap) (b off len : Nat) (x : AV) : copyAV c t H (.sl b off len) x = (elemOf (c.ty t)).bind fun e => (rowsOf H x).bind fun src => (H[b]?).bind fun k => match k with
    | .rows z true es => if pureRows x H = true then (if (src.all fun r => Nat.beq r.length z) = true ∧ Nat.beq z (c.ty e).size = true ∧ off + len ≤ es.length then
        some (.int .i64 (hd (src.take len) : Int), H.set b (.rows z true (es.take off ++ src.take len ++ es.drop (off + hd (src.take len))))) else none) else none
    | _ => none := by
  simp only [copyAV]
  cases elemOf (c.ty t) with
  | none => rfl
  | some e =>
    simp only [Option.bind_some]
    cases rowsOf H x with
    | none => rfl
    | some src =>
      simp only [Option.bind_some]
      cases H[b]? with
      | none => rfl
      | some k => cases k with
        | rows z p es => cases p with
          | false => rfl
          | true =>
            simp only [Option.bind_some]
            cases pureRows x H with
            | false => rfl
            | true =>
              simp only [if_true, fSp_eq, ble_eq', hd]
              by_cases h1 : (src.all fun r => Nat.beq r.length z) = true <;> by_cases h2 : Nat.beq z (c.ty e).size = true <;> by_cases h3 : off + len ≤ es.length <;> simp [h1, h2, h3]
        | _ => rfl
theorem s_lenLst (H : Heap) (es : List (List AV)) : lenAV H (.lst es) = some (hd es : Int) := rfl
theorem s_lenStr (H : Heap) (s : List UInt8) : lenAV H (.str s) = some (hd s : Int) := rfl
theorem s_lenOp (i : TI) (H : Heap) (x : AV) : lenOp c i H x = (lenInt c i H x).bind fun n => some (.int .i64 n, H) := by
  unfold lenOp; cases lenInt c i H x <;> rfl
theorem s_pickB (p : Bool) (a b : AV) : pickAV (.bool p) a b = if p = true then some a else some b := by cases p <;> rfl
theorem s_pickSame (p : Bool) (a : AV) : pickAV (.bool p) a a = some a := by cases p <;> rfl
theorem s_quo (k : IntKind) (x y : Int) : intBin .quo k x y = if y = 0 then none else some (.int k (wr k (x.tdiv y))) := by
  simp only [intBin, eqI_eq]; by_cases h : y = 0 <;> simp [h]
theorem s_rem (k : IntKind) (x y : Int) : intBin .rem k x y = if y = 0 then none else some (.int k (x.tmod y)) := by
  simp only [intBin, eqI_eq]; by_cases h : y = 0 <;> simp [h]
theorem s_shl (i : TI) (cst : Bool) (k j : IntKind) (a b : Int) : binop c i cst .shl (.int k a) (.int j b) = if b < 0 then none else some (.int k (wr k (a * 2 ^ (min b.toNat k.bits)))) := by
  simp only [binop, ltI_eq]; by_cases h : b < 0 <;> simp [h]
theorem s_shr (i : TI) (cst : Bool) (k j : IntKind) (a b : Int) : binop c i cst .shr (.int k a) (.int j b) = if b < 0 then none else some (.int k (a.fdiv (2 ^ (min b.toNat k.bits)))) := by
  simp only [binop, ltI_eq]; by_cases h : b < 0 <;> simp [h]
theorem s_strAdd (x y : List UInt8) : strBin .add x y = if hd x + hd y ≤ 9223372036854775807 then some (.str (x ++ y)) else none := by
  simp only [strBin, ble_eq', hd]; by_cases h : x.length + y.length ≤ 9223372036854775807 <;> simp [h]
theorem s_indexStr (s : List UInt8) (n : Int) : indexStr s n = (idx s n).bind fun b => some (.int .u8 b.toNat) := by
  simp only [indexStr, idx]
  cases atIdx n s.length with
  | none => rfl
  | some i => simp only [Option.bind_some]; cases s[i]? <;> rfl
theorem s_indexArr (m : Nat) (e : TypeId) (cs : List AV) (n : Int) : indexArr c m e cs n = (atIdx n m).bind fun i => pack (c.ty e) (cs.drop (i * (c.ty e).size)) := by
  simp only [indexArr]; cases atIdx n m <;> rfl
theorem s_allTrue {α : Type} (l : List α) : (l.all fun _ => true) = true := by simp
theorem s_mapAll {γ : Type} (l : List γ) (r : γ → List AV) (p : List AV → Bool) : (tm r l).all p = l.all fun x => p (r x) := by simp [tm, List.all_map, Function.comp_def]
theorem s_mapApp {γ : Type} (l m : List γ) (r : γ → List AV) : tm r l ++ tm r m = tm r (l ++ m) := by simp [tm]
theorem s_mapTake {γ : Type} (l : List γ) (r : γ → List AV) (n : Nat) : (tm r l).take n = tm r (l.take n) := by simp [tm]
theorem s_mapDrop {γ : Type} (l : List γ) (r : γ → List AV) (n : Nat) : (tm r l).drop n = tm r (l.drop n) := by simp [tm]
theorem tm_inj {γ : Type} {r : γ → List AV} (hr : ∀ x y, r x = r y → x = y) : ∀ (l m : List γ), (tm r l = tm r m) = (l = m)
  | [], [] => by simp [tm]
  | [], b :: m => by simp [tm]
  | a :: l, [] => by simp [tm]
  | a :: l, b :: m => by
    have ih := tm_inj hr l m
    have e : (tm r (a :: l) = tm r (b :: m)) = (r a = r b ∧ tm r l = tm r m) := by simp [tm]
    rw [e, ih]
    apply propext
    constructor
    · rintro ⟨h1, rfl⟩; rw [hr a b h1]
    · intro h; cases h; exact ⟨rfl, rfl⟩
theorem s_ofNatNonneg (n : Nat) : (0 ≤ (n : Int)) = True := by simp
theorem s_natToNat (n : Nat) : ((n : Int)).toNat = n := by simp
end
end Go.Ev
