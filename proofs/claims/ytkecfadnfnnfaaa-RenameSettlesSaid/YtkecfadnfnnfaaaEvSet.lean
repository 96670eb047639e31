/- The words by which the evaluator is walked through. -/
import Derived.Test.YtkecfadnfnnfaaaEvSyo
import Derived.Test.YtkecfadnfnnfaaaEvSim
noncomputable section
namespace Go.Ev
set_option linter.unusedVariables false
section
variable {α β γ : Type}
theorem s_some (a : α) (f : α → Option β) : (some a).bind f = f a := rfl
theorem s_none (f : α → Option β) : (none : Option α).bind f = none := rfl
theorem s_mapSome (a : α) (f : α → β) : (some a).map f = some (f a) := rfl
theorem s_mapNone (f : α → β) : (none : Option α).map f = none := rfl
/-! ### What is looked at, and what is left for later -/
/-- A hand that always moves: so that a congruence always counts as used, and nothing else is looked at. -/
inductive Tick where
  | mk
theorem Tick.one (a b : Tick) : a = b := by cases a; cases b; rfl
def tick : Tick := .mk
def tock : Tick := .mk
theorem tick_tock : tick = tock := Tick.one _ _
theorem z_bind {tk : Tick} (ht : tick = tk) {o o' : Option α} (h : o = o') (f : α → Option β) : o.bind f = o'.bind f := by rw [h]
theorem z_map {tk : Tick} (ht : tick = tk) {o o' : Option α} (h : o = o') (f : α → β) : o.map f = o'.map f := by rw [h]
/-- A choice whose ways are not looked at before it is made. -/
def sel (p : Prop) [Decidable p] (a b : α) : α := if p then a else b
theorem s_sel (p : Prop) [Decidable p] (a b : α) : (if p then a else b) = sel p a b := rfl
theorem s_selT [d : Decidable True] (a b : α) : sel True a b = a := if_pos trivial
theorem s_selF [d : Decidable False] (a b : α) : sel False a b = b := if_neg id
theorem s_bindSel {p : Prop} [Decidable p] (a b : Option α) (f : α → Option β) : (sel p a b).bind f = sel p (a.bind f) (b.bind f) := s_bindIf a b f
theorem s_selMap {p : Prop} [Decidable p] (a b : Option α) (f : α → β) : (sel p a b).map f = sel p (a.map f) (b.map f) := s_ifMap a b f
theorem s_selNot {p : Prop} [Decidable p] (a b : α) : sel (¬ p) a b = sel p b a := s_ifNot a b
theorem s_selAnd {p q : Prop} [Decidable p] [Decidable q] (x y : α) : sel (p ∧ q) x y = sel p (sel q x y) y := s_ifAnd x y
theorem s_selOr {p q : Prop} [Decidable p] [Decidable q] (x y : α) : sel (p ∨ q) x y = sel p x (sel q x y) := s_ifOr x y
theorem s_okSel {p : Prop} [Decidable p] (a b : Option Bool) : okB (sel p a b) = sel p (okB a) (okB b) := s_okIf a b
theorem s_selSome {p : Prop} [Decidable p] (a b : Bool) : (sel p a b = true) = (sel p (a = true) (b = true)) := by
  unfold sel; by_cases h : p <;> simp [h]
theorem sel_congr {p q : Prop} [Decidable p] [Decidable q] {a b a' b' : α} (h : p = q) (h1 : p → a = a') (h2 : ¬ p → b = b') : sel p a b = sel q a' b' := by
  subst h
  unfold sel
  by_cases hp : p
  · rw [if_pos hp, if_pos hp]; exact h1 hp
  · rw [if_neg hp, if_neg hp]; exact h2 hp
theorem z_sel {tk : Tick} (ht : tick = tk) {p q : Prop} [dp : Decidable p] [dq : Decidable q] (h : p = q) (a b : α) : sel p a b = sel q a b := by
  subst h
  unfold sel
  by_cases hp : p
  · rw [if_pos hp, if_pos hp]
  · rw [if_neg hp, if_neg hp]
end
section
variable (c : Ctx) (rec : Task → Option Res)
def renL (σ : Nat → Nat) (n : Nat) : List AV → List AV
  | [] => []
  | a :: l => renN σ n a :: renL σ n l
theorem renL_eq (σ : Nat → Nat) (n : Nat) (l : List AV) : l.map (renN σ n) = renL σ n l := by
  induction l with
  | nil => rfl
  | cons a l ih => simp [renL, ih]
def renLL (σ : Nat → Nat) : List (List AV) → List (List AV)
  | [] => []
  | r :: l => renL σ 8 r :: renLL σ l
theorem renLL_eq (σ : Nat → Nat) (l : List (List AV)) : (l.map fun r => r.map (Ev.ren σ)) = renLL σ l := by
  induction l with
  | nil => rfl
  | cons a l ih => simp only [List.map_cons, renLL, ih, ← renL_eq]; rfl
def ixN (seen : List Nat) (b : Nat) : Nat := indexIn b seen 0
def renF (σ : Nat → Nat) : Fr → Fr
  | [] => []
  | p :: r => (p.1, renN σ 8 p.2) :: renF σ r
theorem renF_eq (σ : Nat → Nat) (fr : Fr) : (fr.map fun p => (p.1, Ev.ren σ p.2)) = renF σ fr := by
  induction fr with
  | nil => rfl
  | cons a l ih => simp only [List.map_cons, renF, ih]; rfl
def renB (σ : Nat → Nat) (H : Heap) : List Nat → Heap
  | [] => []
  | b :: l => (blkAt H b).rn σ :: renB σ H l
theorem renB_eq (σ : Nat → Nat) (H : Heap) (l : List Nat) : (l.map fun b => (blkAt H b).rn σ) = renB σ H l := by
  induction l with
  | nil => rfl
  | cons a l ih => simp only [List.map_cons, renB, ih]
theorem s_rnF (σ : Nat → Nat) (z : Nat) (es : List (List AV)) : (Blk.rows z false es).rn σ = .rows z false (renLL σ es) := by
  unfold Blk.rn; simp only; rw [renLL_eq]
theorem s_rnT (σ : Nat → Nat) (z : Nat) (es : List (List AV)) : (Blk.rows z true es).rn σ = .rows z true es := rfl
theorem s_rnRo (σ : Nat → Nat) (z : Nat) (es : List (List AV)) : (Blk.ro z es).rn σ = .ro z es := rfl
theorem s_rnMap (σ : Nat → Nat) (es : List (AV × AV)) : (Blk.map es).rn σ = .map es := rfl
theorem s_rnDead (σ : Nat → Nat) : Blk.dead.rn σ = .dead := rfl
theorem s_renAgg (σ : Nat → Nat) (n : Nat) (cs : List AV) : renN σ (n + 1) (.agg cs) = .agg (renL σ n cs) := by rw [← renL_eq]; rfl
theorem s_renTup (σ : Nat → Nat) (n : Nat) (cs : List AV) : renN σ (n + 1) (.tup cs) = .tup (renL σ n cs) := by rw [← renL_eq]; rfl
theorem s_renFn0 (σ : Nat → Nat) (n : Nat) (f : FuncId) : renN σ (n + 1) (.fn f []) = .fn f [] := rfl
theorem s_renFn (σ : Nat → Nat) (n : Nat) (f : FuncId) (a : AV) (cs : List AV) : renN σ (n + 1) (.fn f (a :: cs)) = .fn f (renL σ n (a :: cs)) := by rw [← renL_eq]; rfl
theorem s_renPtr (σ : Nat → Nat) (n b i o : Nat) : renN σ (n + 1) (.ptr b i o) = .ptr (σ b) i o := rfl
theorem s_renSl (σ : Nat → Nat) (n b i o : Nat) : renN σ (n + 1) (.sl b i o) = .sl (σ b) i o := rfl
theorem s_renMap (σ : Nat → Nat) (n b : Nat) : renN σ (n + 1) (.map b) = .map (σ b) := rfl
theorem s_renInt (σ : Nat → Nat) (n : Nat) (k : IntKind) (i : Int) : renN σ (n + 1) (.int k i) = .int k i := rfl
theorem s_renBool (σ : Nat → Nat) (n : Nat) (b : Bool) : renN σ (n + 1) (.bool b) = .bool b := rfl
theorem s_renStr (σ : Nat → Nat) (n : Nat) (s : List UInt8) : renN σ (n + 1) (.str s) = .str s := rfl
theorem s_renLst (σ : Nat → Nat) (n : Nat) (es : List (List AV)) : renN σ (n + 1) (.lst es) = .lst es := rfl
theorem s_renIptr (σ : Nat → Nat) (n : Nat) (es : List AV) : renN σ (n + 1) (.iptr es) = .iptr es := rfl
theorem s_renUndef (σ : Nat → Nat) (n : Nat) : renN σ (n + 1) .undef = .undef := rfl
theorem s_renNils (σ : Nat → Nat) (n : Nat) : renN σ (n + 1) .nils = .nils := rfl
theorem s_renEmp (σ : Nat → Nat) (n : Nat) : renN σ (n + 1) .emp = .emp := rfl
theorem s_renNilp (σ : Nat → Nat) (n : Nat) : renN σ (n + 1) .nilp = .nilp := rfl
theorem s_renNilm (σ : Nat → Nat) (n : Nat) : renN σ (n + 1) .nilm = .nilm := rfl
theorem s_renNilf (σ : Nat → Nat) (n : Nat) : renN σ (n + 1) .nilf = .nilf := rfl
theorem s_renNili (σ : Nat → Nat) (n : Nat) : renN σ (n + 1) .nili = .nili := rfl
theorem s_renIface (σ : Nat → Nat) (n : Nat) (t : TypeId) (v : AV) : renN σ (n + 1) (.iface t v) = .iface t (renN σ n v) := rfl
theorem s_ren (σ : Nat → Nat) (v : AV) : Ev.ren σ v = renN σ 8 v := rfl
theorem s_refs (v : AV) : refs v = refsN 8 v := rfl
def refsRows : List (List AV) → List Nat
  | [] => []
  | r :: l => r.flatMap refs ++ refsRows l
theorem s_blkRefs (z : Nat) (es : List (List AV)) : (Blk.rows z false es).refs = refsRows es := by
  show es.flatMap (fun r => r.flatMap Ev.refs) = refsRows es
  induction es with
  | nil => rfl
  | cons a l ih => rw [List.flatMap_cons, ih]; rfl
theorem s_blkRefsT (z : Nat) (es : List (List AV)) : (Blk.rows z true es).refs = [] := rfl
theorem s_blkRefsRo (z : Nat) (es : List (List AV)) : (Blk.ro z es).refs = [] := rfl
theorem s_blkRefsMap (es : List (AV × AV)) : (Blk.map es).refs = [] := rfl
theorem s_blkRefsDead : Blk.dead.refs = [] := rfl
def refsB (H : Heap) : List Nat → List Nat
  | [] => []
  | b :: l => (blkAt H b).refs ++ refsB H l
theorem refsB_eq (H : Heap) (l : List Nat) : (l.flatMap fun b => (blkAt H b).refs) = refsB H l := by
  induction l with
  | nil => rfl
  | cons a l ih => rw [List.flatMap_cons, ih]; rfl
theorem s_reach {β : Type} (m : Nat) (vs : List AV) (H : Heap) (k : List Nat → Option β) : reach m vs H k = (visit H 100000 (refsB H (downFrom m).reverse ++ vs.flatMap refs) (downFrom m)).bind fun seen => k seen.reverse := by
  simp only [reach, fSp_eq, refsB_eq]
  cases visit H 100000 (refsB H (downFrom m).reverse ++ vs.flatMap refs) (downFrom m) <;> rfl
theorem s_visit0 (H : Heap) (n : Nat) (seen : List Nat) : visit H (n + 1) [] seen = some seen := rfl
theorem s_visit (H : Heap) (n b : Nat) (todo seen : List Nat) : visit H (n + 1) (b :: todo) seen = if isIn b seen = true then visit H n todo seen else visit H n ((blkAt H b).refs ++ todo) (b :: seen) := by
  simp only [visit]
  cases isIn b seen <;> simp [fSp_eq]
def frVals : Fr → List AV
  | [] => []
  | p :: r => p.2 :: frVals r
theorem frVals_eq (fr : Fr) : fr.map (·.2) = frVals fr := by
  induction fr with
  | nil => rfl
  | cons a l ih => simp [frVals, ← ih]
theorem s_canon {β : Type} (m : Nat) (st : St) (k : St → Option β) : st.canon m k = reach m (frVals st.fr) st.H fun seen => k ⟨renF (ixN seen) st.fr, renB (ixN seen) st.H seen⟩ := by
  unfold St.canon
  rw [frVals_eq]
  congr 1
  funext seen
  rw [renFr_eq, renBlks_eq, renF_eq, renB_eq]; rfl
theorem s_call (f : FuncId) (args : List AV) (H : Heap) : callRaw rec f args H =
    reach 0 args H fun seen => (rec (.fn f (renL (ixN seen) 8 args) (renB (ixN seen) H seen))).bind (valK fun v H' =>
      some (renN (backNo seen seen.length H.length) 8 v, laid (backNo seen seen.length H.length) seen H' H ++ (H'.drop seen.length).map (Blk.rn (backNo seen seen.length H.length)))) := by
  rw [s_callRaw]
  congr 1
  funext seen
  rw [renBlks_eq, renB_eq]
  simp only [backBlks_eq, newBlks_eq]
  rw [← renL_eq]
  rfl
def mvB2 (σ : Nat → Nat) (mv : List Nat) : Nat → Heap → Heap
  | _, [] => []
  | i, x :: r => (if isIn i mv = true then .dead else x.rn σ) :: mvB2 σ mv (i + 1) r
theorem mvB2_eq (σ : Nat → Nat) (mv : List Nat) : ∀ (i : Nat) (H : Heap), mvB σ mv i H = mvB2 σ mv i H
  | _, [] => rfl
  | i, x :: r => by
    simp only [mvB, mvB2, mvB2_eq σ mv (i + 1) r]
    congr 1
    cases h : isIn i mv with
    | true => rw [if_pos ((isIn_iff i mv).1 h), if_pos rfl]
    | false => rw [if_neg (fun hm => by rw [(isIn_iff i mv).2 hm] at h; cases h), if_neg (by simp)]
theorem s_mvIf {β : Type} (f : FuncId) (args : List AV) (H : Heap) (k : Heap → β) : mvIf c f args H k = if c.stay f = true then k H else
    k (mvB2 (mvNo H.length (mvFrom (args.flatMap refs) 0 H)) (mvFrom (args.flatMap refs) 0 H) 0 H ++ (mvFrom (args.flatMap refs) 0 H).map (blkAt H)) := by
  unfold mvIf
  cases c.stay f with
  | true => rfl
  | false => simp only [ifB, mvHeap_eq, mvB2_eq]; rfl
theorem s_mvFromT (keep : List Nat) (i z : Nat) (es : List (List AV)) (r : Heap) : mvFrom keep i (.rows z true es :: r) = if isIn i keep = true then mvFrom keep (i + 1) r else i :: mvFrom keep (i + 1) r := by
  simp only [mvFrom]; cases isIn i keep <;> rfl
theorem s_mvFromF (keep : List Nat) (i z : Nat) (es : List (List AV)) (r : Heap) : mvFrom keep i (.rows z false es :: r) = mvFrom keep (i + 1) r := rfl
theorem s_mvFromRo (keep : List Nat) (i z : Nat) (es : List (List AV)) (r : Heap) : mvFrom keep i (.ro z es :: r) = mvFrom keep (i + 1) r := rfl
theorem s_mvFromMap (keep : List Nat) (i : Nat) (es : List (AV × AV)) (r : Heap) : mvFrom keep i (.map es :: r) = mvFrom keep (i + 1) r := rfl
theorem s_mvFromDead (keep : List Nat) (i : Nat) (r : Heap) : mvFrom keep i (.dead :: r) = mvFrom keep (i + 1) r := rfl
theorem s_mvFrom0 (keep : List Nat) (i : Nat) : mvFrom keep i [] = [] := rfl
theorem s_mvNo (m : Nat) (mv : List Nat) (b : Nat) : mvNo m mv b = if isIn b mv = true then m + indexIn b mv 0 else b := by
  unfold mvNo; cases isIn b mv <;> rfl
theorem s_isIn (b x : Nat) (l : List Nat) : isIn b (x :: l) = if x = b then true else isIn b l := by
  rw [isIn_cons]
  by_cases h : x = b
  · subst h; simp [Nat.beq_refl, ifB]
  · have : Nat.beq x b = false := by
      cases hb : Nat.beq x b with
      | true => exact absurd (Nat.eq_of_beq_eq_true hb) h
      | false => rfl
    simp [this, h, ifB]
theorem s_indexIn (b x : Nat) (l : List Nat) (i : Nat) : indexIn b (x :: l) i = if x = b then i else indexIn b l (i + 1) := by
  rw [indexIn_cons]
  by_cases h : x = b
  · subst h; simp [Nat.beq_refl, ifB]
  · have : Nat.beq x b = false := by
      cases hb : Nat.beq x b with
      | true => exact absurd (Nat.eq_of_beq_eq_true hb) h
      | false => rfl
    simp [this, h, ifB]
theorem s_backNo (seen : List Nat) (m n j : Nat) : backNo seen m n j = if j < m then seen.getD j 0 else n + (j - m) := by
  unfold backNo
  rw [blt_eq]
  by_cases h : j < m <;> simp [h]
theorem s_getD0 (a : Nat) (l : List Nat) (d : Nat) : (a :: l).getD 0 d = a := rfl
theorem s_getDS (a : Nat) (l : List Nat) (i d : Nat) : (a :: l).getD (i + 1) d = l.getD i d := rfl
theorem s_get (t : Nat) (v : AV) (r : Fr) (u : Nat) : Fr.get ((t, v) :: r) u = if t = u then v else Fr.get r u := by
  rw [Fr.get_cons]
  by_cases h : t = u
  · subst h; simp [Nat.beq_refl, ifB]
  · have : Nat.beq t u = false := by
      cases hb : Nat.beq t u with
      | true => exact absurd (Nat.eq_of_beq_eq_true hb) h
      | false => rfl
    simp [this, h, ifB]
theorem s_set (t : Nat) (x : AV) (r : Fr) (d : Nat) (v : AV) : Fr.set ((t, x) :: r) d v = if t = d then (d, v) :: r else if d < t then (d, v) :: (t, x) :: r else (t, x) :: Fr.set r d v := by
  rw [Fr.set_cons]
  by_cases h : t = d
  · subst h; simp [Nat.beq_refl, ifB]
  · have : Nat.beq t d = false := by
      cases hb : Nat.beq t d with
      | true => exact absurd (Nat.eq_of_beq_eq_true hb) h
      | false => rfl
    by_cases h2 : d < t <;> simp [this, h, h2, ifB, blt_eq]
theorem s_sift (mask t : Nat) (v : AV) (r : Fr) : Fr.sift mask ((t, v) :: r) = if tb mask t = true then (t, v) :: Fr.sift mask r else Fr.sift mask r := by
  rw [Fr.sift_cons]; cases tb mask t <;> rfl
theorem s_only (mask : Nat) (fr : Fr) : Fr.only mask fr = if mask = 0 then fr else Fr.sift mask fr := by
  unfold Fr.only
  by_cases h : mask = 0
  · subst h; rfl
  · have : Nat.beq mask 0 = false := by
      cases hb : Nat.beq mask 0 with
      | true => exact absurd (Nat.eq_of_beq_eq_true hb) h
      | false => rfl
    simp [this, h, ifB]
/-- One of few. -/
def pk {β : Type} : Nat → Nat → Int → (Nat → Option β) → Option β
  | 0, _, _, _ => none
  | m + 1, j, n, F => if n = (j : Int) then F j else pk m (j + 1) n F
theorem pk_eq {β : Type} (F : Nat → Option β) (n : Int) : ∀ (m j : Nat), pk m j n F = if (j : Int) ≤ n ∧ n < ((j + m : Nat) : Int) then F n.toNat else none
  | 0, j => by rw [if_neg (by omega)]; rfl
  | m + 1, j => by
    simp only [pk]
    by_cases h : n = (j : Int)
    · subst h; rw [if_pos rfl, if_pos (by omega)]; simp
    · rw [if_neg h, pk_eq F n m (j + 1)]
      by_cases h2 : (j : Int) ≤ n ∧ n < ((j + (m + 1) : Nat) : Int)
      · rw [if_pos h2, if_pos (by omega)]
      · rw [if_neg h2, if_neg (by omega)]
theorem s_arr (m : Nat) (e : TypeId) (cs : List AV) (n : Int) : indexArr c m e cs n = pk m 0 n fun i => pack (c.ty e) (cs.drop (i * (c.ty e).size)) := by
  rw [s_indexArr, pk_eq]
  unfold atIdx
  rw [leI_eq, ltI_eq]
  by_cases h1 : (0 : Int) ≤ n <;> by_cases h2 : n < (m : Int) <;> simp [h1, h2]
theorem s_pkLit0 : ((0 : Nat) : Int) = 0 := rfl
theorem s_indexA (m : Nat) (e : TypeId) (a b : Nat) (z : List AV) (f : Bool) (zs : List Nat) (cs : List AV) (k : IntKind) (n : Int) : indexAV c ⟨.arr m e, a, b, z, f, zs⟩ (.agg cs) (.int k n) = indexArr c m e cs n := rfl
theorem s_indexS (a b : Nat) (z : List AV) (f : Bool) (zs : List Nat) (s : List UInt8) (k : IntKind) (n : Int) : indexAV c ⟨.str, a, b, z, f, zs⟩ (.str s) (.int k n) = indexStr s n := rfl
theorem s_leSelf (n : Nat) : (n ≤ n) = True := by simp
theorem s_takeSelf {γ : Type} (l : List γ) : l.take (hd l) = l := by unfold hd; exact List.take_length
theorem s_castLit (n : Nat) : ((OfNat.ofNat n : Nat) : Int) = OfNat.ofNat n := rfl
theorem s_hdSet {γ : Type} (l : List γ) (i : Nat) (x : γ) : hd (l.set i x) = hd l := by simp [hd]
theorem s_plainL (rec : Task → Option Res) (f m n id : Nat) (l : List Oper) (st : St) : evRegion c rec f m n id (List.toArray l) false st = (evList c rec n (List.toArray l) l st).bind fun s => some (.norm, ⟨s.fr.only (c.keep f id), s.H⟩) := by
  rw [s_plain]
def callP (f : FuncId) (args : List AV) (H : Heap) : Prim → Option (AV × Heap)
  | .clone e => cloneAV c e args H
  | .pure p => primPure p args H
  | .no => if (c.raw f || !(args.all fun v => (freezeN H 12 v).isSome)) = true then callRaw rec f args H else callPure rec f args H
theorem s_callAV (f : FuncId) (args : List AV) (H : Heap) : callAV c rec f args H = callP c rec f args H (c.prim f) := by
  unfold callAV callP
  cases c.prim f with
  | no => cases (c.raw f || !(args.all fun v => (freezeN H 12 v).isSome)) <;> rfl
  | _ => rfl
theorem s_primPure (p : List AV → Option AV) (args : List AV) (H : Heap) : primPure p args H =
    (mapM' (freezeN H 12) args).bind fun fs => (p fs).bind fun v => if flatN 8 v = true then some (v, H) else (shutAll (args.flatMap (frozenIn 12)) H).bind fun H => some (v, H) := by
  unfold primPure
  cases mapM' (freezeN H 12) args with
  | none => rfl
  | some fs =>
    simp only [Option.bind_some]
    cases p fs with
    | none => rfl
    | some v =>
      simp only [Option.bind_some]
      cases flatN 8 v with
      | true => rfl
      | false => simp only; cases shutAll (args.flatMap (frozenIn 12)) H <;> rfl
theorem s_loadI (t : TypeId) (H : Heap) (cs : List AV) : loadAV c t H (.iptr cs) = pack (c.ty t) cs := rfl
theorem s_ofRow (i : TI) (cs : List AV) : pack i cs = if i.known = true then (if i.isAgg = true then (if i.size ≤ cs.length then some (.agg (cs.take i.size)) else none) else cs.head?) else none := by
  unfold pack
  cases i.known with
  | false => rfl
  | true =>
    simp only [if_true]
    cases i.isAgg with
    | false => rfl
    | true =>
      simp only [if_true, ble_eq']
      by_cases h : i.size ≤ cs.length <;> simp [h]
end
/-! ### Pieces of code -/
/-- The code at a place. -/
def subAt : Code → List Nat → Code
  | co, [] => co
  | .seq a _, 0 :: p => subAt a p
  | .seq _ b, _ :: p => subAt b p
  | .cond _ a _, 0 :: p => subAt a p
  | .cond _ _ b, _ :: p => subAt b p
  | .block _ a, _ :: p => subAt a p
  | .loop a, _ :: p => subAt a p
  | co, _ => co
/-- Code with other code at a place. -/
def putAt : Code → List Nat → Code → Code
  | _, [], x => x
  | .seq a b, 0 :: p, x => .seq (putAt a p x) b
  | .seq a b, _ :: p, x => .seq a (putAt b p x)
  | .cond q a b, 0 :: p, x => .cond q (putAt a p x) b
  | .cond q a b, _ :: p, x => .cond q a (putAt b p x)
  | .block id a, _ :: p, x => .block id (putAt a p x)
  | .loop a, _ :: p, x => .loop (putAt a p x)
  | co, _, _ => co
def headId : Code → Option Nat
  | .region id _ _ => some id
  | .seq a _ => headId a
  | _ => none
section
variable (c : Ctx) (rec : Task → Option Res)
/-- Code behind its first region's readiness. -/
def after (f m n blk : Nat) : Code → St → Option (Ex × St)
  | .region id ops d, s => evRegion c rec f m n id ops d s
  | .seq a b, s => (after f m n blk a s).bind (seqK (evCode c rec f m n blk b))
  | co, s => evCode c rec f m n blk co s
/-- What comes behind a place. -/
def contAt (f m n : Nat) : Code → List Nat → ((Ex × St) → Option Res) → Nat → (Ex × St) → Option Res
  | .seq a b, 0 :: p, K, blk => contAt f m n a p (fun q => (seqK (evCode c rec f m n blk b) q).bind K) blk
  | .seq a b, _ :: p, K, blk => contAt f m n b p K blk
  | .cond _ a b, 0 :: p, K, blk => contAt f m n a p K blk
  | .cond _ a b, _ :: p, K, blk => contAt f m n b p K blk
  | .block id a, _ :: p, K, _ => contAt f m n a p (fun q => (blockK id q).bind K) id
  | _, _, K, _ => K
theorem canonBind {α β : Type} (m : Nat) (st : St) (k : St → Option α) (h : α → Option β) : (st.canon m k).bind h = st.canon m fun s => (k s).bind h := by
  rw [s_canon, s_canon, s_reach, s_reach, s_bindAssoc]
theorem normBind {α β : Type} (nz : Nat → List Nat) (mask m : Nat) (st : St) (k : St → Option α) (h : α → Option β) : (st.norm c nz mask m k).bind h = st.norm c nz mask m fun s => (k s).bind h := by
  unfold St.norm
  simp only [fSp_eq, nestFr_eq]
  exact canonBind m _ k h
theorem ready_of (f m n blk : Nat) : ∀ (co : Code) (q mask : Nat) (st : St), headId co = some q → c.pre f q = mask → mask ≠ 0 → evCode c rec f m n blk co st = st.norm c (c.nilz f) mask m fun s => after c rec f m n blk co s
  | .region id ops d, q, mask, st, h1, h2, h3 => by
    cases h1
    rw [evCode_region, s_evReady, h2, if_neg h3]
    rfl
  | .seq a b, q, mask, st, h1, h2, h3 => by
    rw [evCode_seq, s_evSeq, ready_of f m n blk a q mask st h1 h2 h3, normBind]
    rfl
  | .skip, _, _, _, h1, _, _ => by cases h1
  | .cond .., _, _, _, h1, _, _ => by cases h1
  | .block .., _, _, _, h1, _, _ => by cases h1
  | .loop _, _, _, _, h1, _, _ => by cases h1
  | .rangeFunc .., _, _, _, h1, _, _ => by cases h1
  | .exit _, _, _, _, h1, _, _ => by cases h1
  | .scope _, _, _, _, h1, _, _ => by cases h1
  | .label _, _, _, _, h1, _, _ => by cases h1
  | .goto _, _, _, _, h1, _, _ => by cases h1
  | .ret, _, _, _, h1, _, _ => by cases h1
  | .refuse _, _, _, _, h1, _, _ => by cases h1
theorem s_loop2 (f id m : Nat) (b : Code) (st : St) (F : Func) (hF : c.fn f = some F) {b' : Code} (hb : b = b') : stepTask c rec (.loop f id m b st) = (evCode c rec f m F.ntmps id b' st).bind (nextK c rec f id m b) := by
  rw [s_loop c rec f id m b st F hF, hb]
theorem s_pfn2 (f : FuncId) (args : List AV) (F : Func) (b : Code) (hF : c.fn f = some F) (hb : F.body = some b) (hn : Nat.ble args.length F.ntmps = true) {b' : Code} (h : b = b') :
    stepTask c rec (.pfn f args) = (evCode c rec f 0 F.ntmps 0 b' ⟨argFr 0 args, []⟩).bind (finP c F.results.toList) := by
  rw [s_pfn c rec f args F b hF hb hn, h]
theorem s_fn2 (f : FuncId) (args : List AV) (H : Heap) (F : Func) (b : Code) (hF : c.fn f = some F) (hb : F.body = some b) (hn : Nat.ble args.length F.ntmps = true) {b' : Code} (h : b = b') :
    stepTask c rec (.fn f args H) = (mvIf c f args H fun H1 => evCode c rec f H.length F.ntmps 0 b' ⟨argFr 0 args, H1⟩).bind (finF c F.results.toList H.length) := by
  rw [s_fn c rec f args H F b hF hb hn, h]
end
/-! ### Continuations are not looked into -/
section
variable {β : Type}
theorem z_reach {tk : Tick} (ht : tick = tk) (m : Nat) {vs vs' : List AV} {H H' : Heap} (h1 : vs = vs') (h2 : H = H') (k : List Nat → Option β) : reach m vs H k = reach m vs' H' k := by rw [h1, h2]
theorem z_canon {tk : Tick} (ht : tick = tk) (m : Nat) {st st' : St} (h : st = st') (k : St → Option β) : st.canon m k = st'.canon m k := by rw [h]
theorem z_norm {tk : Tick} (ht : tick = tk) (c : Ctx) (nz : Nat → List Nat) (mask m : Nat) {st st' : St} (h : st = st') (k : St → Option β) : st.norm c nz mask m k = st'.norm c nz mask m k := by rw [h]
theorem z_nestFr {tk : Tick} (ht : tick = tk) (c : Ctx) (nz : Nat → List Nat) {fr fr' : Fr} {H H' : Heap} (h1 : fr = fr') (h2 : H = H') (k : Fr → Heap → β) : nestFr c nz fr H k = nestFr c nz fr' H' k := by rw [h1, h2]
theorem z_nestAV {tk : Tick} (ht : tick = tk) (c : Ctx) {zs zs' : List Nat} {v v' : AV} {H H' : Heap} (h0 : zs = zs') (h1 : v = v') (h2 : H = H') (k : AV → Heap → β) : nestAV c zs v H k = nestAV c zs' v' H' k := by rw [h0, h1, h2]
theorem z_nestCells {tk : Tick} (ht : tick = tk) (c : Ctx) {zs zs' : List Nat} {v v' : List AV} {H H' : Heap} (h0 : zs = zs') (h1 : v = v') (h2 : H = H') (k : List AV → Heap → β) : nestCells c zs v H k = nestCells c zs' v' H' k := by rw [h0, h1, h2]
theorem z_cutRows {tk : Tick} (ht : tick = tk) {α : Type} {es es' : List α} {off off' len len' : Nat} (h1 : es = es') (h2 : off = off') (h3 : len = len') (k : List α → Option β) : cutRows es off len k = cutRows es' off' len' k := by rw [h1, h2, h3]
theorem z_mvIf {tk : Tick} (ht : tick = tk) (c : Ctx) (f : FuncId) {args args' : List AV} {H H' : Heap} (h1 : args = args') (h2 : H = H') (k : Heap → β) : mvIf c f args H k = mvIf c f args' H' k := by rw [h1, h2]
theorem z_evReady {tk : Tick} (ht : tick = tk) (c : Ctx) (f m id : Nat) {st st' : St} (h : st = st') (k : St → Option (Ex × St)) : evReady c f m id st k = evReady c f m id st' k := by rw [h]
theorem z_evSeq {tk : Tick} (ht : tick = tk) (a b : St → Option (Ex × St)) {st st' : St} (h : st = st') : evSeq a b st = evSeq a b st' := by rw [h]
theorem z_evCond {tk : Tick} (ht : tick = tk) {p p' : AV} (a b : St → Option (Ex × St)) {st st' : St} (h1 : p = p') (h : st = st') : evCond p a b st = evCond p' a b st' := by rw [h, h1]
theorem z_evBlock {tk : Tick} (ht : tick = tk) (id : Nat) (a : St → Option (Ex × St)) {st st' : St} (h : st = st') : evBlock id a st = evBlock id a st' := by rw [h]
theorem z_evCode {tk : Tick} (ht : tick = tk) (c : Ctx) (rec : Task → Option Res) (f m n blk : Nat) (co : Code) {st st' : St} (h : st = st') : evCode c rec f m n blk co st = evCode c rec f m n blk co st' := by rw [h]
theorem z_seqK {tk : Tick} (ht : tick = tk) (b : St → Option (Ex × St)) {p p' : Ex × St} (h : p = p') : seqK b p = seqK b p' := by rw [h]
theorem z_nextK {tk : Tick} (ht : tick = tk) (c : Ctx) (rec : Task → Option Res) (f id m : Nat) (b : Code) {p p' : Ex × St} (h : p = p') : nextK c rec f id m b p = nextK c rec f id m b p' := by rw [h]
theorem z_codeK {tk : Tick} (ht : tick = tk) (k : Ex → St → Option β) {r r' : Res} (h : r = r') : codeK k r = codeK k r' := by rw [h]
theorem z_valK {tk : Tick} (ht : tick = tk) (k : AV → Heap → Option β) {r r' : Res} (h : r = r') : valK k r = valK k r' := by rw [h]
theorem z_evList {tk : Tick} (ht : tick = tk) (c : Ctx) (rec : Task → Option Res) (n : Nat) (ops : Array Oper) (l : List Oper) {st st' : St} (h : st = st') : evList c rec n ops l st = evList c rec n ops l st' := by rw [h]
theorem z_evPlan {tk : Tick} (ht : tick = tk) (c : Ctx) (rec : Task → Option Res) (m n : Nat) (ops : Array Oper) {k k' : Nat} {p p' : Plan} {t t' : Tra} (h0 : k = k') (h1 : p = p') (h : t = t') : evPlan c rec m n ops k p t = evPlan c rec m n ops k' p' t' := by rw [h0, h1, h]
theorem z_region {tk : Tick} (ht : tick = tk) (c : Ctx) (rec : Task → Option Res) (f m n id : Nat) (ops : Array Oper) (d : Bool) {st st' : St} (h : st = st') : evRegion c rec f m n id ops d st = evRegion c rec f m n id ops d st' := by rw [h]
theorem z_evStep {tk : Tick} (ht : tick = tk) (c : Ctx) (rec : Task → Option Res) (n : Nat) (ops : Array Oper) (o : Oper) {st st' : St} (h : st = st') : evStep c rec n ops o st = evStep c rec n ops o st' := by rw [h]
theorem z_forkStep {tk : Tick} (ht : tick = tk) (c : Ctx) (rec : Task → Option Res) (n : Nat) (ops : Array Oper) (i : Nat) (w : List Nat) {t t' : Tra} (h : t = t') : forkStep c rec n ops i w t = forkStep c rec n ops i w t' := by rw [h]
theorem z_pk {tk : Tick} (ht : tick = tk) {m m' j j' : Nat} {n n' : Int} (h1 : m = m') (h2 : j = j') (h3 : n = n') (F : Nat → Option β) : pk m j n F = pk m' j' n' F := by rw [h1, h2, h3]
theorem z_stop {tk : Tick} (ht : tick = tk) (f id : Nat) {s s' : St} (h : s = s') (k : St → Option (Ex × St)) : stopAt f id s k = stopAt f id s' k := by rw [h]
theorem z_after {tk : Tick} (ht : tick = tk) (c : Ctx) (rec : Task → Option Res) (f m n blk : Nat) (co : Code) {s s' : St} (h : s = s') : after c rec f m n blk co s = after c rec f m n blk co s' := by rw [h]
theorem z_wanted {tk : Tick} (ht : tick = tk) (ops : Array Oper) (o : Oper) {fr fr' : Fr} (h : fr = fr') : wantedAV ops o fr = wantedAV ops o fr' := by rw [h]
end
end Go.Ev
