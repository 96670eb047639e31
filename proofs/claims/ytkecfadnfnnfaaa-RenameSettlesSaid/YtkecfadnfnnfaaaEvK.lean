/- Tables, and the check that they are a program's. -/
import Derived.Test.YtkecfadnfnnfaaaEvH
set_option linter.unusedVariables false
set_option linter.unusedSimpArgs false
noncomputable section
namespace Go.Ev

structure Tabs where
  nt : Nat
  tys : Tr TI
  nf : Nat
  fns : Tr (Option Func)
  keeps : Tr (List (Nat × Nat))
  outs : Tr (List (Nat × Nat))
  ress : Tr Nat
  lives : Tr (List (Nat × Nat))
  plans : Tr (List (Nat × Plan))
  raws : Tr Bool
  prims : Tr Prim
  nilzs : Tr (List (Nat × List Nat))
  pres : Tr (List (Nat × Nat))
  stays : Tr Bool
def lookN (l : List (Nat × Nat)) (k : Nat) : Nat := match l with | [] => 0 | (a, b) :: r => match Nat.beq a k with | true => b | false => lookN r k
def lookP (l : List (Nat × Plan)) (k : Nat) : Plan := match l with | [] => .done | (a, b) :: r => match Nat.beq a k with | true => b | false => lookP r k
def lookZ (l : List (Nat × List Nat)) (k : Nat) : List Nat := match l with | [] => [] | (a, b) :: r => match Nat.beq a k with | true => b | false => lookZ r k
def Tabs.ctx (T : Tabs) : Ctx :=
  { ty := fun t => ifB (Nat.blt t T.nt) (T.tys.get t) ⟨.other, 1, 0, [.undef], false, []⟩, fn := fun f => ifB (Nat.blt f T.nf) (T.fns.get f) none, keep := fun f => lookN (T.keeps.get f), out := fun f => lookN (T.outs.get f), res := T.ress.get, live := fun f => lookN (T.lives.get f),
    plan := fun f => lookP (T.plans.get f), raw := T.raws.get, prim := fun f => ifB (Nat.blt f T.nf) (T.prims.get f) .no,
    nilz := fun f => lookZ (T.nilzs.get f), pre := fun f => lookN (T.pres.get f), stay := T.stays.get }

/-! ### Types -/
def pairB : List (Nat × TypeId) → List Field → (TypeId → Bool) → Bool
  | [], [], _ => true
  | p :: l, g :: m, k => Nat.beq g.offset p.1 && Nat.beq g.type p.2 && k p.2 && pairB l m k
  | _, _, _ => false
def tdB (c : Ctx) : TD → TypeDesc → Bool
  | .int k, .int j => decide (k = j)
  | .bool, .bool => true
  | .str, .string => true
  | .ptr e, .pointer e' => Nat.beq e e'
  | .slice e, .slice e' => Nat.beq e e' && (c.ty e).known
  | .arr n e, .array m e' => Nat.beq n m && Nat.beq e e' && (c.ty e).known
  | .map k e, .map k' e' => Nat.beq k k' && Nat.beq e e' && (c.ty k).known && (c.ty e).known
  | .strct fs, .struct gs => pairB fs gs.toList fun t => (c.ty t).known
  | .func, .func _ _ _ => true
  | .iface, .interface _ => true
  | _, _ => false
def isAggV : Value → Bool
  | .agg _ => true
  | _ => false
def isTupV : Value → Bool
  | .tuple _ => true
  | _ => false
def tyB (P : Program) (c : Ctx) (t : TypeId) : Bool :=
  match (c.ty t).known with
  | false => true
  | true => match P.info? t, P.underlying t with
    | some i, some d => tdB c (c.ty t).d d && Nat.beq i.size (c.ty t).size && Nat.beq i.bytes (c.ty t).bytes && (match i.zero with
      | some z => AV.beqL (c.ty t).zero (z.cells.toList.map ofConst) && Nat.beq z.cells.size i.size && (match (c.ty t).isAgg with | true => isAggV z | false => !isAggV z && Nat.beq i.size 1)
      | none => false)
    | _, _ => false
def offsB : List Field → Nat → Bool
  | [], _ => true
  | g :: l, k => Nat.beq g.offset k && (g.name != "_") && offsB l (k + 1)
def flatB (P : Program) (c : Ctx) (t : TypeId) : Bool :=
  match (c.ty t).flat with
  | false => true
  | true => !P.stoodInHeld t && !P.eqGuardType P.depth t && (match P.underlying t with | some (.struct gs) => offsB gs.toList 0 | _ => true)
def codeB (c : Ctx) (f : FuncId) : Bool := match c.fn f with
  | none => true
  | some F => (F.name != "runtime.NumGoroutine") && (match F.body with | some b => codeOk c f b | none => true)

theorem pairB_spec : ∀ {fs : List (Nat × TypeId)} {gs : List Field} {k : TypeId → Bool}, pairB fs gs k = true → fs.length = gs.length ∧ ∀ (j : Nat) (p : Nat × TypeId) (g : Field), fs[j]? = some p → gs[j]? = some g → g.offset = p.1 ∧ g.type = p.2 ∧ k p.2 = true
  | [], [], k, _ => ⟨rfl, fun j p g h => by simp at h⟩
  | [], _ :: _, k, h => by simp [pairB] at h
  | _ :: _, [], k, h => by simp [pairB] at h
  | p :: l, g :: m, k, h => by
    simp only [pairB] at h
    rw [Bool.and_eq_true, Bool.and_eq_true, Bool.and_eq_true] at h
    obtain ⟨⟨⟨h1, h2⟩, h3⟩, h4⟩ := h
    obtain ⟨e1, e2⟩ := pairB_spec h4
    refine ⟨by simp [e1], fun j p' g' hp hg => ?_⟩
    cases j with
    | zero => simp at hp hg; subst hp; subst hg; exact ⟨Nat.eq_of_beq_eq_true h1, Nat.eq_of_beq_eq_true h2, h3⟩
    | succ j => exact e2 j p' g' hp hg
theorem tdB_spec {c : Ctx} {td : TD} {d : TypeDesc} (h : tdB c td d = true) : TdRel c td d := by
  unfold tdB at h
  split at h
  · have := of_decide_eq_true h; subst this; exact .int _
  · exact .bool
  · exact .str
  · have := Nat.eq_of_beq_eq_true h; subst this; exact .ptr _
  · rw [Bool.and_eq_true] at h; have := Nat.eq_of_beq_eq_true h.1; subst this; exact .slice _ h.2
  · rw [Bool.and_eq_true, Bool.and_eq_true] at h; have := Nat.eq_of_beq_eq_true h.1.1; subst this; have := Nat.eq_of_beq_eq_true h.1.2; subst this; exact .arr _ _ h.2
  · rw [Bool.and_eq_true, Bool.and_eq_true, Bool.and_eq_true] at h
    have := Nat.eq_of_beq_eq_true h.1.1.1; subst this
    have := Nat.eq_of_beq_eq_true h.1.1.2; subst this
    exact .map _ _ h.1.2 h.2
  · obtain ⟨e1, e2⟩ := pairB_spec h
    exact .strct _ _ (by simpa using e1) (fun k p g hp hg => e2 k p g hp (by simpa using hg))
  · exact .func _ _ _
  · exact .iface _
  · cases h
theorem tyB_spec {P : Program} {c : Ctx} {t : TypeId} (h : tyB P c t = true) (hk : (c.ty t).known = true) : ∃ i d z, TyOk P c t i d z := by
  unfold tyB at h
  simp only [hk] at h
  split at h
  case h_2 => cases h
  rename_i i d hi hd
  rw [Bool.and_eq_true, Bool.and_eq_true, Bool.and_eq_true] at h
  obtain ⟨⟨⟨h1, h2⟩, h3⟩, h4⟩ := h
  split at h4
  case h_2 => cases h4
  rename_i z hz
  rw [Bool.and_eq_true, Bool.and_eq_true] at h4
  obtain ⟨⟨h5, h6⟩, h7⟩ := h4
  refine ⟨i, d, z, hi, hd, tdB_spec h1, Nat.eq_of_beq_eq_true h2, Nat.eq_of_beq_eq_true h3, hz, AV.beqL_sound _ _ h5, Nat.eq_of_beq_eq_true h6, ?_⟩
  cases ha : (c.ty t).isAgg with
  | true =>
    rw [ha] at h7
    rw [if_pos rfl]
    cases z <;> simp [isAggV] at h7
    exact ⟨_, rfl⟩
  | false =>
    rw [ha] at h7
    simp only at h7
    rw [Bool.and_eq_true] at h7
    rw [if_neg (by simp)]
    refine ⟨?_, Nat.eq_of_beq_eq_true h7.2⟩
    have h8 := h7.1
    cases z <;> simp [isAggV] at h8 <;> rfl
theorem offsB_spec : ∀ {gs : List Field} {k : Nat}, offsB gs k = true → (∀ g ∈ gs, g.name ≠ "_") ∧ ∀ (j : Nat) (g : Field), gs[j]? = some g → g.offset = k + j
  | [], k, _ => ⟨fun g h => by simp at h, fun j g h => by simp at h⟩
  | g :: l, k, h => by
    simp only [offsB] at h
    rw [Bool.and_eq_true, Bool.and_eq_true] at h
    obtain ⟨e1, e2⟩ := offsB_spec h.2
    refine ⟨fun g' hg => ?_, fun j g' hg => ?_⟩
    · rcases List.mem_cons.1 hg with rfl | hg
      · simpa using h.1.2
      · exact e1 g' hg
    · cases j with
      | zero => simp at hg; subst hg; exact Nat.eq_of_beq_eq_true h.1.1
      | succ j => have := e2 j g' hg; omega

/-! ### Trees -/
def Tr.toL {α : Type} : Tr α → List α
  | .leaf a => [a]
  | .node _ l r => l.toL ++ r.toL
def Tr.fit {α : Type} : Tr α → Nat → Nat → Bool
  | .leaf _, lo, hi => Nat.beq hi (lo + 1)
  | .node n l r, lo, hi => l.fit lo n && r.fit n hi
theorem Tr.fit_spec {α : Type} : ∀ {T : Tr α} {lo hi : Nat}, T.fit lo hi = true → T.toL.length = hi - lo ∧ lo < hi ∧ ∀ t, lo ≤ t → t < hi → T.toL[t - lo]? = some (T.get t)
  | .leaf a, lo, hi, h => by
    have h := Nat.eq_of_beq_eq_true h
    subst h
    refine ⟨by simp [toL], by omega, fun t h1 h2 => ?_⟩
    have : t - lo = 0 := by omega
    rw [this]
    rfl
  | .node n l r, lo, hi, h => by
    simp only [fit] at h
    rw [Bool.and_eq_true] at h
    obtain ⟨a1, a2, a3⟩ := fit_spec h.1
    obtain ⟨b1, b2, b3⟩ := fit_spec h.2
    refine ⟨by simp [toL, a1, b1]; omega, by omega, fun t h1 h2 => ?_⟩
    rw [get_node]
    simp only [toL]
    rw [List.getElem?_append, a1]
    by_cases ht : t < n
    · rw [if_pos (by omega), (blt_iff _ _).2 ht]
      exact a3 t h1 ht
    · have hb : Nat.blt t n = false := by
        cases hb : Nat.blt t n with
        | false => rfl
        | true => exact absurd ((blt_iff _ _).1 hb) ht
      rw [if_neg (by omega), hb, show t - lo - (n - lo) = t - n by omega]
      exact b3 t (by omega) h2
def selL : List Bool → List Func → List (Option Func)
  | b :: l, F :: m => (bif b then some F else none) :: selL l m
  | _, _ => []
theorem selL_get : ∀ (l : List Bool) (m : List Func) (j : Nat) (F : Func), (selL l m)[j]? = some (some F) → m[j]? = some F
  | [], m, j, F, h => by simp [selL] at h
  | _ :: _, [], j, F, h => by simp [selL] at h
  | b :: l, G :: m, j, F, h => by
    simp only [selL] at h
    cases j with
    | zero => cases b <;> simp at h; simp [h]
    | succ j => simp only [List.getElem?_cons_succ] at h ⊢; exact selL_get l m j F h

theorem Tabs.known_lt {T : Tabs} {t : TypeId} (h : (T.ctx.ty t).known = true ∨ (T.ctx.ty t).flat = true) : t < T.nt := by
  apply Classical.byContradiction
  intro hlt
  have hb : Nat.blt t T.nt = false := by
    cases hb : Nat.blt t T.nt with
    | false => rfl
    | true => exact absurd ((blt_iff _ _).1 hb) hlt
  have e : T.ctx.ty t = ⟨.other, 1, 0, [.undef], false, []⟩ := by show ifB (Nat.blt t T.nt) _ _ = _; rw [hb]
  rw [e] at h
  rcases h with h | h <;> cases h
/-- The tables of types are the program's. -/
theorem Tabs.tysOk {P : Program} {T : Tabs} (h1 : (List.range T.nt).all (fun t => tyB P T.ctx t && flatB P T.ctx t) = true) : TysOk P T.ctx where
  ty t hk := by
    have := List.all_eq_true.1 h1 t (List.mem_range.2 (known_lt (.inl hk)))
    rw [Bool.and_eq_true] at this
    exact tyB_spec this.1 hk
  flat t hf gs hgs := by
    have := List.all_eq_true.1 h1 t (List.mem_range.2 (known_lt (.inr hf)))
    rw [Bool.and_eq_true] at this
    have hfl := this.2
    unfold flatB at hfl
    rw [hf] at hfl
    simp only [hgs] at hfl
    rw [Bool.and_eq_true, Bool.and_eq_true] at hfl
    obtain ⟨⟨f1, f2⟩, f3⟩ := hfl
    obtain ⟨o1, o2⟩ := offsB_spec f3
    exact ⟨by simpa using f1, by simpa using f2, fun g hg => o1 g (by simpa using hg), fun k g hg => by have := o2 k g (by simpa using hg); omega⟩
/-- The tables are the program's. -/
theorem Tabs.ok {P : Program} {T : Tabs} (used : List Bool) (h1 : TysOk P T.ctx) (h2 : T.fns.fit 0 T.nf = true) (h3 : T.fns.toL = selL used P.funcs.toList)
    (h4 : (List.range T.nf).all (codeB T.ctx) = true) (h5 : P.follows .mixedOrders = true) (h6 : ∀ f, PrimOk P T.ctx f (T.ctx.prim f)) : CtxOk P T.ctx := by
  have hfn : ∀ f F, T.ctx.fn f = some F → f < T.nf ∧ P.funcs[f]? = some F := fun f F h => by
    have h : ifB (Nat.blt f T.nf) (T.fns.get f) none = some F := h
    cases hb : Nat.blt f T.nf with
    | false => rw [hb] at h; cases h
    | true =>
      rw [hb] at h
      have hlt := (blt_iff _ _).1 hb
      have h : T.fns.get f = some F := h
      have := (Tr.fit_spec h2).2.2 f (Nat.zero_le _) hlt
      rw [h3, Nat.sub_zero, h] at this
      have := selL_get _ _ _ _ this
      exact ⟨hlt, by simpa using this⟩
  have hco : ∀ f F, T.ctx.fn f = some F → (F.name != "runtime.NumGoroutine") = true ∧ (match F.body with | some b => codeOk T.ctx f b | none => true) = true := fun f F h => by
    have := List.all_eq_true.1 h4 f (List.mem_range.2 (hfn f F h).1)
    unfold codeB at this
    rw [h, Bool.and_eq_true] at this
    exact this
  refine ⟨h1, fun f F h => ⟨(hfn f F h).2, by simpa using (hco f F h).1⟩, fun f F b h hb => ?_, h6, h5⟩
  have := (hco f F h).2
  rw [hb] at this
  exact this
end Go.Ev
