/- Words for walking through the evaluator with symbolic values: every step as a choice or as one step behind another. -/
import Derived.Test.YtkecfadnfnnfaaaEvL
import Derived.Attr
set_option linter.unusedVariables false
set_option linter.unusedSimpArgs false
noncomputable section
namespace Go.Ev
/-- The length that a slice bears. -/
def hd {α : Type} (l : List α) : Nat := l.length
/-- Rows of elements of a type. -/
def tg (e : Nat) (es : List (List AV)) : List (List AV) := es
/-- Rows out of elements. -/
def tm {γ : Type} (r : γ → List AV) (l : List γ) : List (List AV) := l.map r
/-- An element of a list. -/
def idx {α : Type} (l : List α) (n : Int) : Option α := (atIdx n l.length).bind fun i => l[i]?

section
variable {α β γ : Type}
theorem s_bindIf {p : Prop} [Decidable p] (a b : Option α) (f : α → Option β) : (if p then a else b).bind f = if p then a.bind f else b.bind f := by split <;> rfl
theorem s_mapBind (o : Option α) (g : α → β) (f : β → Option γ) : (o.map g).bind f = o.bind fun x => f (g x) := by cases o <;> rfl
theorem s_bindMap (o : Option α) (f : α → Option β) (g : β → γ) : (o.bind f).map g = o.bind fun x => (f x).map g := by cases o <;> rfl
theorem s_ifMap {p : Prop} [Decidable p] (a b : Option α) (f : α → β) : (if p then a else b).map f = if p then a.map f else b.map f := by split <;> rfl
theorem s_mapMap (o : Option α) (g : α → β) (f : β → γ) : (o.map g).map f = o.map fun x => f (g x) := by cases o <;> rfl
theorem s_bindAssoc (o : Option α) (f : α → Option β) (g : β → Option γ) : (o.bind f).bind g = o.bind fun x => (f x).bind g := by cases o <;> rfl
theorem s_bindCongr {o o' : Option α} {f g : α → Option β} (h : o = o') (k : ∀ x, o' = some x → f x = g x) : o.bind f = o'.bind g := by
  subst h
  cases o with
  | none => rfl
  | some x => exact k x rfl
theorem s_ifTrue (b : Bool) (h : b = true) : b = true := h
theorem s_ifNot {p : Prop} [Decidable p] (a b : α) : (if ¬ p then a else b) = if p then b else a := by by_cases h : p <;> simp [h]
theorem s_notTrue (b : Bool) : ((!b) = true) = ¬ (b = true) := by cases b <;> simp
theorem s_eqFalse (b : Bool) : (b = false) = ¬ (b = true) := by cases b <;> simp
theorem s_beqTrue (b : Bool) : (b == true) = b := by cases b <;> rfl
theorem s_beqFalse (b : Bool) : (b == false) = !b := by cases b <;> rfl
theorem s_andTrue (a b : Bool) : ((a && b) = true) = (a = true ∧ b = true) := by simp
theorem s_orTrue (a b : Bool) : ((a || b) = true) = (a = true ∨ b = true) := by simp
theorem s_ifAnd {p q : Prop} [Decidable p] [Decidable q] (x y : α) : (if p ∧ q then x else y) = if p then (if q then x else y) else y := by by_cases h : p <;> simp [h]
theorem s_ifOr {p q : Prop} [Decidable p] [Decidable q] (x y : α) : (if p ∨ q then x else y) = if p then x else (if q then x else y) := by by_cases h : p <;> simp [h]
theorem s_matchO (o : Option α) (n : β) (f : α → β) : (match o with | none => n | some x => f x) = o.elim n f := by cases o <;> rfl
end

section
variable (c : Ctx) (rec : Task → Option Res)
theorem s_thenO {α β : Type} (a : Option α) (f : α → Option β) : thenO a f = a.bind f := by cases a <;> rfl
theorem s_consO {β : Type} (a : Option β) (l : Option (List β)) : consO a l = a.bind fun b => l.bind fun m => some (b :: m) := by cases a <;> cases l <;> rfl
theorem s_evStep (n : Nat) (ops : Array Oper) (o : Oper) (st : St) : evStep c rec n ops o st =
    if dstOk n o.dst = true then (wantedAV ops o st.fr).bind fun w => if w = true then (evOp c rec o st.fr st.H).bind fun p => some ⟨st.fr.put o.dst p.1, p.2⟩ else some ⟨st.fr.put o.dst (.tup []), st.H⟩ else none := by
  unfold evStep
  cases dstOk n o.dst with
  | false => rfl
  | true =>
    simp only [if_true]
    cases wantedAV ops o st.fr with
    | none => rfl
    | some w => cases w with
      | false => rfl
      | true =>
        simp only [Option.bind_some, if_true, evDo, hV_eq, Fr.putK_eq]
        cases evOp c rec o st.fr st.H <;> rfl
theorem s_evList (n : Nat) (ops : Array Oper) (o : Oper) (l : List Oper) (st : St) : evList c rec n ops (o :: l) st = (evStep c rec n ops o st).bind (evList c rec n ops l) := by rw [evList_cons, s_thenO]
theorem s_plain (f m n id : Nat) (ops : Array Oper) (st : St) : evRegion c rec f m n id ops false st = (evList c rec n ops ops.toList st).bind fun s => some (.norm, ⟨s.fr.only (c.keep f id), s.H⟩) := by
  unfold evRegion; simp only [fSp_eq]; show (match evList c rec n ops ops.toList st with | none => none | some st => _) = _; cases evList c rec n ops ops.toList st <;> rfl
theorem s_draw (f m n id : Nat) (ops : Array Oper) (st : St) : evRegion c rec f m n id ops true st = (evPlan c rec m n ops (ops.size + 1) (c.plan f id) ⟨st, []⟩).bind fun s => some (.norm, ⟨s.fr.only (c.keep f id), s.H⟩) := by
  unfold evRegion; simp only [fSp_eq]; show (match evPlan c rec m n ops (ops.size + 1) (c.plan f id) ⟨st, []⟩ with | none => none | some st => _) = _; cases evPlan c rec m n ops (ops.size + 1) (c.plan f id) ⟨st, []⟩ <;> rfl
theorem s_planDone (m n : Nat) (ops : Array Oper) (k : Nat) (t : Tra) : evPlan c rec m n ops (k + 1) .done t = some t.st := rfl
theorem s_planTake (m n : Nat) (ops : Array Oper) (k i : Nat) (p : Plan) (t : Tra) : evPlan c rec m n ops (k + 1) (.take i p) t =
    (ops[i]?).bind fun o => (wantedAV ops o t.st.fr).bind fun w => (evStep c rec n ops o t.st).bind fun st => evPlan c rec m n ops k p ⟨st, if w = true then readsOf i o t.st ++ t.rd else t.rd⟩ := by
  simp only [evPlan]
  cases ops[i]? with
  | none => rfl
  | some o =>
    simp only [Option.bind_some]
    cases wantedAV ops o t.st.fr with
    | none => rfl
    | some w =>
      simp only [Option.bind_some]
      cases evStep c rec n ops o t.st with
      | none => rfl
      | some st => cases w <;> rfl
theorem s_fork1 (m n : Nat) (ops : Array Oper) (k i : Nat) (w : List Nat) (p : Plan) (t : Tra) : evPlan c rec m n ops (k + 1) (.fork [(i, w, p)]) t = (forkStep c rec n ops i w t).bind fun t => evPlan c rec m n ops k p t := by
  simp only [evPlan]; cases forkStep c rec n ops i w t <;> rfl
theorem s_fork2 (m n : Nat) (ops : Array Oper) (k i : Nat) (w : List Nat) (p : Plan) (q : Nat × List Nat × Plan) (r : List (Nat × List Nat × Plan)) (t : Tra) : evPlan c rec m n ops (k + 1) (.fork ((i, w, p) :: q :: r)) t =
    (forkStep c rec n ops i w t).bind fun t0 => (evPlan c rec m n ops k p t0).bind fun t1 => t1.canon m fun c1 => if (q :: r).all (otherOk c rec m n ops k t c1) = true then some c1 else none := by
  rw [evPlan_fork]
  cases forkStep c rec n ops i w t with
  | none => rfl
  | some t0 =>
    simp only [Option.bind_some]
    cases evPlan c rec m n ops k p t0 with
    | none => rfl
    | some t1 =>
      simp only [Option.bind_some]
      congr 1
      funext c1
      cases (q :: r).all (otherOk c rec m n ops k t c1) <;> rfl
def okB : Option Bool → Bool
  | some b => b
  | none => false
theorem s_otherOk (m n : Nat) (ops : Array Oper) (k : Nat) (t : Tra) (c1 : St) (i : Nat) (w : List Nat) (p : Plan) : otherOk c rec m n ops k t c1 (i, w, p) =
    okB ((forkStep c rec n ops i w t).bind fun u => (evPlan c rec m n ops k p u).bind fun t2 => t2.canon m fun c2 => some (sameSt c1 c2)) := by
  unfold otherOk
  cases forkStep c rec n ops i w t with
  | none => rfl
  | some u =>
    simp only [Option.bind_some]
    cases evPlan c rec m n ops k p u with
    | none => rfl
    | some t2 =>
      simp only [Option.bind_some]
      cases (t2.canon m fun c2 => some (sameSt c1 c2)) with
      | none => rfl
      | some b => cases b <;> rfl
theorem s_okSome (b : Bool) : okB (some b) = b := rfl
theorem s_okBind {α : Type} (o : Option α) (f : α → Option Bool) (x : α) (h : o = some x) : okB (o.bind f) = okB (f x) := by rw [h]; rfl
theorem s_okIf {p : Prop} [Decidable p] (a b : Option Bool) : okB (if p then a else b) = if p then okB a else okB b := by split <;> rfl
theorem s_forkStep (n : Nat) (ops : Array Oper) (i : Nat) (w : List Nat) (t : Tra) : forkStep c rec n ops i w t =
    (ops[i]?).bind fun o => (evStep c rec n ops o t.st).bind fun st => if (t.rd.filter fun q => w.contains q.1).all (sameAsked t.st.H st.H) = true then some ⟨st, t.rd.filter fun q => w.contains q.1⟩ else none := by
  unfold forkStep
  cases ops[i]? with
  | none => rfl
  | some o =>
    simp only [Option.bind_some]
    cases evStep c rec n ops o t.st with
    | none => rfl
    | some st =>
      simp only [Option.bind_some]
      cases (t.rd.filter fun q => w.contains q.1).all (sameAsked t.st.H st.H) <;> rfl
/-- Where code goes on. -/
def seqK (b : St → Option (Ex × St)) (p : Ex × St) : Option (Ex × St) := match p with
  | (.norm, st) => b st
  | p => some p
theorem s_evSeq (a b : St → Option (Ex × St)) (st : St) : evSeq a b st = (a st).bind (seqK b) := by
  unfold evSeq
  cases a st with
  | none => rfl
  | some p => obtain ⟨e, s⟩ := p; cases e <;> rfl
theorem s_seqNorm (b : St → Option (Ex × St)) (st : St) : seqK b (.norm, st) = b st := rfl
theorem s_seqExit (b : St → Option (Ex × St)) (i : Nat) (st : St) : seqK b (.exit i, st) = some (.exit i, st) := rfl
theorem s_seqRet (b : St → Option (Ex × St)) (st : St) : seqK b (.ret, st) = some (.ret, st) := rfl
theorem s_evCond (p : Bool) (a b : St → Option (Ex × St)) (st : St) : evCond (.bool p) a b st = if p = true then a st else b st := by cases p <;> rfl
def blockK (id : Nat) (p : Ex × St) : Option (Ex × St) := match p with
  | (.exit k, st) => if k = id then some (.norm, st) else some (.exit k, st)
  | p => some p
theorem s_evBlock (id : Nat) (a : St → Option (Ex × St)) (st : St) : evBlock id a st = (a st).bind (blockK id) := by
  unfold evBlock
  cases a st with
  | none => rfl
  | some p =>
    obtain ⟨e, s⟩ := p
    cases e with
    | exit k =>
      simp only [Option.bind_some, blockK]
      by_cases h : k = id
      · subst h; simp [Nat.beq_refl]
      · rw [if_neg h]
        cases hb : Nat.beq k id with
        | true => exact absurd (Nat.eq_of_beq_eq_true hb) h
        | false => rfl
    | _ => rfl
theorem s_blockNorm (id : Nat) (st : St) : blockK id (.norm, st) = some (.norm, st) := rfl
theorem s_blockExit (id k : Nat) (st : St) : blockK id (.exit k, st) = if k = id then some (.norm, st) else some (.exit k, st) := rfl
theorem s_blockRet (id : Nat) (st : St) : blockK id (.ret, st) = some (.ret, st) := rfl
/-- What a call or a loop answers. -/
def codeK {β : Type} (k : Ex → St → Option β) : Res → Option β
  | .code e st => k e st
  | .val _ _ => none
def valK {β : Type} (k : AV → Heap → Option β) : Res → Option β
  | .val v H => k v H
  | .code _ _ => none
theorem s_evLoop (r : Option Res) : evLoop r = r.bind (codeK fun e st => some (e, st)) := by
  unfold evLoop
  cases r with
  | none => rfl
  | some r => cases r <;> rfl
theorem s_codeK {β : Type} (k : Ex → St → Option β) (e : Ex) (st : St) : codeK k (.code e st) = k e st := rfl
theorem s_valK {β : Type} (k : AV → Heap → Option β) (v : AV) (H : Heap) : valK k (.val v H) = k v H := rfl
/-- Where two ways meet. -/
def stopAt (f id : Nat) (s : St) (k : St → Option (Ex × St)) : Option (Ex × St) := k s
theorem stop_eq (f id : Nat) (s : St) (k : St → Option (Ex × St)) : stopAt f id s k = k s := rfl
theorem s_evReady (f m id : Nat) (st : St) (k : St → Option (Ex × St)) : evReady c f m id st k = if c.pre f id = 0 then k st else st.norm c (c.nilz f) (c.pre f id) m fun s => stopAt f id s k := by
  unfold evReady
  cases c.pre f id <;> rfl
/-- Code from a place on, up to an end. -/
def tailAt (f m n : Nat) : Nat → Code → List Nat → ((Ex × St) → Option Res) → St → Option Res
  | blk, co, [], K, st => (evCode c rec f m n blk co st).bind K
  | blk, .seq a b, 0 :: p, K, st => tailAt f m n blk a p (fun q => (seqK (evCode c rec f m n blk b) q).bind K) st
  | blk, .seq a b, _ :: p, K, st => tailAt f m n blk b p K st
  | blk, .cond _ a b, 0 :: p, K, st => tailAt f m n blk a p K st
  | blk, .cond _ a b, _ :: p, K, st => tailAt f m n blk b p K st
  | blk, .block id a, _ :: p, K, st => tailAt f m n id a p (fun q => (blockK id q).bind K) st
  | _, _, _ :: _, _, _ => none
def finP (rs : List ResultVar) (p : Ex × St) : Option Res := match p with
  | (.exit _, _) => none
  | (_, st) => (mapM' (resultAV c st) rs).bind fun vs => (freezeR st.H (match vs with | [v] => v | vs => .tup vs)).bind fun v => some (.val v [])
theorem s_finNorm (rs : List ResultVar) (st : St) : finP c rs (.norm, st) = (mapM' (resultAV c st) rs).bind fun vs => (freezeR st.H (match vs with | [v] => v | vs => .tup vs)).bind fun v => some (.val v []) := rfl
theorem s_finRet (rs : List ResultVar) (st : St) : finP c rs (.ret, st) = (mapM' (resultAV c st) rs).bind fun vs => (freezeR st.H (match vs with | [v] => v | vs => .tup vs)).bind fun v => some (.val v []) := rfl
theorem s_results (F : Func) (st : St) : resultsAV c F st = (mapM' (resultAV c st) F.results.toList).bind fun vs => some (match vs with | [v] => v | vs => .tup vs) := by
  unfold resultsAV
  cases mapM' (resultAV c st) F.results.toList with
  | none => rfl
  | some vs => cases vs with
    | nil => rfl
    | cons v vs => cases vs <;> rfl
theorem s_pfn (f : FuncId) (args : List AV) (F : Func) (b : Code) (hF : c.fn f = some F) (hb : F.body = some b) (hn : Nat.ble args.length F.ntmps = true) :
    stepTask c rec (.pfn f args) = (evCode c rec f 0 F.ntmps 0 b ⟨argFr 0 args, []⟩).bind (finP c F.results.toList) := by
  simp only [stepTask, hF, hb, hn, fSp_eq]
  cases evCode c rec f 0 F.ntmps 0 b ⟨argFr 0 args, []⟩ with
  | none => rfl
  | some p =>
    obtain ⟨e, st⟩ := p
    cases e with
    | exit k => rfl
    | _ =>
      simp only [Option.bind_some, finP, s_results]
      cases mapM' (resultAV c st) F.results.toList with
      | none => rfl
      | some v =>
        simp only [Option.bind_some]
        cases freezeR st.H _ <;> rfl
def finF (rs : List ResultVar) (m : Nat) (p : Ex × St) : Option Res := match p with
  | (.exit _, _) => none
  | (_, st) => (mapM' (resultAV c st) rs).bind fun vs => ({ fr := [(0, match vs with | [v] => v | vs => .tup vs)], H := st.H } : St).canon m fun st1 => some (.val (st1.fr.get 0) st1.H)
theorem s_finFNorm (rs : List ResultVar) (m : Nat) (st : St) : finF c rs m (.norm, st) = (mapM' (resultAV c st) rs).bind fun vs => ({ fr := [(0, match vs with | [v] => v | vs => .tup vs)], H := st.H } : St).canon m fun st1 => some (.val (st1.fr.get 0) st1.H) := rfl
theorem s_finFRet (rs : List ResultVar) (m : Nat) (st : St) : finF c rs m (.ret, st) = (mapM' (resultAV c st) rs).bind fun vs => ({ fr := [(0, match vs with | [v] => v | vs => .tup vs)], H := st.H } : St).canon m fun st1 => some (.val (st1.fr.get 0) st1.H) := rfl
theorem s_fn (f : FuncId) (args : List AV) (H : Heap) (F : Func) (b : Code) (hF : c.fn f = some F) (hb : F.body = some b) (hn : Nat.ble args.length F.ntmps = true) :
    stepTask c rec (.fn f args H) = (mvIf c f args H fun H1 => evCode c rec f H.length F.ntmps 0 b ⟨argFr 0 args, H1⟩).bind (finF c F.results.toList H.length) := by
  simp only [stepTask, hF, hb, hn, fSp_eq, fLen, fNat_eq, hV_eq]
  cases (mvIf c f args H fun H1 => evCode c rec f H.length F.ntmps 0 b ⟨argFr 0 args, H1⟩) with
  | none => rfl
  | some p =>
    obtain ⟨e, st⟩ := p
    cases e with
    | exit k => rfl
    | _ =>
      simp only [Option.bind_some, finF, s_results]
      cases mapM' (resultAV c st) F.results.toList <;> rfl
def nextK (f id m : Nat) (b : Code) (p : Ex × St) : Option Res := match p with
  | (.norm, st) => st.norm c (c.nilz f) (c.live f id) m fun st => rec (.loop f id m b st)
  | (e, st) => some (.code e st)
theorem s_nextNorm (f id m : Nat) (b : Code) (st : St) : nextK c rec f id m b (.norm, st) = st.norm c (c.nilz f) (c.live f id) m fun st => rec (.loop f id m b st) := rfl
theorem s_nextExit (f id m : Nat) (b : Code) (k : Nat) (st : St) : nextK c rec f id m b (.exit k, st) = some (.code (.exit k) st) := rfl
theorem s_nextRet (f id m : Nat) (b : Code) (st : St) : nextK c rec f id m b (.ret, st) = some (.code .ret st) := rfl
theorem s_loop (f id m : Nat) (b : Code) (st : St) (F : Func) (hF : c.fn f = some F) : stepTask c rec (.loop f id m b st) = (evCode c rec f m F.ntmps id b st).bind (nextK c rec f id m b) := by
  simp only [stepTask, hF]
  cases evCode c rec f m F.ntmps id b st with
  | none => rfl
  | some p =>
    obtain ⟨e, st⟩ := p
    cases e <;> rfl
end
section
variable {c : Ctx}
theorem lim_of {β : Type} {t : Task} {e : β → Res} (h : ∀ k, ∃ o : Option β, run c k t = o.map e) : ∃ o : Option β, R c t = o.map e := by
  cases hr : R c t with
  | none => exact ⟨none, rfl⟩
  | some r =>
    obtain ⟨k, hk⟩ := R_run (k := 0) hr
    obtain ⟨o, ho⟩ := h k
    rw [ho] at hk
    exact ⟨o, hk.symm⟩
theorem closed_img {t : Task} {e : Unit → Res} (h : R c t = some (e ())) (k : Nat) : ∃ m : Option Unit, run c k t = Option.map e m := by
  cases hr : run c k t with
  | none => exact ⟨none, rfl⟩
  | some r =>
    have := R_of_run hr
    rw [h] at this
    cases this
    exact ⟨some (), rfl⟩
theorem map_inj {α β : Type} {e : α → β} (he : ∀ x y, e x = e y → x = y) {a b : Option α} (h : a.map e = b.map e) : a = b := by
  cases a <;> cases b <;> simp at h
  · rfl
  · rw [he _ _ h]
theorem s_bindSum {α β γ : Type} {o o' : Option (α ⊕ β)} {f g : α ⊕ β → Option γ} (h : o = o') (k1 : ∀ x, o' = some (.inl x) → f (.inl x) = g (.inl x)) (k2 : ∀ x, o' = some (.inr x) → f (.inr x) = g (.inr x)) : o.bind f = o'.bind g := by
  subst h
  cases o with
  | none => rfl
  | some x => cases x with
    | inl x => exact k1 x rfl
    | inr x => exact k2 x rfl
end
end Go.Ev
