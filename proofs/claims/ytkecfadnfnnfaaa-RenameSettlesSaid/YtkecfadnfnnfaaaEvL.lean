/- The limit of the evaluator: what it answers with whatever fuel. -/
import Derived.Test.YtkecfadnfnnfaaaEvK
set_option linter.unusedVariables false
set_option linter.unusedSimpArgs false
noncomputable section
namespace Go.Ev

/-- With so much fuel, and with more, it answers so. -/
def Ev (c : Ctx) (t : Task) (r : Res) : Prop := ∃ K, ∀ k, K ≤ k → run c k t = some r
open Classical in
def R (c : Ctx) (t : Task) : Option Res := if h : ∃ r, Ev c t r then some (Classical.choose h) else none
theorem R_ev {c : Ctx} {t : Task} {r : Res} (h : R c t = some r) : Ev c t r := by
  unfold R at h
  split at h
  · rename_i hx
    have := Classical.choose_spec hx
    simp at h
    rwa [h] at this
  · cases h
theorem R_of_ev {c : Ctx} {t : Task} {r : Res} (h : Ev c t r) : R c t = some r := by
  have hx : ∃ r, Ev c t r := ⟨r, h⟩
  have : R c t = some (Classical.choose hx) := by unfold R; rw [dif_pos hx]
  rw [this]
  obtain ⟨K, h1⟩ := h
  obtain ⟨K', h2⟩ := Classical.choose_spec hx
  have := h1 (max K K') (Nat.le_max_left _ _)
  rw [h2 (max K K') (Nat.le_max_right _ _)] at this
  exact this

/-- What is found with the limit is found with some fuel. -/
def Fin {α : Type} (g : Nat → Task → Option Res) (L : Task → Option Res) (F : (Task → Option Res) → Option α) : Prop := ∀ r, F L = some r → ∃ K, ∀ k, K ≤ k → F (g k) = some r

/-- The answers of L are, in the end, those of g. -/
def Lim (g : Nat → Task → Option Res) (L : Task → Option Res) : Prop := ∀ t r, L t = some r → ∃ K, ∀ k, K ≤ k → g k t = some r
section
variable {c : Ctx} {α β : Type} {g : Nat → Task → Option Res} {L : Task → Option Res}
theorem Fin.const (x : Option α) : Fin g L (fun _ => x) := fun r h => ⟨0, fun _ _ => h⟩
theorem Fin.bind {F : (Task → Option Res) → Option α} {G : α → (Task → Option Res) → Option β} (hF : Fin g L F) (hG : ∀ a, Fin g L (G a)) : Fin g L (fun rec => match F rec with | none => none | some a => G a rec) := fun r h => by
  dsimp only at h
  cases hf : F L with
  | none => simp [hf] at h
  | some a =>
    simp only [hf] at h
    obtain ⟨K1, h1⟩ := hF a hf
    obtain ⟨K2, h2⟩ := hG a r h
    exact ⟨max K1 K2, fun k hk => by simp only [h1 k (by omega), h2 k (by omega)]⟩
theorem Fin.congr {F G : (Task → Option Res) → Option α} (h : ∀ rec, F rec = G rec) (hF : Fin g L F) : Fin g L G := fun r hr => by
  rw [← h] at hr
  obtain ⟨K, hk⟩ := hF r hr
  exact ⟨K, fun k hk' => by rw [← h]; exact hk k hk'⟩
/-- A check that is met. -/
def FinB (g : Nat → Task → Option Res) (L : Task → Option Res) (F : (Task → Option Res) → Bool) : Prop := F L = true → ∃ K, ∀ k, K ≤ k → F (g k) = true
theorem FinB.all {γ : Type} (l : List γ) {F : γ → (Task → Option Res) → Bool} (h : ∀ x ∈ l, FinB g L (F x)) : FinB g L (fun rec => l.all fun x => F x rec) := by
  induction l with
  | nil => exact fun _ => ⟨0, fun _ _ => rfl⟩
  | cons a l ih =>
    intro hr
    simp only [List.all_cons, Bool.and_eq_true] at hr
    obtain ⟨K1, h1⟩ := h a (by simp) hr.1
    obtain ⟨K2, h2⟩ := ih (fun x hx => h x (by simp [hx])) hr.2
    exact ⟨max K1 K2, fun k hk => by simp only [List.all_cons, Bool.and_eq_true]; exact ⟨h1 k (by omega), h2 k (by omega)⟩⟩
theorem FinB.bind {F : (Task → Option Res) → Option α} {G : α → (Task → Option Res) → Bool} (hF : Fin g L F) (hG : ∀ a, FinB g L (G a)) : FinB g L (fun rec => match F rec with | none => false | some a => G a rec) := fun h => by
  dsimp only at h
  cases hf : F L with
  | none => simp [hf] at h
  | some a =>
    simp only [hf] at h
    obtain ⟨K1, h1⟩ := hF a hf
    obtain ⟨K2, h2⟩ := hG a h
    exact ⟨max K1 K2, fun k hk => by simp only [h1 k (by omega), h2 k (by omega)]⟩
theorem FinB.const (b : Bool) : FinB g L (fun _ => b) := fun h => ⟨0, fun _ _ => h⟩
theorem Fin.when {F : (Task → Option Res) → Bool} {x : Option α} (hF : FinB g L F) : Fin g L (fun rec => match F rec with | true => x | false => none) := fun r h => by
  dsimp only at h
  cases hf : F L with
  | false => simp [hf] at h
  | true =>
    simp only [hf] at h
    obtain ⟨K1, h1⟩ := hF hf
    exact ⟨K1, fun k hk => by simp only [h1 k hk, h]⟩

theorem reach_fin {m : Nat} {vs : List AV} {H : Heap} {F : List Nat → (Task → Option Res) → Option α} (h : ∀ s, Fin g L (F s)) : Fin g L (fun rec => reach m vs H fun s => F s rec) := by
  simp only [reach, fSp_eq]
  cases hv : visit H 100000 ((downFrom m).reverse.flatMap (fun b => (blkAt H b).refs) ++ vs.flatMap refs) (downFrom m) with
  | none => simp only []; exact Fin.const none
  | some out => simp only []; exact h out.reverse
theorem canon_fin {m : Nat} {st : St} {F : St → (Task → Option Res) → Option α} (h : ∀ s, Fin g L (F s)) : Fin g L (fun rec => st.canon m fun s => F s rec) := by
  unfold St.canon
  simp only [renFr_eq, renBlks_eq]
  exact reach_fin fun s => h _

theorem norm_fin {nz : Nat → List Nat} {mask m : Nat} {st : St} {F : St → (Task → Option Res) → Option α} (h : ∀ s, Fin g L (F s)) : Fin g L (fun rec => st.norm c nz mask m fun s => F s rec) := by
  unfold St.norm
  simp only [fSp_eq, nestFr_eq]
  exact canon_fin h
theorem callRaw_fin (hL : Lim g L) (f : FuncId) (args : List AV) (H : Heap) : Fin g L (fun rec => callRaw rec f args H) := by
  unfold callRaw
  refine reach_fin fun seen => ?_
  simp only [fVs_eq, renBlks_eq]
  intro r h
  dsimp only at h
  cases hr : L (.fn f (args.map (ren fun b => indexIn b seen 0)) (seen.map fun b => (blkAt H b).rn fun b => indexIn b seen 0)) with
  | none => simp [hr] at h
  | some x =>
    obtain ⟨K, hK⟩ := hL _ _ hr
    rw [hr] at h
    exact ⟨K, fun k hk => by dsimp only; rw [hK k hk]; exact h⟩
theorem callPure_fin (hL : Lim g L) (f : FuncId) (args : List AV) (H : Heap) : Fin g L (fun rec => callPure rec f args H) := by
  unfold callPure
  cases hm : mapM' (freezeN H 12) args with
  | none => exact Fin.const none
  | some fs =>
    simp only
    intro r h
    dsimp only at h
    cases hr : L (.pfn f fs) with
    | none => simp [hr] at h
    | some x =>
      obtain ⟨K, hK⟩ := hL _ _ hr
      rw [hr] at h
      exact ⟨K, fun k hk => by dsimp only; rw [hK k hk]; exact h⟩
theorem callAV_fin (hL : Lim g L) (f : FuncId) (args : List AV) (H : Heap) : Fin g L (fun rec => callAV c rec f args H) := by
  unfold callAV
  cases c.prim f with
  | clone e => exact Fin.const _
  | pure p => exact Fin.const _
  | no =>
    simp only
    cases c.raw f || !(args.all fun v => (freezeN H 12 v).isSome) with
    | true => exact callRaw_fin hL f args H
    | false => exact callPure_fin hL f args H
theorem evOp_fin (hL : Lim g L) (o : Oper) (fr : Fr) (H : Heap) : Fin g L (fun rec => evOp c rec o fr H) := by
  unfold evOp
  cases o.op <;> try exact Fin.const _
  case call cl =>
    simp only
    unfold callsOp
    cases cl.callee with
    | builtin b => exact Fin.const _
    | invoke => exact Fin.const _
    | value f =>
      simp only
      unfold callOp
      cases opv fr f <;> try exact Fin.const _
      exact callAV_fin hL _ _ _
theorem evStep_fin (hL : Lim g L) (n : Nat) (ops : Array Oper) (o : Oper) (st : St) : Fin g L (fun rec => evStep c rec n ops o st) := by
  unfold evStep
  cases dstOk n o.dst with
  | false => exact Fin.const _
  | true =>
    simp only
    cases wantedAV ops o st.fr with
    | none => exact Fin.const _
    | some b =>
      cases b with
      | false => exact Fin.const _
      | true =>
        simp only
        unfold evDo
        intro r h
        dsimp only at h
        cases he : evOp c L o st.fr st.H with
        | none => rw [he] at h; cases h
        | some x =>
          obtain ⟨K, hK⟩ := evOp_fin hL o st.fr st.H x he
          dsimp only at hK
          rw [he] at h
          exact ⟨K, fun k hk => by dsimp only; rw [hK k hk]; exact h⟩
theorem evList_fin (hL : Lim g L) (n : Nat) (ops : Array Oper) : ∀ (l : List Oper) (st : St), Fin g L (fun rec => evList c rec n ops l st)
  | [], st => Fin.const _
  | o :: l, st => by
    intro r h
    have h : thenO (evStep c L n ops o st) (evList c L n ops l) = some r := h
    unfold thenO at h
    cases he : evStep c L n ops o st with
    | none => rw [he] at h; cases h
    | some x =>
      obtain ⟨K1, h1⟩ := evStep_fin hL n ops o st x he
      dsimp only at h1
      rw [he] at h
      obtain ⟨K2, h2⟩ := evList_fin hL n ops l x r h
      dsimp only at h2
      refine ⟨max K1 K2, fun k hk => ?_⟩
      show thenO (evStep c (g k) n ops o st) (evList c (g k) n ops l) = some r
      unfold thenO
      rw [h1 k (by omega)]
      exact h2 k (by omega)
theorem forkStep_fin (hL : Lim g L) (n : Nat) (ops : Array Oper) (i : Nat) (w : List Nat) (t : Tra) : Fin g L (fun rec => forkStep c rec n ops i w t) := by
  unfold forkStep
  cases ops[i]? with
  | none => exact Fin.const _
  | some o =>
    intro r h
    dsimp only at h
    cases he : evStep c L n ops o t.st with
    | none => rw [he] at h; cases h
    | some x =>
      obtain ⟨K, hK⟩ := evStep_fin hL n ops o t.st x he
      dsimp only at hK
      rw [he] at h
      exact ⟨K, fun k hk => by dsimp only; rw [hK k hk]; exact h⟩
/-- One of the other branches of a fork. -/
def otherOk (c : Ctx) (rec : Task → Option Res) (m n : Nat) (ops : Array Oper) (k : Nat) (t : Tra) (c1 : St) (q : Nat × List Nat × Plan) : Bool :=
  match forkStep c rec n ops q.1 q.2.1 t with
  | none => false
  | some u => match evPlan c rec m n ops k q.2.2 u with
    | none => false
    | some t2 => match t2.canon m fun c2 => some (sameSt c1 c2) with | some true => true | _ => false
theorem evPlan_fork (rec : Task → Option Res) (m n : Nat) (ops : Array Oper) (k : Nat) (i : Nat) (w : List Nat) (p : Plan) (q2 : Nat × List Nat × Plan) (r : List (Nat × List Nat × Plan)) (t : Tra) :
    evPlan c rec m n ops (k + 1) (.fork ((i, w, p) :: q2 :: r)) t = match forkStep c rec n ops i w t with
      | none => none
      | some t0 => match evPlan c rec m n ops k p t0 with
        | none => none
        | some t1 => t1.canon m fun c1 => match (q2 :: r).all (otherOk c rec m n ops k t c1) with | true => some c1 | false => none := rfl
theorem evPlan_fin (hL : Lim g L) (m n : Nat) (ops : Array Oper) : ∀ (k : Nat) (p : Plan) (t : Tra), Fin g L (fun rec => evPlan c rec m n ops k p t)
  | 0, p, t => Fin.const _
  | k + 1, .done, t => Fin.const _
  | k + 1, .take i p, t => by
    simp only [evPlan]
    cases ops[i]? with
    | none => exact Fin.const _
    | some o =>
      simp only
      cases wantedAV ops o t.st.fr with
      | none => exact Fin.const _
      | some w =>
        intro r h
        dsimp only at h
        cases he : evStep c L n ops o t.st with
        | none => rw [he] at h; cases h
        | some x =>
          obtain ⟨K1, h1⟩ := evStep_fin hL n ops o t.st x he
          dsimp only at h1
          rw [he] at h
          obtain ⟨K2, h2⟩ := evPlan_fin hL m n ops k p _ r h
          dsimp only at h2
          refine ⟨max K1 K2, fun k hk => ?_⟩
          dsimp only
          rw [h1 k (by omega)]
          exact h2 k (by omega)
  | k + 1, .fork l, t => by
    cases l with
    | nil => exact Fin.const _
    | cons q r =>
      obtain ⟨i, w, p⟩ := q
      cases r with
      | nil =>
        simp only [evPlan]
        intro r h
        dsimp only at h
        cases he : forkStep c L n ops i w t with
        | none => rw [he] at h; cases h
        | some x =>
          obtain ⟨K1, h1⟩ := forkStep_fin hL n ops i w t x he
          dsimp only at h1
          rw [he] at h
          obtain ⟨K2, h2⟩ := evPlan_fin hL m n ops k p _ r h
          dsimp only at h2
          refine ⟨max K1 K2, fun k hk => ?_⟩
          dsimp only
          rw [h1 k (by omega)]
          exact h2 k (by omega)
      | cons q2 r =>
        intro res h
        dsimp only at h
        rw [evPlan_fork] at h
        cases he : forkStep c L n ops i w t with
        | none => rw [he] at h; cases h
        | some t0 =>
          obtain ⟨K1, h1⟩ := forkStep_fin hL n ops i w t t0 he
          dsimp only at h1
          rw [he] at h
          dsimp only at h
          cases he2 : evPlan c L m n ops k p t0 with
          | none => rw [he2] at h; cases h
          | some t1 =>
            obtain ⟨K2, h2⟩ := evPlan_fin hL m n ops k p t0 t1 he2
            dsimp only at h2
            rw [he2] at h
            have hoth : ∀ c1, FinB g L (fun rec => (q2 :: r).all (otherOk c rec m n ops k t c1)) := fun c1 => FinB.all (q2 :: r) (F := fun q rec => otherOk c rec m n ops k t c1 q) (fun q _ => by
              intro hb
              unfold otherOk at hb ⊢
              dsimp only at hb ⊢
              cases e1 : forkStep c L n ops q.1 q.2.1 t with
              | none => rw [e1] at hb; cases hb
              | some u =>
                obtain ⟨A1, a1⟩ := forkStep_fin hL n ops q.1 q.2.1 t u e1
                dsimp only at a1
                rw [e1] at hb
                dsimp only at hb
                cases e2 : evPlan c L m n ops k q.2.2 u with
                | none => rw [e2] at hb; cases hb
                | some t2 =>
                  obtain ⟨A2, a2⟩ := evPlan_fin hL m n ops k q.2.2 u t2 e2
                  dsimp only at a2
                  rw [e2] at hb
                  refine ⟨max A1 A2, fun k hk => ?_⟩
                  rw [a1 k (by omega)]
                  dsimp only
                  rw [a2 k (by omega)]
                  exact hb)
            obtain ⟨K3, h3⟩ := canon_fin (g := g) (L := L) (m := m) (st := t1) (F := fun c1 rec => match (q2 :: r).all (otherOk c rec m n ops k t c1) with | true => some c1 | false => none) (fun c1 => Fin.when (hoth c1)) res h
            dsimp only at h3
            refine ⟨max K1 (max K2 K3), fun k hk => ?_⟩
            dsimp only
            rw [evPlan_fork, h1 k (by omega)]
            dsimp only
            rw [h2 k (by omega)]
            exact h3 k (by omega)
theorem evRegion_fin (hL : Lim g L) (f m n id : Nat) (ops : Array Oper) (draw : Bool) (st : St) : Fin g L (fun rec => evRegion c rec f m n id ops draw st) := by
  unfold evRegion
  intro r h
  dsimp only at h
  cases draw with
  | true =>
    cases he : ifB true (evDraw c L m n ops (c.plan f id) st) (evList c L n ops ops.toList st) with
    | none => rw [he] at h; cases h
    | some x =>
      obtain ⟨K, hK⟩ := evPlan_fin hL m n ops (ops.size + 1) (c.plan f id) { st := st, rd := [] } x he
      dsimp only at hK
      rw [he] at h
      refine ⟨K, fun k hk => ?_⟩
      have e : ifB true (evDraw c (g k) m n ops (c.plan f id) st) (evList c (g k) n ops ops.toList st) = some x := hK k hk
      dsimp only
      rw [e]
      exact h
  | false =>
    cases he : ifB false (evDraw c L m n ops (c.plan f id) st) (evList c L n ops ops.toList st) with
    | none => rw [he] at h; cases h
    | some x =>
      obtain ⟨K, hK⟩ := evList_fin hL n ops ops.toList st x he
      dsimp only at hK
      rw [he] at h
      refine ⟨K, fun k hk => ?_⟩
      have e : ifB false (evDraw c (g k) m n ops (c.plan f id) st) (evList c (g k) n ops ops.toList st) = some x := hK k hk
      dsimp only
      rw [e]
      exact h
theorem evCode_fin (hL : Lim g L) (f m n : Nat) : ∀ (co : Code) (blk : Nat) (st : St), Fin g L (fun rec => evCode c rec f m n blk co st)
  | .skip, blk, st => Fin.const _
  | .region id ops draw, blk, st => by
    show Fin g L (fun rec => evReady c f m id st fun st => evRegion c rec f m n id ops draw st)
    unfold evReady
    split
    · exact evRegion_fin hL f m n id ops draw st
    · exact norm_fin fun s => evRegion_fin hL f m n id ops draw s
  | .seq a b, blk, st => by
    intro r h
    have h : evSeq (evCode c L f m n blk a) (evCode c L f m n blk b) st = some r := h
    unfold evSeq at h
    cases ha : evCode c L f m n blk a st with
    | none => rw [ha] at h; cases h
    | some x =>
      obtain ⟨K1, h1⟩ := evCode_fin hL f m n a blk st x ha
      dsimp only at h1
      obtain ⟨e, s⟩ := x
      rw [ha] at h
      cases e with
      | norm =>
        obtain ⟨K2, h2⟩ := evCode_fin hL f m n b blk s r h
        dsimp only at h2
        refine ⟨max K1 K2, fun k hk => ?_⟩
        show evSeq (evCode c (g k) f m n blk a) (evCode c (g k) f m n blk b) st = some r
        unfold evSeq
        rw [h1 k (by omega)]
        exact h2 k (by omega)
      | exit i =>
        refine ⟨K1, fun k hk => ?_⟩
        show evSeq (evCode c (g k) f m n blk a) (evCode c (g k) f m n blk b) st = some r
        unfold evSeq
        rw [h1 k hk]
        exact h
      | ret =>
        refine ⟨K1, fun k hk => ?_⟩
        show evSeq (evCode c (g k) f m n blk a) (evCode c (g k) f m n blk b) st = some r
        unfold evSeq
        rw [h1 k hk]
        exact h
  | .cond p a b, blk, st => by
    show Fin g L (fun rec => evCond (opv st.fr p) (evCode c rec f m n blk a) (evCode c rec f m n blk b) st)
    unfold evCond
    cases opv st.fr p with
    | bool v => cases v with
      | true => exact evCode_fin hL f m n a blk st
      | false => exact evCode_fin hL f m n b blk st
    | _ => exact Fin.const _
  | .block id a, blk, st => by
    intro r h
    have h : evBlock id (evCode c L f m n id a) st = some r := h
    unfold evBlock at h
    cases ha : evCode c L f m n id a st with
    | none => rw [ha] at h; cases h
    | some x =>
      obtain ⟨K1, h1⟩ := evCode_fin hL f m n a id st x ha
      dsimp only at h1
      rw [ha] at h
      refine ⟨K1, fun k hk => ?_⟩
      show evBlock id (evCode c (g k) f m n id a) st = some r
      unfold evBlock
      rw [h1 k hk]
      exact h
  | .loop b, blk, st => by
    show Fin g L (fun rec => st.norm c (c.nilz f) (c.live f blk) m fun st => evLoop (rec (.loop f blk m b st)))
    refine norm_fin fun st => ?_
    intro r h
    have h : evLoop (L (.loop f blk m b st)) = some r := h
    cases hr : L (.loop f blk m b st) with
    | none => rw [hr] at h; cases h
    | some x =>
      obtain ⟨K, hK⟩ := hL _ _ hr
      rw [hr] at h
      refine ⟨K, fun k hk => ?_⟩
      show evLoop (g k (.loop f blk m b st)) = some r
      rw [hK k hk]
      exact h
  | .exit id, blk, st => norm_fin fun s => Fin.const _
  | .ret, blk, st => norm_fin fun s => Fin.const _
  | .rangeFunc _ _ _ _, blk, st => Fin.const none
  | .scope _, blk, st => Fin.const none
  | .label _, blk, st => Fin.const none
  | .goto _, blk, st => Fin.const none
  | .refuse _, blk, st => Fin.const none

theorem stepTask_fin (hL : Lim g L) (t : Task) : Fin g L (fun rec => stepTask c rec t) := by
  cases t with
  | pfn f args =>
    simp only [stepTask]
    cases c.fn f with
    | none => exact Fin.const _
    | some F =>
      simp only
      cases F.body with
      | none => exact Fin.const _
      | some b =>
        simp only
        cases Nat.ble args.length F.ntmps with
        | false => exact Fin.const _
        | true =>
          simp only [fSp_eq]
          intro r h
          dsimp only at h
          cases he : evCode c L f 0 F.ntmps 0 b { fr := argFr 0 args, H := [] } with
          | none => rw [he] at h; cases h
          | some x =>
            obtain ⟨K, hK⟩ := evCode_fin hL f 0 F.ntmps b 0 _ x he
            dsimp only at hK
            rw [he] at h
            exact ⟨K, fun k hk => by dsimp only; rw [hK k hk]; exact h⟩
  | fn f args H =>
    simp only [stepTask]
    cases c.fn f with
    | none => exact Fin.const _
    | some F =>
      simp only
      cases F.body with
      | none => exact Fin.const _
      | some b =>
        simp only
        cases Nat.ble args.length F.ntmps with
        | false => exact Fin.const _
        | true =>
          simp only [fSp_eq, fLen, fNat_eq]
          obtain ⟨H1, hmv⟩ : ∃ H1, ∀ (γ : Type) (k : Heap → γ), mvIf c f args H k = k H1 := by
            unfold mvIf
            cases c.stay f with
            | true => exact ⟨H, fun _ _ => rfl⟩
            | false => exact ⟨_, fun γ k => mvHeap_eq args H k⟩
          simp only [hmv]
          intro r h
          dsimp only at h
          cases he : evCode c L f H.length F.ntmps 0 b { fr := argFr 0 args, H := H1 } with
          | none => rw [he] at h; cases h
          | some x =>
            obtain ⟨K, hK⟩ := evCode_fin hL f H.length F.ntmps b 0 _ x he
            dsimp only at hK
            rw [he] at h
            exact ⟨K, fun k hk => by dsimp only; rw [hK k hk]; exact h⟩
  | loop f id m b st =>
    simp only [stepTask]
    cases c.fn f with
    | none => exact Fin.const _
    | some F =>
      simp only
      intro r h
      dsimp only at h
      cases he : evCode c L f m F.ntmps id b st with
      | none => rw [he] at h; cases h
      | some x =>
        obtain ⟨K, hK⟩ := evCode_fin hL f m F.ntmps b id st x he
        dsimp only at hK
        obtain ⟨e, s⟩ := x
        rw [he] at h
        cases e with
        | norm =>
          obtain ⟨K2, h2⟩ := norm_fin (g := g) (L := L) (nz := c.nilz f) (mask := c.live f id) (m := m) (st := s) (F := fun st rec => rec (.loop f id m b st)) (fun s r hr => hL _ _ hr) r h
          dsimp only at h2
          exact ⟨max K K2, fun k hk => by dsimp only; rw [hK k (by omega)]; exact h2 k (by omega)⟩
        | exit i => exact ⟨K, fun k hk => by dsimp only; rw [hK k hk]; exact h⟩
        | ret => exact ⟨K, fun k hk => by dsimp only; rw [hK k hk]; exact h⟩

/-- One step over the limit is the limit's. -/
theorem R_step {t : Task} {r : Res} (h : stepTask c (R c) t = some r) : R c t = some r := by
  obtain ⟨K, hK⟩ := stepTask_fin (g := fun k => run c k) (L := R c) (fun t r h => R_ev h) t r h
  dsimp only at hK
  refine R_of_ev ⟨K + 1, fun k hk => ?_⟩
  obtain ⟨j, rfl⟩ : ∃ j, k = j + 1 := ⟨k - 1, by omega⟩
  exact hK j (by omega)
theorem R_run {t : Task} {r : Res} {k : Nat} (h : R c t = some r) : ∃ k, run c k t = some r := let ⟨K, hK⟩ := R_ev h; ⟨K, hK K (Nat.le_refl _)⟩
/-- More fuel, the same answer. -/
theorem run_mono : ∀ (k : Nat) (t : Task) (r : Res), run c k t = some r → ∀ k', k ≤ k' → run c k' t = some r
  | 0, t, r, h, _, _ => by simp [run] at h
  | k + 1, t, r, h, k', hk => by
    obtain ⟨j, rfl⟩ : ∃ j, k' = j + 1 := ⟨k' - 1, by omega⟩
    obtain ⟨K, hK⟩ := stepTask_fin (c := c) (g := fun _ => run c j) (L := run c k) (fun t r h => ⟨0, fun _ _ => run_mono k t r h j (by omega)⟩) t r h
    exact hK K (Nat.le_refl _)
theorem R_of_run {k : Nat} {t : Task} {r : Res} (h : run c k t = some r) : R c t = some r := R_of_ev ⟨k, fun k' hk => run_mono k t r h k' hk⟩
/-- What the limit answers, its step answers. -/
theorem step_R {t : Task} {r : Res} (h : R c t = some r) : stepTask c (R c) t = some r := by
  obtain ⟨k, hk⟩ := R_run (k := 0) h
  cases k with
  | zero => simp [run] at hk
  | succ k =>
    obtain ⟨K, hK⟩ := stepTask_fin (c := c) (g := fun _ => R c) (L := run c k) (fun t r h => ⟨0, fun _ _ => R_of_run h⟩) t r hk
    exact hK K (Nat.le_refl _)
/-- The limit is its own step. -/
theorem R_eq (t : Task) : R c t = stepTask c (R c) t := by
  cases h : R c t with
  | some r => exact (step_R h).symm
  | none =>
    cases h2 : stepTask c (R c) t with
    | none => rfl
    | some r => rw [R_step h2] at h; cases h
end
end Go.Ev
