/- Symbolic runs: what expressions made simple, filled or compared mean. -/
import Derived.Test.YtkecfadnfnnfaaaSyC
import Derived.Test.YtkecfadnfnnfaaaEvSyo
set_option linter.unusedVariables false
set_option linter.unusedSimpArgs false
namespace Go.Sy
open Go Go.Ev

theorem kEq_eq {a b : IntKind} (h : kEq a b = true) : a = b := by cases a <;> cases b <;> first | rfl | (simp [kEq] at h)
theorem kEq_refl (a : IntKind) : kEq a a = true := by cases a <;> rfl
theorem and_t {a b : Bool} (h : (a && b) = true) : a = true ∧ b = true := by simpa using h
theorem tyBeq_eq : ∀ {a b : Ty}, Ty.beq a b = true → a = b
  | .nat, b, h => by cases b <;> first | rfl | (simp [Ty.beq] at h)
  | .int k, b, h => by cases b <;> first | (simp [Ty.beq] at h; done) | (rw [kEq_eq h])
  | .bool, b, h => by cases b <;> first | rfl | (simp [Ty.beq] at h)
  | .str, b, h => by cases b <;> first | rfl | (simp [Ty.beq] at h)
  | .unit, b, h => by cases b <;> first | rfl | (simp [Ty.beq] at h)
  | .lst e, b, h => by cases b <;> first | (simp [Ty.beq] at h; done) | (rw [tyBeq_eq (a := e) h])
  | .pair x y, b, h => by
    cases b <;> first | (simp [Ty.beq] at h; done) | (obtain ⟨h1, h2⟩ := and_t h; rw [tyBeq_eq h1, tyBeq_eq h2])
theorem bytesEq_eq : ∀ {a b : List UInt8}, bytesEq a b = true → a = b
  | [], [], _ => rfl
  | a :: l, b :: m, h => by
    obtain ⟨h1, h2⟩ := and_t h
    have := Nat.eq_of_beq_eq_true h1
    rw [bytesEq_eq h2, UInt8.toNat_inj.mp this]
  | [], _ :: _, h => by simp [bytesEq] at h
  | _ :: _, [], h => by simp [bytesEq] at h
theorem eqI_eq {a b : Int} (h : eqI a b = true) : a = b := by
  cases a <;> cases b <;> simp only [eqI] at h <;> first | (rw [Nat.eq_of_beq_eq_true h]) | (cases h)
theorem dec_eq {α : Type} [DecidableEq α] {a b : α} (h : decide (a = b) = true) : a = b := of_decide_eq_true h
theorem o1Eq_eq {a b : O1} (h : o1Eq a b = true) : a = b := by
  cases a <;> cases b <;> simp only [o1Eq, reduceCtorEq] at h <;> first
    | rfl
    | (rw [tyBeq_eq h]; done)
    | (rw [kEq_eq h]; done)
    | (obtain ⟨h1, h2⟩ := and_t h; rw [dec_eq h1, kEq_eq h2]; done)
    | (cases h)
theorem o2Eq_eq {a b : O2} (h : o2Eq a b = true) : a = b := by
  cases a <;> cases b <;> simp only [o2Eq, reduceCtorEq] at h <;> first
    | rfl
    | (obtain ⟨h1, h2⟩ := and_t h; rw [dec_eq h1, kEq_eq h2]; done)
    | (obtain ⟨h1, h2⟩ := and_t h; obtain ⟨h3, h4⟩ := and_t h2; rw [dec_eq h1, kEq_eq h3, kEq_eq h4]; done)
    | (rw [dec_eq h]; done)
    | (cases h)
theorem o3Eq_eq {a b : O3} (h : o3Eq a b = true) : a = b := by cases a <;> cases b <;> first | rfl | (cases h)
theorem exBeq_eq : ∀ {a b : Ex}, Ex.beq a b = true → a = b
  | .v n, b, h => by cases b <;> simp only [Ex.beq, reduceCtorEq] at h; rw [Nat.eq_of_beq_eq_true h]
  | .il n, b, h => by cases b <;> simp only [Ex.beq, reduceCtorEq] at h; rw [eqI_eq h]
  | .nn n, b, h => by cases b <;> simp only [Ex.beq, reduceCtorEq] at h; rw [Nat.eq_of_beq_eq_true h]
  | .bl n, b, h => by cases b <;> simp only [Ex.beq, reduceCtorEq] at h; rw [eq_of_beq h]
  | .st n, b, h => by cases b <;> simp only [Ex.beq, reduceCtorEq] at h; rw [bytesEq_eq h]
  | .nl, b, h => by cases b <;> simp only [Ex.beq, reduceCtorEq] at h; rfl
  | .un, b, h => by cases b <;> simp only [Ex.beq, reduceCtorEq] at h; rfl
  | .o1 o x, b, h => by
    cases b <;> simp only [Ex.beq, reduceCtorEq] at h
    obtain ⟨h1, h2⟩ := and_t h
    rw [o1Eq_eq h1, exBeq_eq h2]
  | .o2 o x y, b, h => by
    cases b <;> simp only [Ex.beq, reduceCtorEq] at h
    obtain ⟨h1, h2⟩ := and_t h
    obtain ⟨h2, h3⟩ := and_t h2
    rw [o2Eq_eq h1, exBeq_eq h2, exBeq_eq h3]
  | .o3 o x y z, b, h => by
    cases b <;> simp only [Ex.beq, reduceCtorEq] at h
    obtain ⟨h1, h2⟩ := and_t h
    obtain ⟨h2, h3⟩ := and_t h2
    obtain ⟨h3, h4⟩ := and_t h3
    rw [o3Eq_eq h1, exBeq_eq h2, exBeq_eq h3, exBeq_eq h4]
theorem beqEs_eq : ∀ {a b : List Ex}, beqEs a b = true → a = b
  | [], [], _ => rfl
  | a :: l, b :: m, h => by obtain ⟨h1, h2⟩ := and_t h; rw [exBeq_eq h1, beqEs_eq h2]
  | [], _ :: _, h => by simp [beqEs] at h
  | _ :: _, [], h => by simp [beqEs] at h
theorem tysEq_eq : ∀ {a b : List Ty}, tysEq a b = true → a = b
  | [], [], _ => rfl
  | a :: l, b :: m, h => by obtain ⟨h1, h2⟩ := and_t h; rw [tyBeq_eq h1, tysEq_eq h2]
  | [], _ :: _, h => by simp [tysEq] at h
  | _ :: _, [], h => by simp [tysEq] at h

mutual
theorem svBeq_eq : ∀ {a b : SV}, SV.beq a b = true → a = b
  | .undef, b, h => by cases b <;> simp only [SV.beq, reduceCtorEq] at h; rfl
  | .ii k e, b, h => by cases b <;> simp only [SV.beq, reduceCtorEq] at h; obtain ⟨h1, h2⟩ := and_t h; rw [kEq_eq h1, exBeq_eq h2]
  | .bb e, b, h => by cases b <;> simp only [SV.beq, reduceCtorEq] at h; rw [exBeq_eq h]
  | .ss e, b, h => by cases b <;> simp only [SV.beq, reduceCtorEq] at h; rw [exBeq_eq h]
  | .tl t e, b, h => by cases b <;> simp only [SV.beq, reduceCtorEq] at h; obtain ⟨h1, h2⟩ := and_t h; rw [tyBeq_eq h1, exBeq_eq h2]
  | .nilp, b, h => by cases b <;> simp only [SV.beq, reduceCtorEq] at h; rfl
  | .ptr x i o, b, h => by
    cases b <;> simp only [SV.beq, reduceCtorEq] at h
    obtain ⟨h1, h2⟩ := and_t h
    obtain ⟨h2, h3⟩ := and_t h2
    rw [Nat.eq_of_beq_eq_true h1, exBeq_eq h2, Nat.eq_of_beq_eq_true h3]
  | .iptr cs, b, h => by cases b <;> simp only [SV.beq, reduceCtorEq] at h; rw [svBeqL_eq h]
  | .nils, b, h => by cases b <;> simp only [SV.beq, reduceCtorEq] at h; rfl
  | .emp, b, h => by cases b <;> simp only [SV.beq, reduceCtorEq] at h; rfl
  | .sl x i o, b, h => by
    cases b <;> simp only [SV.beq, reduceCtorEq] at h
    obtain ⟨h1, h2⟩ := and_t h
    obtain ⟨h2, h3⟩ := and_t h2
    rw [Nat.eq_of_beq_eq_true h1, exBeq_eq h2, exBeq_eq h3]
  | .nilm, b, h => by cases b <;> simp only [SV.beq, reduceCtorEq] at h; rfl
  | .map x, b, h => by cases b <;> simp only [SV.beq, reduceCtorEq] at h; rw [Nat.eq_of_beq_eq_true h]
  | .nilf, b, h => by cases b <;> simp only [SV.beq, reduceCtorEq] at h; rfl
  | .fn f cs, b, h => by cases b <;> simp only [SV.beq, reduceCtorEq] at h; obtain ⟨h1, h2⟩ := and_t h; rw [Nat.eq_of_beq_eq_true h1, svBeqL_eq h2]
  | .nili, b, h => by cases b <;> simp only [SV.beq, reduceCtorEq] at h; rfl
  | .iface t v, b, h => by cases b <;> simp only [SV.beq, reduceCtorEq] at h; obtain ⟨h1, h2⟩ := and_t h; rw [Nat.eq_of_beq_eq_true h1, svBeq_eq h2]
  | .agg cs, b, h => by cases b <;> simp only [SV.beq, reduceCtorEq] at h; rw [svBeqL_eq h]
  | .tup cs, b, h => by cases b <;> simp only [SV.beq, reduceCtorEq] at h; rw [svBeqL_eq h]
theorem svBeqL_eq : ∀ {a b : List SV}, SV.beqL a b = true → a = b
  | [], [], _ => rfl
  | a :: l, b :: m, h => by simp only [SV.beqL] at h; obtain ⟨h1, h2⟩ := and_t h; rw [svBeq_eq h1, svBeqL_eq h2]
  | [], _ :: _, h => by simp [SV.beqL] at h
  | _ :: _, [], h => by simp [SV.beqL] at h
end
theorem beqRows_eq : ∀ {a b : List (List SV)}, beqRows a b = true → a = b
  | [], [], _ => rfl
  | a :: l, b :: m, h => by obtain ⟨h1, h2⟩ := and_t h; rw [svBeqL_eq h1, beqRows_eq h2]
  | [], _ :: _, h => by simp [beqRows] at h
  | _ :: _, [], h => by simp [beqRows] at h
theorem tgEq_eq {a b : Option Ty} (h : tgEq a b = true) : a = b := by
  cases a <;> cases b <;> simp only [tgEq, reduceCtorEq] at h <;> first | rfl | (rw [tyBeq_eq h]; done)
theorem sbBeq_eq {a b : SB} (h : SB.beq a b = true) : a = b := by
  cases a <;> cases b <;> simp only [SB.beq, reduceCtorEq] at h <;> first
    | rfl
    | (obtain ⟨h1, h2⟩ := and_t h; obtain ⟨h2, h3⟩ := and_t h2; rw [Nat.eq_of_beq_eq_true h1, tyBeq_eq h2, exBeq_eq h3]; done)
    | (obtain ⟨h1, h2⟩ := and_t h; obtain ⟨h2, h3⟩ := and_t h2; rw [Nat.eq_of_beq_eq_true h1, tgEq_eq h2, beqRows_eq h3]; done)
    | (obtain ⟨h1, h2⟩ := and_t h; obtain ⟨h2, h3⟩ := and_t h2; rw [tyBeq_eq h1, tyBeq_eq h2, exBeq_eq h3]; done)
theorem beqH_eq : ∀ {a b : SH}, beqH a b = true → a = b
  | [], [], _ => rfl
  | a :: l, b :: m, h => by obtain ⟨h1, h2⟩ := and_t h; rw [sbBeq_eq h1, beqH_eq h2]
  | [], _ :: _, h => by simp [beqH] at h
  | _ :: _, [], h => by simp [beqH] at h
theorem beqF_eq : ∀ {a b : SF}, beqF a b = true → a = b
  | [], [], _ => rfl
  | (n, a) :: l, (m, b) :: r, h => by
    obtain ⟨h1, h2⟩ := and_t h
    obtain ⟨h2, h3⟩ := and_t h2
    have e1 := Nat.eq_of_beq_eq_true h1
    have e2 := svBeq_eq h2
    simp only at e1 e2
    rw [e1, e2, beqF_eq h3]
  | [], _ :: _, h => by simp [beqF] at h
  | _ :: _, [], h => by simp [beqF] at h

/-! ### Variables -/
def Agree (n : Nat) (e1 e2 : Env) : Prop := ∀ m, m < n → ∀ t, e1 m t = e2 m t
theorem Agree.refl {n : Nat} {e : Env} : Agree n e e := fun _ _ _ => rfl
theorem Agree.trans {n m : Nat} {e1 e2 e3 : Env} (h : Agree n e1 e2) (k : Agree m e2 e3) (hn : n ≤ m) : Agree n e1 e3 := fun i hi t => (h i hi t).trans (k i (Nat.lt_of_lt_of_le hi hn) t)
theorem Agree.symm {n : Nat} {e1 e2 : Env} (h : Agree n e1 e2) : Agree n e2 e1 := fun i hi t => (h i hi t).symm
theorem Agree.le {n m : Nat} {e1 e2 : Env} (h : Agree m e1 e2) (hn : n ≤ m) : Agree n e1 e2 := fun i hi t => h i (Nat.lt_of_lt_of_le hi hn) t
theorem set_same (env : Env) (n : Nat) (t : Ty) (x : t.D) : env.set n t x n t = x := by
  simp only [Env.set, Nat.beq_refl, dite_true]
theorem set_ne (env : Env) (n m : Nat) (t u : Ty) (x : t.D) (h : m ≠ n) : env.set n t x m u = env m u := by
  have : Nat.beq m n = false := by
    cases hb : Nat.beq m n with
    | false => rfl
    | true => exact absurd (Nat.eq_of_beq_eq_true hb) h
  simp only [Env.set, this]
theorem agree_set (env : Env) (n : Nat) (t : Ty) (x : t.D) : Agree n env (env.set n t x) := fun m hm u => (set_ne env n m t u x (Nat.ne_of_lt hm)).symm
theorem agree_setP : ∀ (ts : List Ty) (env : Env) (n : Nat) (x : Pr ts), Agree n env (Env.setP ts env n x)
  | [], env, n, x => Agree.refl
  | [a], env, n, x => agree_set env n a x
  | a :: b :: l, env, n, x => by
    show Agree n env (Env.setP (b :: l) (env.set n a x.1) (n + 1) x.2)
    exact (agree_set env n a x.1).trans (agree_setP (b :: l) _ (n + 1) x.2) (Nat.le_succ n)
theorem den_agree {n : Nat} {e1 e2 : Env} (h : Agree n e1 e2) : ∀ {e : Ex}, e.bnd n = true → ∀ t, e.den e1 t = e.den e2 t
  | .v m, hb, t => h m (by
      simp only [Ex.bnd] at hb
      simpa [Nat.blt_eq] using hb) t
  | .il _, _, _ => rfl
  | .nn _, _, _ => rfl
  | .bl _, _, _ => rfl
  | .st _, _, _ => rfl
  | .nl, _, _ => rfl
  | .un, _, _ => rfl
  | .o1 o a, hb, t => by
    simp only [Ex.bnd] at hb
    have := funext (den_agree h hb)
    simp only [Ex.den, this]
  | .o2 o a b, hb, t => by
    simp only [Ex.bnd] at hb
    obtain ⟨h1, h2⟩ := and_t hb
    have e1 := funext (den_agree h h1)
    have e2 := funext (den_agree h h2)
    simp only [Ex.den, e1, e2]
  | .o3 o a b c, hb, t => by
    simp only [Ex.bnd] at hb
    obtain ⟨h1, h2⟩ := and_t hb
    obtain ⟨h2, h3⟩ := and_t h2
    have e1 := funext (den_agree h h1)
    have e2 := funext (den_agree h h2)
    have e3 := funext (den_agree h h3)
    simp only [Ex.den, e1, e2, e3]

/-! ### Made simple -/
theorem den_stripSet (env : Env) : ∀ (e : Ex) (u : Ty), ((stripSet e).den env (.lst u)).length = (e.den env (.lst u)).length
  | .v _, _ => rfl
  | .il _, _ => rfl
  | .nn _, _ => rfl
  | .bl _, _ => rfl
  | .st _, _ => rfl
  | .nl, _ => rfl
  | .un, _ => rfl
  | .o1 .., _ => rfl
  | .o2 .., _ => rfl
  | .o3 o x y z, u => by
    cases o with
    | set =>
      show ((stripSet x).den env (.lst u)).length = ((x.den env (.lst u)).set (y.den env .nat) (z.den env u)).length
      rw [List.length_set]
      exact den_stripSet env x u
    | ssub => rfl
theorem den_litLen (env : Env) : ∀ {e : Ex} {n : Nat}, litLen e = some n → ∀ u, (e.den env (.lst u)).length = n
  | .v _, _, h, _ => by simp [litLen] at h
  | .il _, _, h, _ => by simp [litLen] at h
  | .nn _, _, h, _ => by simp [litLen] at h
  | .bl _, _, h, _ => by simp [litLen] at h
  | .st _, _, h, _ => by simp [litLen] at h
  | .nl, _, h, u => by simp only [litLen, Option.some.injEq] at h; subst h; rfl
  | .un, _, h, _ => by simp [litLen] at h
  | .o1 .., _, h, _ => by simp [litLen] at h
  | .o2 o a b, n, h, u => by
    cases o <;> simp only [litLen, reduceCtorEq] at h
    cases hb : litLen b with
    | none => simp [hb] at h
    | some k =>
      simp only [hb, Option.some.injEq] at h
      subst h
      show (a.den env u :: b.den env (.lst u)).length = k + 1
      rw [List.length_cons, den_litLen env hb u]
  | .o3 .., _, h, _ => by simp [litLen] at h
theorem den_lenE0 (env : Env) (u : Ty) (a : Ex) (t : Ty) : (lenE0 u a).den env t = (Ex.o1 (.len u) a).den env t := by
  unfold lenE0
  cases h : litLen a with
  | none => rfl
  | some n =>
    simp only
    cases t <;> first | rfl | (show n = (a.den env (.lst u)).length; rw [den_litLen env h u])
theorem den_len (env : Env) (u : Ty) (a : Ex) (t : Ty) : (mk1 (.len u) a).den env t = (Ex.o1 (.len u) a).den env t := by
  show (lenE0 u (stripSet a)).den env t = _
  rw [den_lenE0]
  cases t <;> first | rfl | exact den_stripSet env a u
theorem den_fst (env : Env) (u : Ty) (a : Ex) (t : Ty) : (mk1 (.fst u) a).den env t = (a.den env (.pair t u)).1 := by
  cases a <;> try rfl
  rename_i o x y
  cases o <;> rfl
theorem den_snd (env : Env) (u : Ty) (a : Ex) (t : Ty) : (mk1 (.snd u) a).den env t = (a.den env (.pair u t)).2 := by
  cases a <;> try rfl
  rename_i o x y
  cases o <;> rfl
theorem den_mkS (env : Env) (o : O1) (a : Ex) (t : Ty) : (mkS o a).den env t = o.den (a.den env) t := by
  cases o <;> first | rfl | exact den_fst env _ a t | exact den_snd env _ a t | exact den_len env _ a t
theorem den_lenN (env : Env) (u : Ty) (a : Ex) : (mk1 (.len u) a).den env .nat = (a.den env (.lst u)).length := den_len env u a .nat
theorem boolish_ne (env : Env) {x : Ex} (h : boolish x = true) (t : Ty) (ht : t ≠ .bool) : x.den env t = dflt t := by
  cases x <;> simp only [boolish, reduceCtorEq] at h
  · rename_i o a
    cases o <;> simp only [reduceCtorEq] at h
    cases t <;> first | rfl | (exact absurd rfl ht)
  · rename_i o a b
    cases o <;> simp only [reduceCtorEq] at h <;> (cases t <;> first | rfl | (exact absurd rfl ht))
theorem den_not (env : Env) (a : Ex) (t : Ty) : (mk1 .not a).den env t = (Ex.o1 .not a).den env t := by
  cases a with
  | bl b => cases t <;> rfl
  | o1 o x =>
    cases o with
    | not =>
      show (match boolish x with | true => x | false => Ex.o1 .not (.o1 .not x)).den env t = _
      cases hb : boolish x with
      | false => rfl
      | true =>
        by_cases ht : t = .bool
        · subst ht
          show x.den env .bool = !(!(x.den env .bool))
          rw [Bool.not_not]
        · rw [boolish_ne env hb t ht]
          cases t <;> first | rfl | (exact absurd rfl ht)
    | _ => rfl
  | _ => rfl
theorem den_notB (env : Env) (a : Ex) : (notE a).den env .bool = !(a.den env .bool) := den_not env a .bool
theorem den_ofN (env : Env) (a : Ex) (k : IntKind) : (mk1 .ofN a).den env (.int k) = ((a.den env .nat : Nat) : Int) := by cases a <;> rfl
theorem den_toN (env : Env) (a : Ex) (k : IntKind) : (mk1 (.toN k) a).den env .nat = Int.toNat (a.den env (.int k)) := by cases a <;> rfl
theorem den_slen (env : Env) (a : Ex) : (mk1 .slen a).den env .nat = (a.den env .str).length := by cases a <;> rfl
theorem intCmp_cmI {o : BinOp} {x y : Int} {b : Bool} (h : intCmp o x y = some b) : b = cmI o x y := by
  cases o <;> simp only [intCmp, Option.some.injEq, reduceCtorEq] at h <;> subst h <;> simp only [cmI, Ev.eqI_eq, Ev.ltI_eq, Ev.leI_eq]
theorem den_cmp (env : Env) (o : BinOp) (k : IntKind) (a b : Ex) : (mk2 (.cmp o k) a b).den env .bool = cmI o (a.den env (.int k)) (b.den env (.int k)) := by
  unfold mk2
  simp only
  split
  · rename_i x y
    unfold cmLit
    cases h : intCmp o x y with
    | none => rfl
    | some r => exact intCmp_cmI h
  · rfl
theorem den_arith (env : Env) (o : BinOp) (k : IntKind) (a b : Ex) : (mk2 (.arith o k) a b).den env (.int k) = arI o k (a.den env (.int k)) (b.den env (.int k)) := by
  unfold mk2
  simp only
  split
  · cases o <;> rfl
  · rfl
theorem den_and (env : Env) (a b : Ex) : (mk2 .and a b).den env .bool = (a.den env .bool && b.den env .bool) := by
  unfold mk2
  simp only
  split
  · exact (Bool.true_and _).symm
  · exact (Bool.false_and _).symm
  · exact (Bool.and_true _).symm
  · rfl
theorem den_nadd (env : Env) (a b : Ex) : (mk2 .nadd a b).den env .nat = (a.den env .nat : Nat) + (b.den env .nat : Nat) := by
  unfold mk2
  simp only
  split
  · rfl
  · exact (Nat.zero_add _).symm
  · rfl
  · rfl
theorem den_nsub (env : Env) (a b : Ex) : (mk2 .nsub a b).den env .nat = (a.den env .nat : Nat) - (b.den env .nat : Nat) := by
  unfold mk2
  simp only
  split
  · rfl
  · rfl
  · rfl
theorem den_nmul (env : Env) (a b : Ex) : (mk2 .nmul a b).den env .nat = (a.den env .nat : Nat) * (b.den env .nat : Nat) := by
  unfold mk2
  simp only
  split <;> rfl
theorem den_nle (env : Env) (a b : Ex) : (nleE a b).den env .bool = decide ((a.den env .nat : Nat) ≤ (b.den env .nat : Nat)) := by
  unfold nleE mk2
  simp only
  split
  · rename_i x y
    show Nat.ble x y = decide (x ≤ y)
    rw [Bool.eq_iff_iff, Nat.ble_eq, decide_eq_true_eq]
  · rfl
theorem den_app (env : Env) (a b : Ex) (u : Ty) : (mk2 .app a b).den env (.lst u) = a.den env (.lst u) ++ b.den env (.lst u) := by
  unfold mk2
  simp only
  split
  · rfl
  · exact (List.append_nil _).symm
  · rfl
theorem den_dr (env : Env) (a b : Ex) (u : Ty) : (mk2 .dr a b).den env (.lst u) = (b.den env (.lst u)).drop (a.den env .nat) := by
  unfold mk2
  simp only
  split
  · rfl
  · rfl
theorem den_tk (env : Env) (a b : Ex) (u : Ty) : (mk2 .tk a b).den env (.lst u) = (b.den env (.lst u)).take (a.den env .nat) := rfl
theorem den_cat (env : Env) (a b : Ex) : (mk2 .cat a b).den env .str = a.den env .str ++ b.den env .str := by
  unfold mk2
  simp only
  split
  · rfl
  · rfl
  · exact (List.append_nil _).symm
  · rfl
theorem den_beq (env : Env) (a b : Ex) : (mk2 .beq a b).den env .bool = ((a.den env .bool : Bool) == (b.den env .bool : Bool)) := by
  unfold mk2
  simp only
  split
  · show b.den env .bool = (true == (b.den env .bool : Bool))
    cases (b.den env .bool : Bool) <;> rfl
  · rw [den_not]
    show (!(b.den env .bool)) = (false == (b.den env .bool : Bool))
    cases (b.den env .bool : Bool) <;> rfl
  · show a.den env .bool = ((a.den env .bool : Bool) == true)
    cases (a.den env .bool : Bool) <;> rfl
  · rw [den_not]
    show (!(a.den env .bool)) = ((a.den env .bool : Bool) == false)
    cases (a.den env .bool : Bool) <;> rfl
  · rfl
theorem den_scmp (env : Env) (o : BinOp) (a b : Ex) : (mk2 (.scmp o) a b).den env .bool = cmS o (a.den env .str) (b.den env .str) := by
  unfold mk2
  simp only
  split <;> rfl
theorem den_mkPair (env : Env) (a b : Ty) (x y : Ex) : (mkPair a b x y).den env (.pair a b) = (x.den env a, y.den env b) := by
  unfold mkPair
  split
  · rename_i u p w q
    split
    · rename_i h
      obtain ⟨h1, h2⟩ := and_t h
      obtain ⟨h2, h3⟩ := and_t h2
      have e1 := tyBeq_eq h1
      have e2 := tyBeq_eq h2
      have e3 := exBeq_eq h3
      subst e1 e2 e3
      rfl
    · rfl
  · rfl
theorem den_subst (env : Env) (σ : Nat → Ex) : ∀ (e : Ex) (t : Ty), (e.subst σ).den env t = e.den (fun i u => (σ i).den env u) t
  | .v n, t => rfl
  | .il _, _ => rfl
  | .nn _, _ => rfl
  | .bl _, _ => rfl
  | .st _, _ => rfl
  | .nl, _ => rfl
  | .un, _ => rfl
  | .o1 o a, t => by
    have e1 := funext (den_subst env σ a)
    show (mkS o (a.subst σ)).den env t = _
    rw [den_mkS, e1]
    rfl
  | .o2 o a b, t => by
    have e1 := funext (den_subst env σ a)
    have e2 := funext (den_subst env σ b)
    show o.den ((a.subst σ).den env) ((b.subst σ).den env) t = _
    rw [e1, e2]
    rfl
  | .o3 o a b c, t => by
    have e1 := funext (den_subst env σ a)
    have e2 := funext (den_subst env σ b)
    have e3 := funext (den_subst env σ c)
    show o.den ((a.subst σ).den env) ((b.subst σ).den env) ((c.subst σ).den env) t = _
    rw [e1, e2, e3]
    rfl
end Go.Sy
