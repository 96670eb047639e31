/- Symbolic runs: what holds at every end of a tree's ways. -/
import Derived.Test.YtkecfadnfnnfaaaSyF
set_option linter.unusedVariables false
set_option linter.unusedSimpArgs false
namespace Go.Sy
open Go Go.Ev

section
variable {P : Nat → List Ty} {O : Nat → List (List Ty)} (m : (f : Nat) → Pr (P f) → Option (Sm (O f)))
section
variable {α : Type}
mutual
/-- Every end of a tree's ways is a state of which something holds. -/
def Ok : T α → Env → (Env → α → Prop) → Prop
  | .ret a, env, Q => Q env a
  | .fail, _, _ => True
  | .out _ _, _, _ => False
  | .tail _ _, _, _ => False
  | .ite c x y, env, Q => (c.den env .bool = true → Ok x env Q) ∧ (c.den env .bool = false → Ok y env Q)
  | .get n t k l i x, env, Q => ∀ a, at' (l.den env (.lst t)) (i.den env (.int k)) = some a → Ok x (env.set n t a) Q
  | .call f args n ks, env, Q => ∀ z, m f (mkPr env (P f) args) = some z → OkA ks (O f) z n env Q
  | .join os x n ks, env, Q => ∀ z, x.den P O m os env = some z → OkA ks os z n env Q
  | .alt _ _, _, _ => True
def OkA : T α → (os : List (List Ty)) → Sm os → Nat → Env → (Env → α → Prop) → Prop
  | .alt k r, os, z, n, env, Q => match os, z with
    | [], _ => True
    | [a], z => Ok k (Env.setP a env n z) Q
    | a :: b :: l, .inl x => Ok k (Env.setP a env n x) Q
    | a :: b :: l, .inr y => OkA r (b :: l) y n env Q
  | .fail, _, _, _, _, _ => True
  | _, _, _, _, _, _ => False
end
end
variable {α β : Type}
mutual
theorem den_bindFail : ∀ (x : T α) (os : List (List Ty)) (env : Env), (x.bind fun _ => (T.fail : T β)).den P O m os env = x.den P O m os env
  | .ret a, os, env => by simp only [T.bind, T.den]
  | .fail, os, env => by simp only [T.bind, T.den]
  | .out _ _, os, env => by simp only [T.bind, T.den]
  | .tail _ _, os, env => by simp only [T.bind, T.den]
  | .ite c x y, os, env => by simp only [T.bind, T.den, den_bindFail x, den_bindFail y]
  | .get n t k l i x, os, env => by simp only [T.bind, T.den, den_bindFail x]
  | .call f args n ks, os, env => by simp only [T.bind, T.den, alts_bindFail ks]
  | .join os' x n ks, os, env => by simp only [T.bind, T.den, den_bindFail x, alts_bindFail ks]
  | .alt _ _, os, env => by simp only [T.bind, T.den]
theorem alts_bindFail : ∀ (x : T α) (os' : List (List Ty)) (z : Sm os') (n : Nat) (os : List (List Ty)) (env : Env), (x.bind fun _ => (T.fail : T β)).alts P O m os' z n os env = x.alts P O m os' z n os env
  | .alt k r, os', z, n, os, env => by
    match os', z with
    | [], z => exact z.elim
    | [a], z => simp only [T.bind, T.alts, den_bindFail k]
    | a :: b :: l, .inl x => simp only [T.bind, T.alts, den_bindFail k]
    | a :: b :: l, .inr y => simp only [T.bind, T.alts, alts_bindFail r]
  | .ret a, os', z, n, os, env => by simp only [T.bind, T.alts]
  | .fail, os', z, n, os, env => by simp only [T.bind, T.alts]
  | .out _ _, os', z, n, os, env => by simp only [T.bind, T.alts]
  | .tail _ _, os', z, n, os, env => by simp only [T.bind, T.alts]
  | .ite c x y, os', z, n, os, env => by simp only [T.bind, T.alts]
  | .get .., os', z, n, os, env => by simp only [T.bind, T.alts]
  | .call .., os', z, n, os, env => by simp only [T.bind, T.alts]
  | .join .., os', z, n, os, env => by simp only [T.bind, T.alts]
end
mutual
theorem Ok.bind {f : α → T β} {Q : Env → α → Prop} {Q' : Env → β → Prop} (hf : ∀ env a, Q env a → Ok m (f a) env Q') : ∀ (x : T α) (env : Env), Ok m x env Q → Ok m (x.bind f) env Q'
  | .ret a, env, h => by simp only [Ok] at h; simp only [T.bind]; exact hf _ _ h
  | .fail, env, h => by simp only [T.bind, Ok]
  | .out _ _, env, h => by simp only [Ok] at h
  | .tail _ _, env, h => by simp only [Ok] at h
  | .ite c x y, env, h => by
    simp only [Ok] at h
    simp only [T.bind, Ok]
    exact ⟨fun hc => Ok.bind hf x env (h.1 hc), fun hc => Ok.bind hf y env (h.2 hc)⟩
  | .get n t k l i x, env, h => by
    simp only [Ok] at h
    simp only [T.bind, Ok]
    exact fun a ha => Ok.bind hf x _ (h a ha)
  | .call g args n ks, env, h => by
    simp only [Ok] at h
    simp only [T.bind, Ok]
    exact fun z hz => OkA.bind hf ks _ z n env (h z hz)
  | .join os x n ks, env, h => by
    simp only [Ok] at h
    simp only [T.bind, Ok, den_bindFail]
    exact fun z hz => OkA.bind hf ks _ z n env (h z hz)
  | .alt _ _, env, h => by simp only [T.bind, Ok]
theorem OkA.bind {f : α → T β} {Q : Env → α → Prop} {Q' : Env → β → Prop} (hf : ∀ env a, Q env a → Ok m (f a) env Q') : ∀ (x : T α) (os : List (List Ty)) (z : Sm os) (n : Nat) (env : Env), OkA m x os z n env Q → OkA m (x.bind f) os z n env Q'
  | .alt k r, os, z, n, env, h => by
    match os, z with
    | [], z => exact z.elim
    | [a], z => simp only [OkA] at h; simp only [T.bind, OkA]; exact Ok.bind hf k _ h
    | a :: b :: l, .inl x => simp only [OkA] at h; simp only [T.bind, OkA]; exact Ok.bind hf k _ h
    | a :: b :: l, .inr y => simp only [OkA] at h; simp only [T.bind, OkA]; exact OkA.bind hf r _ y n env h
  | .ret a, os, z, n, env, h => by simp only [OkA] at h
  | .fail, os, z, n, env, h => by simp only [T.bind, OkA]
  | .out _ _, os, z, n, env, h => by simp only [OkA] at h
  | .tail _ _, os, z, n, env, h => by simp only [OkA] at h
  | .ite c x y, os, z, n, env, h => by simp only [OkA] at h
  | .get .., os, z, n, env, h => by simp only [OkA] at h
  | .call .., os, z, n, env, h => by simp only [OkA] at h
  | .join .., os, z, n, env, h => by simp only [OkA] at h
end
mutual
theorem Ok.imp {Q Q' : Env → α → Prop} (hq : ∀ e a, Q e a → Q' e a) : ∀ (x : T α) (env : Env), Ok m x env Q → Ok m x env Q'
  | .ret a, env, h => by simp only [Ok] at *; exact hq _ _ h
  | .fail, env, h => by simp only [Ok]
  | .out _ _, env, h => by simp only [Ok] at h
  | .tail _ _, env, h => by simp only [Ok] at h
  | .ite c x y, env, h => by
    simp only [Ok] at *
    exact ⟨fun hc => Ok.imp hq x env (h.1 hc), fun hc => Ok.imp hq y env (h.2 hc)⟩
  | .get n t k l i x, env, h => by
    simp only [Ok] at *
    exact fun a ha => Ok.imp hq x _ (h a ha)
  | .call g args n ks, env, h => by
    simp only [Ok] at *
    exact fun z hz => OkA.imp hq ks _ z n env (h z hz)
  | .join os x n ks, env, h => by
    simp only [Ok] at *
    exact fun z hz => OkA.imp hq ks _ z n env (h z hz)
  | .alt _ _, env, h => by simp only [Ok]
theorem OkA.imp {Q Q' : Env → α → Prop} (hq : ∀ e a, Q e a → Q' e a) : ∀ (x : T α) (os : List (List Ty)) (z : Sm os) (n : Nat) (env : Env), OkA m x os z n env Q → OkA m x os z n env Q'
  | .alt k r, os, z, n, env, h => by
    match os, z with
    | [], z => exact z.elim
    | [a], z => simp only [OkA] at *; exact Ok.imp hq k _ h
    | a :: b :: l, .inl x => simp only [OkA] at *; exact Ok.imp hq k _ h
    | a :: b :: l, .inr y => simp only [OkA] at *; exact OkA.imp hq r _ y n env h
  | .ret a, os, z, n, env, h => by simp only [OkA] at h
  | .fail, os, z, n, env, h => by simp only [OkA]
  | .out _ _, os, z, n, env, h => by simp only [OkA] at h
  | .tail _ _, os, z, n, env, h => by simp only [OkA] at h
  | .ite c x y, os, z, n, env, h => by simp only [OkA] at h
  | .get .., os, z, n, env, h => by simp only [OkA] at h
  | .call .., os, z, n, env, h => by simp only [OkA] at h
  | .join .., os, z, n, env, h => by simp only [OkA] at h
end
mutual
/-- A way to a result goes over an end. -/
theorem den_bind {f : α → T β} {Q : Env → α → Prop} {os : List (List Ty)} {r : Sm os} : ∀ (x : T α) (env : Env), (x.bind f).den P O m os env = some r → Ok m x env Q → ∃ env' a, Q env' a ∧ (f a).den P O m os env' = some r
  | .ret a, env, h, k => by
    simp only [T.bind] at h
    simp only [Ok] at k
    exact ⟨env, a, k, h⟩
  | .fail, env, h, k => by simp only [T.bind, T.den, reduceCtorEq] at h
  | .out _ _, env, h, k => by simp only [Ok] at k
  | .tail _ _, env, h, k => by simp only [Ok] at k
  | .ite c x y, env, h, k => by
    simp only [T.bind, T.den] at h
    simp only [Ok] at k
    cases hc : c.den env .bool with
    | true => rw [hc] at h; exact den_bind x env h (k.1 hc)
    | false => rw [hc] at h; exact den_bind y env h (k.2 hc)
  | .get n t k' l i x, env, h, k => by
    simp only [T.bind, T.den] at h
    simp only [Ok] at k
    cases ha : at' (l.den env (.lst t)) (i.den env (.int k')) with
    | none => rw [ha] at h; simp at h
    | some a => rw [ha] at h; exact den_bind x _ h (k a ha)
  | .call g args n ks, env, h, k => by
    simp only [T.bind, T.den] at h
    simp only [Ok] at k
    cases ha : m g (mkPr env (P g) args) with
    | none => rw [ha] at h; simp at h
    | some z => rw [ha] at h; exact alts_bind ks _ z n env h (k z ha)
  | .join os' x n ks, env, h, k => by
    simp only [T.bind, T.den, den_bindFail] at h
    simp only [Ok] at k
    cases ha : x.den P O m os' env with
    | none => rw [ha] at h; simp at h
    | some z => rw [ha] at h; exact alts_bind ks _ z n env h (k z ha)
  | .alt _ _, env, h, k => by simp only [T.bind, T.den, reduceCtorEq] at h
theorem alts_bind {f : α → T β} {Q : Env → α → Prop} {os : List (List Ty)} {r : Sm os} : ∀ (x : T α) (os' : List (List Ty)) (z : Sm os') (n : Nat) (env : Env), (x.bind f).alts P O m os' z n os env = some r → OkA m x os' z n env Q → ∃ env' a, Q env' a ∧ (f a).den P O m os env' = some r
  | .alt k' r', os', z, n, env, h, k => by
    match os', z with
    | [], z => exact z.elim
    | [a], z => simp only [OkA] at k; simp only [T.bind, T.alts] at h; exact den_bind k' _ h k
    | a :: b :: l, .inl x => simp only [OkA] at k; simp only [T.bind, T.alts] at h; exact den_bind k' _ h k
    | a :: b :: l, .inr y => simp only [OkA] at k; simp only [T.bind, T.alts] at h; exact alts_bind r' _ y n env h k
  | .ret a, os', z, n, env, h, k => by simp only [OkA] at k
  | .fail, os', z, n, env, h, k => by simp only [T.bind, T.alts, reduceCtorEq] at h
  | .out _ _, os', z, n, env, h, k => by simp only [OkA] at k
  | .tail _ _, os', z, n, env, h, k => by simp only [OkA] at k
  | .ite c x y, os', z, n, env, h, k => by simp only [OkA] at k
  | .get .., os', z, n, env, h, k => by simp only [OkA] at k
  | .call .., os', z, n, env, h, k => by simp only [OkA] at k
  | .join .., os', z, n, env, h, k => by simp only [OkA] at k
end

/-! ### What is known -/
/-- The values of variables from n on. -/
def getP (env : Env) : (ts : List Ty) → Nat → Pr ts
  | [], _ => ()
  | [a], n => env n a
  | a :: b :: l, n => (env n a, getP env (b :: l) (n + 1))
/-- A result is alternative j, its values those of the variables from n on. -/
def IsAlt (env : Env) : (os : List (List Ty)) → Sm os → Nat → Nat → Prop
  | [], _, _, _ => False
  | [a], z, j, n => match j with | 0 => z = getP env a n | _ + 1 => False
  | a :: b :: l, .inl p, j, n => match j with | 0 => p = getP env a n | _ + 1 => False
  | a :: b :: l, .inr y, j, n => match j with | 0 => False | j + 1 => IsAlt env (b :: l) y j n
def Fact.holds (env : Env) : Fact → Prop
  | .cond e b => e.den env .bool = b
  | .idx t k l i x => at' (l.den env (.lst t)) (i.den env (.int k)) = some (x.den env t)
  | .call f args j n len => ∃ z, m f (mkPr env (P f) args) = some z ∧ IsAlt env (O f) z j n ∧ ∃ ts, (O f)[j]? = some ts ∧ ts.length = len
def Inv (env : Env) (s : SS) : Prop := ∀ f ∈ s.fs, Fact.holds m env f
theorem getP_setP : ∀ (ts : List Ty) (env : Env) (n : Nat) (x : Pr ts), x = getP (Env.setP ts env n x) ts n
  | [], env, n, x => rfl
  | [a], env, n, x => (set_same env n a x).symm
  | a :: b :: l, env, n, (x, y) => by
    show (x, y) = (Env.setP (b :: l) (env.set n a x) (n + 1) y n a, getP (Env.setP (b :: l) (env.set n a x) (n + 1) y) (b :: l) (n + 1))
    rw [← getP_setP (b :: l) (env.set n a x) (n + 1) y]
    rw [← agree_setP (b :: l) (env.set n a x) (n + 1) y n (Nat.lt_succ_self n) a, set_same]
theorem mkPr_agree {n : Nat} {e1 e2 : Env} (h : Agree n e1 e2) : ∀ (ts : List Ty) (es : List Ex), es.all (Ex.bnd n) = true → mkPr e1 ts es = mkPr e2 ts es
  | [], es, _ => rfl
  | [a], es, hb => by
    cases es with
    | nil => rfl
    | cons e l =>
      simp only [List.all_cons] at hb
      exact den_agree h (and_t hb).1 a
  | a :: b :: l, es, hb => by
    cases es with
    | nil =>
      show (dflt a, mkPr e1 (b :: l) []) = (dflt a, mkPr e2 (b :: l) [])
      rw [mkPr_agree h (b :: l) [] rfl]
    | cons e es =>
      simp only [List.all_cons] at hb
      show (e.den e1 a, mkPr e1 (b :: l) es) = (e.den e2 a, mkPr e2 (b :: l) es)
      rw [den_agree h (and_t hb).1 a, mkPr_agree h (b :: l) es (and_t hb).2]
theorem getP_agree {n : Nat} {e1 e2 : Env} (h : Agree n e1 e2) : ∀ (ts : List Ty) (k : Nat), k + ts.length ≤ n → getP e1 ts k = getP e2 ts k
  | [], k, _ => rfl
  | [a], k, hk => h k (by simp at hk; omega) a
  | a :: b :: l, k, hk => by
    show (e1 k a, getP e1 (b :: l) (k + 1)) = (e2 k a, getP e2 (b :: l) (k + 1))
    rw [h k (by simp at hk; omega) a, getP_agree h (b :: l) (k + 1) (by simp at hk ⊢; omega)]
theorem isAlt_agree {n : Nat} {e1 e2 : Env} (h : Agree n e1 e2) : ∀ (os : List (List Ty)) (z : Sm os) (j k : Nat) (ts : List Ty), os[j]? = some ts → k + ts.length ≤ n → IsAlt e1 os z j k → IsAlt e2 os z j k
  | [], z, _, _, _, _, _, _ => z.elim
  | [a], z, j, k, ts, hj, hk, hz => by
    cases j with
    | zero =>
      simp only [List.getElem?_cons_zero, Option.some.injEq] at hj
      subst hj
      simp only [IsAlt] at *
      rw [hz, getP_agree h _ _ hk]
    | succ j => simp only [IsAlt] at hz
  | a :: b :: l, .inl p, j, k, ts, hj, hk, hz => by
    cases j with
    | zero =>
      simp only [List.getElem?_cons_zero, Option.some.injEq] at hj
      subst hj
      simp only [IsAlt] at *
      rw [hz, getP_agree h _ _ hk]
    | succ j => simp only [IsAlt] at hz
  | a :: b :: l, .inr y, j, k, ts, hj, hk, hz => by
    cases j with
    | zero => simp only [IsAlt] at hz
    | succ j =>
      simp only [List.getElem?_cons_succ] at hj
      simp only [IsAlt] at *
      exact isAlt_agree h (b :: l) y j k ts hj hk hz
theorem holds_agree {n : Nat} {e1 e2 : Env} (h : Agree n e1 e2) {f : Fact} (hb : f.bnd n = true) (hf : f.holds m e1) : f.holds m e2 := by
  cases f with
  | cond e b =>
    simp only [Fact.bnd] at hb
    simp only [Fact.holds] at *
    rw [← den_agree h hb]
    exact hf
  | idx t k l i x =>
    simp only [Fact.bnd] at hb
    obtain ⟨h1, h2⟩ := and_t hb
    obtain ⟨h2, h3⟩ := and_t h2
    simp only [Fact.holds] at *
    rw [← den_agree h h1, ← den_agree h h2, ← den_agree h h3]
    exact hf
  | call f args j k len =>
    simp only [Fact.bnd] at hb
    obtain ⟨h1, h2⟩ := and_t hb
    simp only [Fact.holds] at *
    obtain ⟨z, hz, ha, ts, ht, hl⟩ := hf
    refine ⟨z, ?_, isAlt_agree h _ z j k ts ht ?_ ha, ts, ht, hl⟩
    · rw [← mkPr_agree h _ _ h2]; exact hz
    · have := Nat.le_of_ble_eq_true h1
      omega

/-! ### Steps on the way -/
/-- A later state on the way: more is known, the frame as it was. -/
structure Ext (env : Env) (s : SS) (env' : Env) (s' : SS) : Prop where
  inv : Inv m env' s'
  nx : s.nx ≤ s'.nx
  agr : Agree s.nx env env'
  fr : s'.fr = s.fr
  emF : embF env' s.fr = embF env s.fr
/-- .. and the blocks as they were. -/
structure ExtH (env : Env) (s : SS) (env' : Env) (s' : SS) : Prop extends Ext m env s env' s' where
  H : s'.H = s.H
  emH : embH env' s.H = embH env s.H
variable {m}
theorem ExtH.refl {env : Env} {s : SS} (h : Inv m env s) : ExtH m env s env s := ⟨⟨h, Nat.le_refl _, Agree.refl, rfl, rfl⟩, rfl, rfl⟩
theorem Ext.trans {e1 e2 e3 : Env} {s1 s2 s3 : SS} (h : Ext m e1 s1 e2 s2) (k : Ext m e2 s2 e3 s3) : Ext m e1 s1 e3 s3 :=
  ⟨k.inv, Nat.le_trans h.nx k.nx, h.agr.trans k.agr h.nx, k.fr.trans h.fr, by rw [← h.emF, ← h.fr]; exact k.emF⟩
theorem ExtH.trans {e1 e2 e3 : Env} {s1 s2 s3 : SS} (h : ExtH m e1 s1 e2 s2) (k : ExtH m e2 s2 e3 s3) : ExtH m e1 s1 e3 s3 :=
  ⟨h.toExt.trans k.toExt, k.H.trans h.H, by rw [← h.emH, ← h.H]; exact k.emH⟩
theorem lookB_ok {env : Env} {e : Ex} : ∀ {l : List Fact} {b : Bool}, (∀ f ∈ l, Fact.holds m env f) → lookB e l = some b → e.den env .bool = b
  | [], _, _, h => by simp [lookB] at h
  | .cond x c :: r, b, hf, h => by
    simp only [lookB] at h
    split at h
    · rename_i hx
      have := exBeq_eq hx
      subst this
      simp only [Option.some.injEq] at h
      subst h
      exact hf (.cond x c) (by simp)
    · exact lookB_ok (fun f hm => hf f (by simp [hm])) h
  | .idx .. :: r, b, hf, h => by simp only [lookB] at h; exact lookB_ok (fun f hm => hf f (by simp [hm])) h
  | .call .. :: r, b, hf, h => by simp only [lookB] at h; exact lookB_ok (fun f hm => hf f (by simp [hm])) h
theorem Inv.add {env : Env} {s : SS} {f : Fact} (h : Inv m env s) (hf : f.holds m env) : Inv m env { s with fs := f :: s.fs } := fun g hg => by
  simp only [List.mem_cons] at hg
  rcases hg with rfl | hg
  · exact hf
  · exact h g hg
theorem ExtH.add {env : Env} {s : SS} {f : Fact} (h : Inv m env s) (hf : f.holds m env) : ExtH m env s env { s with fs := f :: s.fs } := ⟨⟨h.add hf, Nat.le_refl _, Agree.refl, rfl, rfl⟩, rfl, rfl⟩
theorem branch_ok {env : Env} {s : SS} {e : Ex} {k : Bool → SS → T α} {Q : Env → α → Prop} (hi : Inv m env s)
    (hk : ∀ b s', e.den env .bool = b → ExtH m env s env s' → Ok m (k b s') env Q) : Ok m (branch e s k) env Q := by
  have pos : ∀ x : Ex, (∀ b s', x.den env .bool = b → ExtH m env s env s' → Ok m (k b s') env Q) → Ok m (match lookB x s.fs with
    | some b => k b s
    | none => .ite x (k true { s with fs := .cond x true :: s.fs }) (k false { s with fs := .cond x false :: s.fs })) env Q := fun x hx => by
    split
    · rename_i b hb
      exact hx b s (lookB_ok hi hb) (.refl hi)
    · simp only [Ok]
      exact ⟨fun hc => hx true _ hc (.add hi hc), fun hc => hx false _ hc (.add hi hc)⟩
  have neg : ∀ x : Ex, (∀ b s', (!(x.den env .bool)) = b → ExtH m env s env s' → Ok m (k b s') env Q) → Ok m (match lookB x s.fs with
    | some b => k (!b) s
    | none => .ite x (k false { s with fs := .cond x true :: s.fs }) (k true { s with fs := .cond x false :: s.fs })) env Q := fun x hx => by
    split
    · rename_i b hb
      exact hx (!b) s (by rw [lookB_ok hi hb]) (.refl hi)
    · simp only [Ok]
      exact ⟨fun hc => hx false _ (by rw [hc]; rfl) (.add hi hc), fun hc => hx true _ (by rw [hc]; rfl) (.add hi hc)⟩
  unfold branch
  split
  · exact hk _ _ rfl (.refl hi)
  · exact neg _ hk
  · exact pos _ hk
theorem guard_ok {env : Env} {s : SS} {e : Ex} {k : SS → T α} {Q : Env → α → Prop} (hi : Inv m env s)
    (hk : ∀ s', e.den env .bool = true → ExtH m env s env s' → Ok m (k s') env Q) : Ok m (guard e s k) env Q := by
  refine branch_ok hi fun b s' hb he => ?_
  cases b with
  | true => exact hk s' hb he
  | false => simp only [Ok]
theorem guards_ok {env : Env} {k : SS → T α} {Q : Env → α → Prop} : ∀ {l : List Ex} {s : SS}, Inv m env s →
    (∀ s', (∀ e ∈ l, e.den env .bool = true) → ExtH m env s env s' → Ok m (k s') env Q) → Ok m (guards l s k) env Q
  | [], s, hi, hk => hk s (fun _ h => by simp at h) (.refl hi)
  | e :: l, s, hi, hk => guard_ok hi fun s1 h1 e1 => guards_ok e1.inv fun s2 h2 e2 => hk s2 (fun x hx => by
      simp only [List.mem_cons] at hx
      rcases hx with rfl | hx
      · exact h1
      · exact h2 x hx) (e1.trans e2)
theorem opt_ok {γ : Type} {env : Env} {o : Option γ} {k : γ → T α} {Q : Env → α → Prop} (hk : ∀ a, o = some a → Ok m (k a) env Q) : Ok m (opt o k) env Q := by
  cases o with
  | none => simp only [opt, Ok]
  | some a => exact hk a rfl
theorem iff_ok {env : Env} {b : Bool} {k : T α} {Q : Env → α → Prop} (hk : b = true → Ok m k env Q) : Ok m (iff b k) env Q := by
  cases b with
  | false => simp only [iff, Ok]
  | true => exact hk rfl
theorem lookI_ok {env : Env} {t : Ty} {k : IntKind} {l i : Ex} : ∀ {fs : List Fact} {x : Ex}, (∀ f ∈ fs, Fact.holds m env f) → lookI t k l i fs = some x → at' (l.den env (.lst t)) (i.den env (.int k)) = some (x.den env t)
  | [], _, _, h => by simp [lookI] at h
  | .idx u j a b y :: r, x, hf, h => by
    simp only [lookI] at h
    split at h
    · rename_i hx
      obtain ⟨h1, h2⟩ := and_t hx
      obtain ⟨h2, h3⟩ := and_t h2
      obtain ⟨h3, h4⟩ := and_t h3
      have e1 := tyBeq_eq h1
      have e2 := kEq_eq h2
      have e3 := exBeq_eq h3
      have e4 := exBeq_eq h4
      subst e1 e2 e3 e4
      simp only [Option.some.injEq] at h
      subst h
      exact hf (.idx u j a b y) (by simp)
    · exact lookI_ok (fun f hm => hf f (by simp [hm])) h
  | .cond .. :: r, b, hf, h => by simp only [lookI] at h; exact lookI_ok (fun f hm => hf f (by simp [hm])) h
  | .call .. :: r, b, hf, h => by simp only [lookI] at h; exact lookI_ok (fun f hm => hf f (by simp [hm])) h
theorem inv_agree {env env' : Env} {s : SS} (h : Agree s.nx env env') (hb : s.bnd = true) (hi : Inv m env s) : Inv m env' s := fun f hf => by
  unfold SS.bnd at hb
  obtain ⟨_, h2⟩ := and_t hb
  obtain ⟨_, h3⟩ := and_t h2
  exact holds_agree m h (List.all_eq_true.mp h3 f hf) (hi f hf)
theorem bnd_emb {env env' : Env} {s : SS} (h : Agree s.nx env env') (hb : s.bnd = true) : embF env' s.fr = embF env s.fr ∧ embH env' s.H = embH env s.H := by
  unfold SS.bnd at hb
  obtain ⟨h1, h2⟩ := and_t hb
  obtain ⟨h2, _⟩ := and_t h2
  exact ⟨(embF_agree h h1).symm, (embH_agree h h2).symm⟩
theorem getI_ok {env : Env} {s : SS} {t : Ty} {k : IntKind} {l i : Ex} {pend : List SV} {K : Ex → SS → T α} {Q : Env → α → Prop} (hi : Inv m env s)
    (hk : ∀ env' x s', at' (l.den env (.lst t)) (i.den env (.int k)) = some (x.den env' t) → ExtH m env s env' s' → SV.embL env' pend = SV.embL env pend →
      (∀ u, l.den env' u = l.den env u) → (∀ u, i.den env' u = i.den env u) → Ok m (K x s') env' Q) : Ok m (getI t k l i pend s K) env Q := by
  unfold getI
  split
  · rename_i x hx
    exact hk env x s (lookI_ok hi hx) (.refl hi) rfl (fun _ => rfl) (fun _ => rfl)
  · split
    · rename_i hb
      obtain ⟨h1, h2⟩ := and_t hb
      obtain ⟨h2, h3⟩ := and_t h2
      obtain ⟨h3, h4⟩ := and_t h3
      simp only [Ok]
      intro a ha
      have ag := agree_set env s.nx t a
      have hl := den_agree ag h3
      have hi' := den_agree ag h4
      refine hk _ (.v s.nx) _ ?_ ⟨⟨?_, Nat.le_succ _, ag, rfl, (bnd_emb ag h1).1⟩, rfl, (bnd_emb ag h1).2⟩ (embL_agree ag h2).symm (fun u => (hl u).symm) (fun u => (hi' u).symm)
      · rw [ha]; simp only [Ex.den, set_same]
      · refine Inv.add (s := { s with nx := s.nx + 1 }) (fun f hf => inv_agree ag h1 hi f hf) ?_
        simp only [Fact.holds, ← hl, ← hi', ha, Ex.den, set_same]
    · simp only [Ok]
end
end Go.Sy
