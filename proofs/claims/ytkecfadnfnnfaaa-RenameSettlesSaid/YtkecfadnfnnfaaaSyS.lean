/- Symbolic runs: the models of a program's functions and loops, and that they are true. -/
import Derived.Test.YtkecfadnfnnfaaaSyR
set_option linter.unusedVariables false
set_option linter.unusedSimpArgs false
noncomputable section
namespace Go.Sy
open Go Go.Ev

/-- Answers for every family. -/
abbrev Mod (tb : Tab) := (i : Nat) → Pr (tb.P i) → Option (Sm (tb.O i))
/-- The one answers where the other does, and the same. -/
def Mod.le {tb : Tab} (m m' : Mod tb) : Prop := ∀ i x z, m i x = some z → m' i x = some z
section
variable {c : Ctx} {tb : Tab} {α : Type}
mutual
theorem den_mono {m m' : Mod tb} (h : m.le m') : ∀ (x : T α) (os : List (List Ty)) (env : Env) (z : Sm os), x.den tb.P tb.O m os env = some z → x.den tb.P tb.O m' os env = some z
  | .ret _, os, env, z, hz => by simp only [T.den, reduceCtorEq] at hz
  | .fail, os, env, z, hz => by simp only [T.den, reduceCtorEq] at hz
  | .out j es, os, env, z, hz => by simp only [T.den] at *; exact hz
  | .tail f args, os, env, z, hz => by
    simp only [T.den] at *
    split at hz
    · rename_i ho
      subst ho
      rw [dif_pos rfl]
      exact h _ _ _ hz
    · cases hz
  | .ite c x y, os, env, z, hz => by
    simp only [T.den] at *
    cases hc : c.den env .bool with
    | true => rw [hc] at hz; exact den_mono h x os env z hz
    | false => rw [hc] at hz; exact den_mono h y os env z hz
  | .get n t k l i x, os, env, z, hz => by
    simp only [T.den] at *
    cases ha : at' (l.den env (.lst t)) (i.den env (.int k)) with
    | none => rw [ha] at hz; simp at hz
    | some a => rw [ha, Option.bind_some] at hz; rw [Option.bind_some]; exact den_mono h x os _ z hz
  | .call f args n ks, os, env, z, hz => by
    simp only [T.den] at *
    cases ha : m f (mkPr env (tb.P f) args) with
    | none => rw [ha] at hz; simp at hz
    | some a => rw [ha, Option.bind_some] at hz; rw [h _ _ _ ha, Option.bind_some]; exact alts_mono h ks _ a n os env z hz
  | .join os' x n ks, os, env, z, hz => by
    simp only [T.den] at *
    cases ha : x.den tb.P tb.O m os' env with
    | none => rw [ha] at hz; simp at hz
    | some a => rw [ha, Option.bind_some] at hz; rw [den_mono h x os' env a ha, Option.bind_some]; exact alts_mono h ks _ a n os env z hz
  | .alt _ _, os, env, z, hz => by simp only [T.den, reduceCtorEq] at hz
theorem alts_mono {m m' : Mod tb} (h : m.le m') : ∀ (x : T α) (os' : List (List Ty)) (y : Sm os') (n : Nat) (os : List (List Ty)) (env : Env) (z : Sm os), x.alts tb.P tb.O m os' y n os env = some z → x.alts tb.P tb.O m' os' y n os env = some z
  | .alt k r, os', y, n, os, env, z, hz => by
    match os', y with
    | [], y => exact y.elim
    | [a], y => simp only [T.alts] at *; exact den_mono h k os _ z hz
    | a :: b :: l, .inl x => simp only [T.alts] at *; exact den_mono h k os _ z hz
    | a :: b :: l, .inr y => simp only [T.alts] at *; exact alts_mono h r _ y n os env z hz
  | .ret _, os', y, n, os, env, z, hz => by simp only [T.alts, reduceCtorEq] at hz
  | .fail, os', y, n, os, env, z, hz => by simp only [T.alts, reduceCtorEq] at hz
  | .out _ _, os', y, n, os, env, z, hz => by simp only [T.alts, reduceCtorEq] at hz
  | .tail _ _, os', y, n, os, env, z, hz => by simp only [T.alts, reduceCtorEq] at hz
  | .ite .., os', y, n, os, env, z, hz => by simp only [T.alts, reduceCtorEq] at hz
  | .get .., os', y, n, os, env, z, hz => by simp only [T.alts, reduceCtorEq] at hz
  | .call .., os', y, n, os, env, z, hz => by simp only [T.alts, reduceCtorEq] at hz
  | .join .., os', y, n, os, env, z, hz => by simp only [T.alts, reduceCtorEq] at hz
end
/-- Of a growing row of answers, one is enough. -/
structure Grows (ms : Nat → Mod tb) (L : Mod tb) : Prop where
  mono : ∀ k, (ms k).le (ms (k + 1))
  le : ∀ k, (ms k).le L
  some : ∀ i x z, L i x = some z → ∃ k, ms k i x = some z
theorem Grows.upto {ms : Nat → Mod tb} {L : Mod tb} (h : Grows ms L) : ∀ {k l : Nat}, k ≤ l → (ms k).le (ms l)
  | k, l, hl => by
    induction hl with
    | refl => exact fun _ _ _ h => h
    | step _ ih => exact fun i x z hz => h.mono _ i x z (ih i x z hz)
mutual
theorem den_fin {ms : Nat → Mod tb} {L : Mod tb} (h : Grows ms L) : ∀ (x : T α) (os : List (List Ty)) (env : Env) (z : Sm os), x.den tb.P tb.O L os env = some z → ∃ k, x.den tb.P tb.O (ms k) os env = some z
  | .ret _, os, env, z, hz => by simp only [T.den, reduceCtorEq] at hz
  | .fail, os, env, z, hz => by simp only [T.den, reduceCtorEq] at hz
  | .out j es, os, env, z, hz => ⟨0, by simp only [T.den] at *; exact hz⟩
  | .tail f args, os, env, z, hz => by
    simp only [T.den] at *
    split at hz
    · rename_i ho
      subst ho
      obtain ⟨k, hk⟩ := h.some _ _ _ hz
      exact ⟨k, by rw [dif_pos rfl]; exact hk⟩
    · cases hz
  | .ite c x y, os, env, z, hz => by
    simp only [T.den] at *
    cases hc : c.den env .bool with
    | true => rw [hc] at hz; exact den_fin h x os env z hz
    | false => rw [hc] at hz; exact den_fin h y os env z hz
  | .get n t k l i x, os, env, z, hz => by
    simp only [T.den] at *
    cases ha : at' (l.den env (.lst t)) (i.den env (.int k)) with
    | none => rw [ha] at hz; simp at hz
    | some a =>
      rw [ha, Option.bind_some] at hz
      obtain ⟨k, hk⟩ := den_fin h x os _ z hz
      exact ⟨k, by rw [Option.bind_some]; exact hk⟩
  | .call f args n ks, os, env, z, hz => by
    simp only [T.den] at *
    cases ha : L f (mkPr env (tb.P f) args) with
    | none => rw [ha] at hz; simp at hz
    | some a =>
      rw [ha, Option.bind_some] at hz
      obtain ⟨k1, hk1⟩ := h.some _ _ _ ha
      obtain ⟨k2, hk2⟩ := alts_fin h ks _ a n os env z hz
      refine ⟨max k1 k2, ?_⟩
      rw [h.upto (Nat.le_max_left k1 k2) _ _ _ hk1, Option.bind_some]
      exact alts_mono (h.upto (Nat.le_max_right k1 k2)) ks _ a n os env z hk2
  | .join os' x n ks, os, env, z, hz => by
    simp only [T.den] at *
    cases ha : x.den tb.P tb.O L os' env with
    | none => rw [ha] at hz; simp at hz
    | some a =>
      rw [ha, Option.bind_some] at hz
      obtain ⟨k1, hk1⟩ := den_fin h x os' env a ha
      obtain ⟨k2, hk2⟩ := alts_fin h ks _ a n os env z hz
      refine ⟨max k1 k2, ?_⟩
      rw [den_mono (h.upto (Nat.le_max_left k1 k2)) x os' env a hk1, Option.bind_some]
      exact alts_mono (h.upto (Nat.le_max_right k1 k2)) ks _ a n os env z hk2
  | .alt _ _, os, env, z, hz => by simp only [T.den, reduceCtorEq] at hz
theorem alts_fin {ms : Nat → Mod tb} {L : Mod tb} (h : Grows ms L) : ∀ (x : T α) (os' : List (List Ty)) (y : Sm os') (n : Nat) (os : List (List Ty)) (env : Env) (z : Sm os), x.alts tb.P tb.O L os' y n os env = some z → ∃ k, x.alts tb.P tb.O (ms k) os' y n os env = some z
  | .alt k r, os', y, n, os, env, z, hz => by
    match os', y with
    | [], y => exact y.elim
    | [a], y => simp only [T.alts] at *; exact den_fin h k os _ z hz
    | a :: b :: l, .inl x => simp only [T.alts] at *; exact den_fin h k os _ z hz
    | a :: b :: l, .inr y => simp only [T.alts] at *; exact alts_fin h r _ y n os env z hz
  | .ret _, os', y, n, os, env, z, hz => by simp only [T.alts, reduceCtorEq] at hz
  | .fail, os', y, n, os, env, z, hz => by simp only [T.alts, reduceCtorEq] at hz
  | .out _ _, os', y, n, os, env, z, hz => by simp only [T.alts, reduceCtorEq] at hz
  | .tail _ _, os', y, n, os, env, z, hz => by simp only [T.alts, reduceCtorEq] at hz
  | .ite .., os', y, n, os, env, z, hz => by simp only [T.alts, reduceCtorEq] at hz
  | .get .., os', y, n, os, env, z, hz => by simp only [T.alts, reduceCtorEq] at hz
  | .call .., os', y, n, os, env, z, hz => by simp only [T.alts, reduceCtorEq] at hz
  | .join .., os', y, n, os, env, z, hz => by simp only [T.alts, reduceCtorEq] at hz
end
end
section
variable (c : Ctx) (tb : Tab) (G : Mod tb)
/-- One round of answers: families of another kind answer by `G`. -/
def stepM (m : Mod tb) : Mod tb := fun i x => match (tb.fam i).ext with
  | true => G i x
  | false => (body c tb i).den tb.P tb.O m (tb.O i) (env0 (tb.P i) x)
def iterM : Nat → Mod tb
  | 0 => fun _ _ => none
  | k + 1 => stepM c tb G (iterM k)
theorem stepM_mono {m m' : Mod tb} (h : m.le m') : (stepM c tb G m).le (stepM c tb G m') := fun i x z hz => by
  unfold stepM at *
  cases he : (tb.fam i).ext with
  | true => rw [he] at hz; exact hz
  | false => rw [he] at hz; exact den_mono h _ _ _ _ hz
theorem iterM_mono : ∀ k, (iterM c tb G k).le (iterM c tb G (k + 1))
  | 0 => fun i x z hz => by simp [iterM] at hz
  | k + 1 => stepM_mono c tb G (iterM_mono k)
theorem iterM_upto {k l : Nat} (hl : k ≤ l) : (iterM c tb G k).le (iterM c tb G l) := by
  induction hl with
  | refl => exact fun _ _ _ h => h
  | step _ ih => exact fun i x z hz => iterM_mono c tb G _ i x z (ih i x z hz)
open Classical in
/-- The models. -/
def M : Mod tb := fun i x => if h : ∃ z k, iterM c tb G k i x = some z then some (Classical.choose h) else none
theorem M_iff {i : Nat} {x : Pr (tb.P i)} {z : Sm (tb.O i)} : M c tb G i x = some z ↔ ∃ k, iterM c tb G k i x = some z := by
  classical
  unfold M
  constructor
  · intro h
    split at h
    · rename_i hx
      simp only [Option.some.injEq] at h
      rw [← h]
      exact Classical.choose_spec hx
    · cases h
  · intro ⟨k, hk⟩
    have hx : ∃ z k, iterM c tb G k i x = some z := ⟨z, k, hk⟩
    rw [dif_pos hx]
    obtain ⟨k', hk'⟩ := Classical.choose_spec hx
    have h1 := iterM_upto c tb G (Nat.le_max_left k k') i x z hk
    have h2 := iterM_upto c tb G (Nat.le_max_right k k') i x _ hk'
    rw [h1] at h2
    exact h2.symm
theorem M_grows : Grows (iterM c tb G) (M c tb G) := ⟨iterM_mono c tb G, fun k i x z h => (M_iff c tb G).mpr ⟨k, h⟩, fun i x z h => (M_iff c tb G).mp h⟩
/-- Every model is what its family's tree says. -/
theorem M_step : M c tb G = stepM c tb G (M c tb G) := by
  funext i x
  have one : ∀ z, M c tb G i x = some z → stepM c tb G (M c tb G) i x = some z := fun z h => by
    obtain ⟨k, hk⟩ := (M_iff c tb G).mp h
    cases k with
    | zero => simp [iterM] at hk
    | succ k => exact stepM_mono c tb G (fun i x z h => (M_iff c tb G).mpr ⟨k, h⟩) i x z hk
  have two : ∀ z, stepM c tb G (M c tb G) i x = some z → M c tb G i x = some z := fun z h => by
    unfold stepM at h
    cases he : (tb.fam i).ext with
    | true =>
      rw [he] at h
      refine (M_iff c tb G).mpr ⟨1, ?_⟩
      show stepM c tb G (iterM c tb G 0) i x = some z
      unfold stepM
      rw [he]
      exact h
    | false =>
      rw [he] at h
      obtain ⟨k, hk⟩ := den_fin (M_grows c tb G) _ _ _ _ h
      refine (M_iff c tb G).mpr ⟨k + 1, ?_⟩
      show stepM c tb G (iterM c tb G k) i x = some z
      unfold stepM
      rw [he]
      exact hk
  cases h1 : M c tb G i x with
  | some z => exact (one z h1).symm
  | none =>
    cases h2 : stepM c tb G (M c tb G) i x with
    | none => rfl
    | some z => rw [two z h2] at h1; cases h1
theorem M_eq (i : Nat) (h : (tb.fam i).ext = false) (x : Pr (tb.P i)) : M c tb G i x = (body c tb i).den tb.P tb.O (M c tb G) (tb.O i) (env0 (tb.P i) x) := by
  have := congrFun (congrFun (M_step c tb G) i) x
  rw [this]
  unfold stepM
  rw [h]
theorem M_ext (i : Nat) (h : (tb.fam i).ext = true) (x : Pr (tb.P i)) : M c tb G i x = G i x := by
  have := congrFun (congrFun (M_step c tb G) i) x
  rw [this]
  unfold stepM
  rw [h]
/-- What is to be known of the answers of families of another kind. -/
def ExtOk : Prop := ∀ i x z, (tb.fam i).ext = true → G i x = some z → ∀ (env : Env) (θ : List Ex) (n j : Nat) (o : Out), mkPr env (tb.P i) θ = x → IsAlt env (tb.O i) z j n →
  (tb.fam i).outs[j]? = some o → Means c (R c) (tb.fam i) (env0 (tb.P i) x) o.ex (embF env (o.state θ n).1) (embH env (o.state θ n).2)
variable {c tb G}
theorem iterM_sound (hG : ExtOk c tb G) : ∀ k, Sound c (R c) tb (iterM c tb G k)
  | 0 => fun i x z h => by simp [iterM] at h
  | k + 1 => fun i x z h env θ n j o hx hal ho => by
    have h' : stepM c tb G (iterM c tb G k) i x = some z := h
    unfold stepM at h'
    cases he : (tb.fam i).ext with
    | true => rw [he] at h'; exact hG i x z he h' env θ n j o hx hal ho
    | false =>
      rw [he] at h'
      have := body_ok (iterM_sound hG k) h' hx hal ho
      have hR : R c = stepTask c (R c) := funext fun t => R_eq t
      rw [hR]
      exact this
/-- The models are true of the program. -/
theorem M_sound (hG : ExtOk c tb G) : Sound c (R c) tb (M c tb G) := fun i x z h => by
  obtain ⟨k, hk⟩ := (M_iff c tb G).mp h
  exact iterM_sound hG k i x z hk
end
end Go.Sy
