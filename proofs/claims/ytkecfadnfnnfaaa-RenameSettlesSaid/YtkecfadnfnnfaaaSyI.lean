/- Symbolic runs: the operations but for calls. -/
import Derived.Test.YtkecfadnfnnfaaaSyH
set_option linter.unusedVariables false
set_option linter.unusedSimpArgs false
namespace Go.Sy
open Go Go.Ev

section
variable {P : Nat → List Ty} {O : Nat → List (List Ty)} {m : (f : Nat) → Pr (P f) → Option (Sm (O f))} {α : Type}
variable {c : Ctx}
/-- What follows an operation is well, whatever it comes to. -/
def Next (m : (f : Nat) → Pr (P f) → Option (Sm (O f))) (res : Option (AV × Heap)) (env : Env) (s : SS) (K : SV → SS → T α) (Q : Env → α → Prop) : Prop :=
  ∀ env' v s', res = some (v.emb env', embH env' s'.H) → Ext m env s env' s' → Ok m (K v s') env' Q
variable {env : Env} {s : SS} {K : SV → SS → T α} {Q : Env → α → Prop}
theorem Next.pure {o : Option AV} (hi : Inv m env s) (hk : Next m (okV (embH env s.H) o) env s K Q) {v : SV} (h : o = some (v.emb env)) : Ok m (K v s) env Q :=
  hk env v s (by rw [h]; rfl) (ExtH.refl hi).toExt
/-- Behind guards. -/
theorem Next.later {res : Option (AV × Heap)} {s1 : SS} (hk : Next m res env s K Q) (e1 : ExtH m env s env s1) : Next m res env s1 K Q :=
  fun env' v s' h e => hk env' v s' h (e1.toExt.trans e)
theorem Next.same {res : Option (AV × Heap)} (hk : Next m res env s K Q) {env' : Env} {s1 : SS} (e1 : ExtH m env s env' s1) {v : SV} (h : res = some (v.emb env', embH env s.H)) : Ok m (K v s1) env' Q :=
  hk env' v s1 (by rw [h, e1.H, e1.emH]) e1.toExt

/-! ### Numbers, texts, equality -/
theorem den_ltE (env : Env) (k : IntKind) (a b : Ex) : (ltE k a b).den env .bool = decide (a.den env (.int k) < b.den env (.int k)) := den_cmp env .lss k a b
theorem den_eqE (env : Env) (k : IntKind) (a b : Ex) : (eqE k a b).den env .bool = decide (a.den env (.int k) = b.den env (.int k)) := den_cmp env .eql k a b
theorem den_leE (env : Env) (k : IntKind) (a b : Ex) : (leE k a b).den env .bool = decide (a.den env (.int k) ≤ b.den env (.int k)) := by
  unfold leE
  rw [den_notB, den_cmp]
  show (!decide (b.den env (.int k) < a.den env (.int k))) = _
  rw [Bool.eq_iff_iff]
  simp
theorem decEq_k (k : IntKind) : decide (k = k) = true := by simp
theorem intBits_some {op : BinOp} (h : op = .and ∨ op = .or ∨ op = .xor ∨ op = .andNot) (k : IntKind) (x y : Int) : intBits op k x y = some ((intBits op k x y).getD 0) := by
  rcases h with rfl | rfl | rfl | rfl <;> rfl
theorem intBinE_ok {op : BinOp} {k : IntKind} {a b g : Ex} {v : SV} (env : Env) (h : intBinE op k a b = some (v, g)) (hg : g.den env .bool = true) :
    intBin op k (a.den env (.int k)) (b.den env (.int k)) = some (v.emb env) := by
  have ar : ∀ o, (SV.ii k (mk2 (.arith o k) a b)).emb env = .int k (arI o k (a.den env (.int k)) (b.den env (.int k))) := fun o => by simp only [SV.emb, den_arith]
  have bits : ∀ o, (o = .and ∨ o = .or ∨ o = .xor ∨ o = .andNot) → (match intBits o k (a.den env (.int k)) (b.den env (.int k)) with | some r => some (AV.int k r) | none => none) = some ((SV.ii k (mk2 (.arith o k) a b)).emb env) := fun o ho => by
    rw [ar, intBits_some ho]
    rcases ho with rfl | rfl | rfl | rfl <;> rfl
  cases op <;> simp only [intBinE, Option.some.injEq, Prod.mk.injEq, reduceCtorEq] at h <;> obtain ⟨rfl, rfl⟩ := h
  · rw [ar]; rfl
  · rw [ar]; rfl
  · rw [ar]; rfl
  · rw [ar, s_quo]
    rw [den_notB, den_eqE, Bool.not_eq_true', decide_eq_false_iff_not] at hg
    rw [if_neg (show ¬ (b.den env (.int k) : Int) = 0 from hg)]
    rfl
  · rw [ar, s_rem]
    rw [den_notB, den_eqE, Bool.not_eq_true', decide_eq_false_iff_not] at hg
    rw [if_neg (show ¬ (b.den env (.int k) : Int) = 0 from hg)]
    rfl
  · exact bits .and (by simp)
  · exact bits .or (by simp)
  · exact bits .xor (by simp)
  · exact bits .andNot (by simp)
  · simp only [SV.emb, den_eqE, intBin, intCmp, Ev.eqI_eq]
  · simp only [SV.emb, den_notB, den_eqE, intBin, intCmp, Ev.eqI_eq]
  · simp only [SV.emb, den_ltE, intBin, intCmp, Ev.ltI_eq]
  · simp only [SV.emb, den_leE, intBin, intCmp, Ev.leI_eq]
  · simp only [SV.emb, den_ltE, intBin, intCmp, Ev.ltI_eq]
  · simp only [SV.emb, den_leE, intBin, intCmp, Ev.leI_eq]
theorem beqBytes (x y : List UInt8) : (x == y) = decide (x = y) := by
  rw [Bool.eq_iff_iff]; simp
theorem strBinE_ok {op : BinOp} {a b g : Ex} {v : SV} (env : Env) (h : strBinE op a b = some (v, g)) (hg : g.den env .bool = true) :
    strBin op (a.den env .str) (b.den env .str) = some (v.emb env) := by
  cases op <;> simp only [strBinE, Option.some.injEq, Prod.mk.injEq, reduceCtorEq] at h <;> obtain ⟨rfl, rfl⟩ := h
  · rw [den_nle, den_nadd, den_slen, den_slen, decide_eq_true_eq] at hg
    rw [s_strAdd, if_pos (show hd (a.den env .str) + hd (b.den env .str) ≤ 9223372036854775807 from hg)]
    simp only [SV.emb, den_cat]
  · simp only [SV.emb, den_scmp, strBin, cmS, beqBytes]
  · simp only [SV.emb, den_notB, den_scmp, strBin, cmS, beqBytes]
  · simp only [SV.emb, den_scmp, strBin, cmS]
  · simp only [SV.emb, den_scmp, strBin, cmS, beqBytes]
  · simp only [SV.emb, den_notB, den_scmp, strBin, cmS, beqBytes]
  · simp only [SV.emb, den_notB, den_scmp, strBin, cmS]
theorem keyEqE_ok {kt : TD} {x y : SV} {e : Ex} (env : Env) (h : keyEqE kt x y = some e) : keyEq kt (x.emb env) (y.emb env) = some (e.den env .bool) := by
  cases kt <;> simp only [keyEqE, reduceCtorEq] at h
  · cases x <;> cases y <;> simp only [reduceCtorEq] at h
    rename_i k a j b
    split at h
    · rename_i hk
      simp only [Option.some.injEq] at h
      subst h
      have := kEq_eq hk
      subst this
      simp only [SV.emb, keyEq, decEq_k, decide_true, den_eqE, Ev.eqI_eq]
    · cases h
  · cases x <;> cases y <;> simp only [reduceCtorEq, Option.some.injEq] at h
    subst h
    simp only [SV.emb, keyEq, den_beq]
  · cases x <;> cases y <;> simp only [reduceCtorEq, Option.some.injEq] at h
    subst h
    simp only [SV.emb, keyEq, den_scmp, cmS, beqBytes]
theorem fieldsEqE_ok (env : Env) : ∀ {fs : List (Nat × TypeId)} {xs ys : List SV} {e : Ex}, fieldsEqE c fs xs ys = some e → fieldsEq c fs (SV.embL env xs) (SV.embL env ys) = some (e.den env .bool)
  | [], [], [], e, h => by
    simp only [fieldsEqE, Option.some.injEq] at h
    subst h
    rfl
  | p :: fs, x :: xs, y :: ys, e, h => by
    simp only [fieldsEqE] at h
    split at h
    · rename_i e1 e2 h1 h2
      simp only [Option.some.injEq] at h
      subst h
      simp only [SV.embL, fieldsEq, keyEqE_ok env h1, fieldsEqE_ok env h2, den_and]
      cases (e1.den env .bool : Bool) <;> rfl
    · cases h
  | [], [], _ :: _, _, h => by simp [fieldsEqE] at h
  | [], _ :: _, _, _, h => by simp [fieldsEqE] at h
  | _ :: _, [], _, _, h => by simp [fieldsEqE] at h
  | _ :: _, _ :: _, [], _, h => by simp [fieldsEqE] at h
theorem nle_one {env : Env} {a : Ex} (h : (nleE (natE 1) a).den env .bool = true) : ∃ n, (a.den env .nat : Nat) = n + 1 := by
  rw [den_nle, decide_eq_true_eq] at h
  have : (1 : Nat) ≤ (a.den env .nat : Nat) := h
  obtain ⟨n, hn⟩ := Nat.exists_eq_add_of_le this
  exact ⟨n, by rw [hn, Nat.add_comm]⟩
theorem eqS_ok {i : TI} {cst : Bool} {x y : SV} {e g : Ex} (env : Env) (h : eqS c i cst x y = some (e, g)) (hg : g.den env .bool = true) :
    eqAV c i cst (x.emb env) (y.emb env) = some (e.den env .bool) := by
  have lst : ∀ {t : Ty} {l : Ex}, (nleE (natE 1) (mk1 (.len t) l)).den env .bool = true → ∃ a r, List.map (row t) (l.den env (.lst t)) = a :: r := fun {t l} h => by
    obtain ⟨n, hn⟩ := nle_one h
    rw [den_lenN] at hn
    cases hl : l.den env (.lst t) with
    | nil => rw [hl] at hn; simp at hn
    | cons a r => exact ⟨_, _, rfl⟩
  unfold eqS at h
  unfold eqAV
  cases hd : i.d <;> simp only [hd, reduceCtorEq] at h ⊢
  · cases x <;> cases y <;> simp only [reduceCtorEq, Option.some.injEq, Prod.mk.injEq] at h
    obtain ⟨rfl, rfl⟩ := h
    simp only [SV.emb, den_beq]
  · cases x <;> cases y <;> simp only [reduceCtorEq, Option.some.injEq, Prod.mk.injEq] at h <;> obtain ⟨rfl, rfl⟩ := h <;> rfl
  · cases x <;> cases y <;> simp only [reduceCtorEq, Option.some.injEq, Prod.mk.injEq] at h <;> obtain ⟨rfl, rfl⟩ := h
    · obtain ⟨a, r, hr⟩ := lst hg
      simp only [SV.emb, hr]
      rfl
    · obtain ⟨a, r, hr⟩ := lst hg
      simp only [SV.emb, hr]
      rfl
    · rfl
    · obtain ⟨n, hn⟩ := nle_one hg
      simp only [SV.emb, hn]
      rfl
    · obtain ⟨n, hn⟩ := nle_one hg
      simp only [SV.emb, hn]
      rfl
  · cases x <;> cases y <;> simp only [reduceCtorEq, Option.some.injEq, Prod.mk.injEq] at h <;> obtain ⟨rfl, rfl⟩ := h <;> rfl
  · cases x <;> cases y <;> simp only [reduceCtorEq] at h
    split at h
    · rename_i hf
      split at h
      · rename_i e' he
        simp only [Option.some.injEq, Prod.mk.injEq] at h
        obtain ⟨rfl, rfl⟩ := h
        simp only [SV.emb, hf, fieldsEqE_ok env he]
      · cases h
    · cases h
  · cases x <;> cases y <;> simp only [reduceCtorEq, Option.some.injEq, Prod.mk.injEq] at h <;> obtain ⟨rfl, rfl⟩ := h <;> rfl
  · cases x <;> cases y <;> simp only [reduceCtorEq, Option.some.injEq, Prod.mk.injEq] at h
    · cases cst with
      | true =>
        simp only [Option.some.injEq, Prod.mk.injEq] at h
        obtain ⟨rfl, rfl⟩ := h
        rfl
      | false => cases h
    · obtain ⟨rfl, rfl⟩ := h
      rfl
    · obtain ⟨rfl, rfl⟩ := h
      rfl
theorem binopE_ok {i : TI} {cst : Bool} {op : BinOp} {x y v : SV} {g : Ex} (env : Env) (h : binopE c i cst op x y = some (v, g)) (hg : g.den env .bool = true) :
    binop c i cst op (x.emb env) (y.emb env) = some (v.emb env) := by
  by_cases h1 : ∃ k a j b, x = .ii k a ∧ y = .ii j b
  · obtain ⟨k, a, j, b, rfl, rfl⟩ := h1
    unfold binopE at h
    simp only at h
    split at h
    · simp only [Option.some.injEq, Prod.mk.injEq] at h
      obtain ⟨rfl, rfl⟩ := h
      rw [den_leE, decide_eq_true_eq] at hg
      simp only [SV.emb]
      rw [s_shl, if_neg (by simpa [Ex.den, ilDen] using hg)]
      rfl
    · simp only [Option.some.injEq, Prod.mk.injEq] at h
      obtain ⟨rfl, rfl⟩ := h
      rw [den_leE, decide_eq_true_eq] at hg
      simp only [SV.emb]
      rw [s_shr, if_neg (by simpa [Ex.den, ilDen] using hg)]
      rfl
    · rename_i n1 n2
      cases hk : kEq k j with
      | false => rw [hk] at h; cases h
      | true =>
        rw [hk] at h
        have := kEq_eq hk
        subst this
        have := intBinE_ok env h hg
        rw [← this]
        cases op <;> first | exact absurd rfl n1 | exact absurd rfl n2 | (simp only [SV.emb, binop, decEq_k, decide_true])
  · by_cases h2 : ∃ a b, x = .ss a ∧ y = .ss b
    · obtain ⟨a, b, rfl, rfl⟩ := h2
      exact strBinE_ok env h hg
    · unfold binopE at h
      unfold binop
      split at h
      · exact absurd ⟨_, _, _, _, rfl, rfl⟩ h1
      · exact absurd ⟨_, _, rfl, rfl⟩ h2
      · rename_i n1 n2
        split
        · rename_i e1 e2
          cases x <;> cases y <;> simp only [SV.emb, reduceCtorEq] at e1 e2
          exact absurd ⟨_, _, _, _, rfl, rfl⟩ h1
        · rename_i e1 e2
          cases x <;> cases y <;> simp only [SV.emb, reduceCtorEq] at e1 e2
          exact absurd ⟨_, _, rfl, rfl⟩ h2
        · cases op <;> simp only [reduceCtorEq] at h ⊢
          · split at h
            · rename_i he
              simp only [Option.some.injEq, Prod.mk.injEq] at h
              obtain ⟨rfl, rfl⟩ := h
              rw [eqS_ok env he hg]
              rfl
            · cases h
          · split at h
            · rename_i he
              simp only [Option.some.injEq, Prod.mk.injEq] at h
              obtain ⟨rfl, rfl⟩ := h
              rw [eqS_ok env he hg]
              simp only [SV.emb, den_notB]
            · cases h
theorem unopE_ok {op : UnOp} {x v : SV} (env : Env) (h : unopE op x = some v) : unop op (x.emb env) = some (v.emb env) := by
  cases op <;> cases x <;> simp only [unopE, Option.some.injEq, reduceCtorEq] at h <;> subst h
  · rfl
  · rfl
  · simp only [SV.emb, den_notB, unop]
theorem den_convE (env : Env) (j k : IntKind) (e : Ex) : (convE j k e).den env (.int k) = wr k (e.den env (.int j)) := by cases e <;> rfl
theorem convertE_ok {a i : TI} {x v : SV} (env : Env) (h : convertE a i x = some v) : convertAV a i (x.emb env) = some (v.emb env) := by
  unfold convertE at h
  unfold convertAV
  cases ha : a.known with
  | false => rw [ha] at h; cases h
  | true =>
    rw [ha] at h
    simp only at h ⊢
    cases hd : i.d <;> rw [hd] at h <;> cases x <;> simp only [reduceCtorEq, Option.some.injEq] at h <;> subst h
    · simp only [SV.emb, den_convE]
    · rfl
end
end Go.Sy
