/- RenameSettles, of the models: a node's new numbers. -/
import Derived.Test.YtkecfadnfnnfaaaPlA6
set_option linter.unusedVariables false
set_option linter.unusedSimpArgs false
namespace Go.Proofs.Ytkecfadnfnnfaaa.LabA
open Go Go.Ev Go.Sy

theorem j1 (nl : List Int) (m : GNode) (h : SmallN m) : (show Option (((GNode))) from
        bif (decide (m.1 < (0 : Int))) then
          some m
        else
          bif (decide ((9 : Int) < m.1)) then
            some m
          else
            bif (decide (m.1 = (1 : Int))) then
              some m
            else
              Option.bind (rename_scope_of nl m.2.2.1) fun v22 =>
              Option.bind (rename_scope_of nl m.2.2.2.2.2.2.1) fun v23 =>
              some (m.1, (m.2.1, (v22, (m.2.2.2.1, (m.2.2.2.2.1, (m.2.2.2.2.2.1, (v23, m.2.2.2.2.2.2.2)))))))) =
    some (m.1, (m.2.1, (if isBare (nOp m) = true then nArgs m else (nArgs m).map (numOf nl), (m.2.2.2.1, (m.2.2.2.2.1, (m.2.2.2.2.2.1, (if isBare (nOp m) = true then nMore m else (nMore m).map (numOf nl), m.2.2.2.2.2.2.2))))))) := by
  have ha := h.args
  have hm := h.more
  show (bif (decide (m.1 < (0 : Int))) then _ else _) = _
  by_cases h0 : m.1 < 0
  · have hb : isBare (nOp m) = true := by simp only [isBare, decide_eq_true_eq]; exact .inl h0
    rw [cond_dt h0, if_pos hb, if_pos hb]
  · rw [cond_df h0]
    by_cases h1 : 9 < m.1
    · have hb : isBare (nOp m) = true := by simp only [isBare, decide_eq_true_eq]; exact .inr (.inl h1)
      rw [cond_dt h1, if_pos hb, if_pos hb]
    · rw [cond_df h1]
      by_cases h2 : m.1 = 1
      · have hb : isBare (nOp m) = true := by simp only [isBare, decide_eq_true_eq]; exact .inr (.inr h2)
        rw [cond_dt h2, if_pos hb, if_pos hb]
      · have hb : ¬ isBare (nOp m) = true := by simp only [isBare, decide_eq_true_eq]; exact fun h => by rcases h with h | h | h <;> contradiction
        rw [cond_df h2, scope_spec nl m.2.2.1 (Nat.le_trans ha (by decide)), bind_some', scope_spec nl m.2.2.2.2.2.2.1 (Nat.le_trans hm (by decide)), bind_some', if_neg hb, if_neg hb]
theorem j2 (nl : List Int) (m : GNode) (h : SmallN m) (hv : nOp m ≠ 9 → fBinds (nOp m) = true → 0 ≤ nVar m ∧ nVar m < (nl.length : Int)) : (show Option (((GNode))) from
        bif (decide (m.1 = (9 : Int))) then
          some m
        else
          Option.bind (core_Binds m) fun v23 =>
          bif (decide ((0 : Int) < (v23.length : Int))) then
            Option.bind (Sy.at' nl m.2.1) fun v24 =>
            some (m.1, (v24, m.2.2))
          else
            some m) = some (m.1, (if nOp m ≠ 9 ∧ fBinds (nOp m) = true then numOf nl (nVar m) else nVar m, m.2.2)) := by
  show (bif (decide (m.1 = (9 : Int))) then _ else _) = _
  by_cases h9 : m.1 = 9
  · rw [cond_dt h9, if_neg (fun h => h.1 h9)]
  · rw [cond_df h9, binds_spec m h, bind_some']
    cases hb : fBinds (nOp m) with
    | true =>
      obtain ⟨h0, h1⟩ := hv h9 hb
      have : binds m = [nVar m] := by simp only [binds, if_neg (show ¬ nOp m = 9 from h9), hb, if_true]
      rw [this, cond_dt (by simp), show Sy.at' nl m.2.1 = _ from at_num h0 h1, bind_some', if_pos ⟨h9, rfl⟩]
    | false =>
      have : binds m = [] := by simp [binds, show ¬ nOp m = 9 from h9, hb]
      rw [this, cond_df (by simp), if_neg (by simp)]
theorem j3 (tl : List Int) (m : GNode) (h : SmallN m) (hv : nOp m ≠ 9 → fNext (nOp m) = true → 0 ≤ nNext m ∧ nNext m < (tl.length : Int)) : (show Option (((GNode))) from
        bif (decide (m.1 = (9 : Int))) then
          some m
        else
          Option.bind (core_Kids m) fun v24 =>
          bif (decide ((0 : Int) < (v24.length : Int))) then
            Option.bind (Sy.at' tl m.2.2.2.2.2.2.2.2.2) fun v25 =>
            some (m.1, (m.2.1, (m.2.2.1, (m.2.2.2.1, (m.2.2.2.2.1, (m.2.2.2.2.2.1, (m.2.2.2.2.2.2.1, (m.2.2.2.2.2.2.2.1, (m.2.2.2.2.2.2.2.2.1, v25)))))))))
          else
            some m) = some (m.1, (m.2.1, (m.2.2.1, (m.2.2.2.1, (m.2.2.2.2.1, (m.2.2.2.2.2.1, (m.2.2.2.2.2.2.1, (m.2.2.2.2.2.2.2.1, (m.2.2.2.2.2.2.2.2.1, if nOp m ≠ 9 ∧ fNext (nOp m) = true then toOf tl (nNext m) else nNext m))))))))) := by
  show (bif (decide (m.1 = (9 : Int))) then _ else _) = _
  by_cases h9 : m.1 = 9
  · rw [cond_dt h9, if_neg (fun h => h.1 h9)]
  · rw [cond_df h9, kids_spec m h, bind_some']
    cases hb : fNext (nOp m) with
    | true =>
      obtain ⟨h0, h1⟩ := hv h9 hb
      have : kids m = [nNext m] := by simp only [kids, if_neg (show ¬ nOp m = 9 from h9), hb, if_true]
      rw [this, cond_dt (by simp), show Sy.at' tl m.2.2.2.2.2.2.2.2.2 = _ from at_to h0 h1, bind_some', if_pos ⟨h9, rfl⟩]
    | false =>
      have : kids m = [] := by simp [kids, show ¬ nOp m = 9 from h9, hb]
      rw [this, cond_df (by simp), if_neg (by simp)]
theorem j5 (m : GNode) (h1 : (nArgs m).length ≤ 1000) (h2 : (nMore m).length ≤ 1000) : ∃ z, (show Option ((Unit) ⊕ (Unit)) from
          bif (decide (m.1 < (0 : Int))) then
            bif (decide ((m.2.2.1.length * (8 : Nat)) ≤ (35184372088832 : Nat))) then
              bif (decide ((m.2.2.2.2.2.2.1.length * (8 : Nat)) ≤ (35184372088832 : Nat))) then
                some (.inl ())
              else
                none
            else
              none
          else
            bif (decide ((9 : Int) < m.1)) then
              bif (decide ((m.2.2.1.length * (8 : Nat)) ≤ (35184372088832 : Nat))) then
                bif (decide ((m.2.2.2.2.2.2.1.length * (8 : Nat)) ≤ (35184372088832 : Nat))) then
                  some (.inl ())
                else
                  none
              else
                none
            else
              bif (decide (m.1 = (1 : Int))) then
                bif (decide ((m.2.2.1.length * (8 : Nat)) ≤ (35184372088832 : Nat))) then
                  bif (decide ((m.2.2.2.2.2.2.1.length * (8 : Nat)) ≤ (35184372088832 : Nat))) then
                    some (.inl ())
                  else
                    none
                else
                  none
              else
                some (.inr ())) = some z := by
  have a1 : m.2.2.1.length * 8 ≤ 35184372088832 := by have : m.2.2.1.length ≤ 1000 := h1; omega
  have a2 : m.2.2.2.2.2.2.1.length * 8 ≤ 35184372088832 := by have : m.2.2.2.2.2.2.1.length ≤ 1000 := h2; omega
  show ∃ z, (bif (decide (m.1 < (0 : Int))) then _ else _) = _
  by_cases c1 : m.1 < 0
  · rw [cond_dt c1, cond_dt a1, cond_dt a2]
    exact ⟨_, rfl⟩
  · rw [cond_df c1]
    by_cases c2 : 9 < m.1
    · rw [cond_dt c2, cond_dt a1, cond_dt a2]
      exact ⟨_, rfl⟩
    · rw [cond_df c2]
      by_cases c3 : m.1 = 1
      · rw [cond_dt c3, cond_dt a1, cond_dt a2]
        exact ⟨_, rfl⟩
      · rw [cond_df c3]
        exact ⟨_, rfl⟩
theorem small_mono {n m : GNode} (h : SmallN n) (h1 : (nArgs m).length = (nArgs n).length) (h2 : (nMore m).length = (nMore n).length) (h3 : nBr m = nBr n) : SmallN m :=
  ⟨by rw [h1]; exact h.args, by rw [h2]; exact h.more, by rw [h3]; exact h.br, by rw [h3]; exact h.bs⟩
section
variable (v0 : List GVar) (v1 : List GNode) (v2 : List GVar) (f : GFun) (v5 : List UInt8) (v6 v7 v8 : Int) (v9 : Bool) (v10 : List UInt8) (v11 v12 v13 : Int) (v14 : Bool)
theorem nodeStep (tl nl N : List Int) (acc : List GNode) (len i : Int) (x : Int) (n : GNode) (hi : i < len) (hx : Sy.at' N i = some x) (hn : Sy.at' (fCode f) x = some n) (hin : Inside tl nl n) (ha : acc.length ≤ 1000) :
    rename_Normal_L2 v0 v1 v2 acc f v5 v6 v7 v8 v9 v10 v11 v12 v13 v14 tl nl N len i = rename_Normal_L2 v0 v1 v2 (acc ++ [tr tl nl n]) f v5 v6 v7 v8 v9 v10 v11 v12 v13 v14 tl nl N len (Ev.wr .i64 (i + 1)) := by
  have hs := hin.small
  have hbr := hs.br
  rw [rename_Normal_L2_eq, cond_dt hi, hx, bind_some', show Sy.at' f.2.2.2.2.1 x = some n from hn, bind_some', j1 nl n hs, bind_some']
  have g1 : ∀ (b : Bool) (l : List Int), (if b = true then l else l.map (numOf nl)).length = l.length := fun b l => by split <;> simp
  have s1 : SmallN (n.1, (n.2.1, (if isBare (nOp n) = true then nArgs n else (nArgs n).map (numOf nl), (n.2.2.2.1, (n.2.2.2.2.1, (n.2.2.2.2.2.1, (if isBare (nOp n) = true then nMore n else (nMore n).map (numOf nl), n.2.2.2.2.2.2.2))))))) :=
    small_mono hs (g1 _ _) (g1 _ _) rfl
  rw [j2 nl _ s1 hin.var, bind_some']
  have s2 : SmallN (n.1, (if nOp n ≠ 9 ∧ fBinds (nOp n) = true then numOf nl (nVar n) else nVar n, (if isBare (nOp n) = true then nArgs n else (nArgs n).map (numOf nl), (n.2.2.2.1, (n.2.2.2.2.1, (n.2.2.2.2.2.1, (if isBare (nOp n) = true then nMore n else (nMore n).map (numOf nl), n.2.2.2.2.2.2.2))))))) :=
    small_mono hs (g1 _ _) (g1 _ _) rfl
  rw [j3 tl _ s2 hin.next, bind_some']
  simp only
  by_cases h9 : n.1 = 9
  · rw [cond_dt h9]
    rw [show rename_Normal_L4 v0 v1 v2 acc ([] : List GBranch) f v5 v6 v7 v8 v9 v10 v11 v12 v13 v14 n.1 _ _ n.2.2.2.1 n.2.2.2.2.1 n.2.2.2.2.2.1 _ n.2.2.2.2.2.2.2.1 _ tl nl N len i n.2.2.2.2.2.2.2.2.1 (n.2.2.2.2.2.2.2.2.1.length : Int) (0 : Int) = some ([] ++ (nBr n).map (trBr tl nl)) from branchL v0 v1 v2 acc f v5 v6 v7 v8 v9 v10 v11 v12 v13 v14 _ _ _ _ _ _ _ _ _ _ _ _ tl nl (nBr n) (by omega) (fun b hb => Nat.le_trans (hs.bs b hb) (by decide)) (hin.br h9) (nBr n) [] [] rfl (by simp)]
    simp only [bind_some']
    obtain ⟨z, hz⟩ := j5 (n.1, (if nOp n ≠ 9 ∧ fBinds (nOp n) = true then numOf nl (nVar n) else nVar n, (if isBare (nOp n) = true then nArgs n else (nArgs n).map (numOf nl), (n.2.2.2.1, (n.2.2.2.2.1, (n.2.2.2.2.2.1, (if isBare (nOp n) = true then nMore n else (nMore n).map (numOf nl), (n.2.2.2.2.2.2.2.1, (n.2.2.2.2.2.2.2.2.1, if nOp n ≠ 9 ∧ fNext (nOp n) = true then toOf tl (nNext n) else nNext n))))))))) (by rw [show ((nArgs _).length) = _ from g1 _ _]; exact Nat.le_trans hs.args (by decide)) (by rw [show ((nMore _).length) = _ from g1 _ _]; exact Nat.le_trans hs.more (by decide))
    simp only at hz
    rw [hz, bind_some']
    have e : tr tl nl n = (n.1, (if nOp n ≠ 9 ∧ fBinds (nOp n) = true then numOf nl (nVar n) else nVar n, (if isBare (nOp n) = true then nArgs n else (nArgs n).map (numOf nl), (n.2.2.2.1, (n.2.2.2.2.1, (n.2.2.2.2.2.1, (if isBare (nOp n) = true then nMore n else (nMore n).map (numOf nl), (n.2.2.2.2.2.2.2.1, ([] ++ (nBr n).map (trBr tl nl), if nOp n ≠ 9 ∧ fNext (nOp n) = true then toOf tl (nNext n) else nNext n))))))))) := by
      unfold tr
      rw [if_pos (show nOp n = 9 from h9)]
      rfl
    rw [e]
    cases z with
    | inl _ => simp only; rw [cond_dt (by omega)]
    | inr _ => simp only; rw [cond_dt (by omega)]
  · rw [cond_df h9, cloned_spec n.2.2.2.2.2.2.2.2.1 (Nat.le_trans hbr (by decide)) (fun b hb => Nat.le_trans (hs.bs b hb) (by decide)), bind_some', bind_some']
    simp only
    obtain ⟨z, hz⟩ := j5 (n.1, (if nOp n ≠ 9 ∧ fBinds (nOp n) = true then numOf nl (nVar n) else nVar n, (if isBare (nOp n) = true then nArgs n else (nArgs n).map (numOf nl), (n.2.2.2.1, (n.2.2.2.2.1, (n.2.2.2.2.2.1, (if isBare (nOp n) = true then nMore n else (nMore n).map (numOf nl), (n.2.2.2.2.2.2.2.1, (n.2.2.2.2.2.2.2.2.1, if nOp n ≠ 9 ∧ fNext (nOp n) = true then toOf tl (nNext n) else nNext n))))))))) (by rw [show ((nArgs _).length) = _ from g1 _ _]; exact Nat.le_trans hs.args (by decide)) (by rw [show ((nMore _).length) = _ from g1 _ _]; exact Nat.le_trans hs.more (by decide))
    simp only at hz
    rw [hz, bind_some']
    have e : tr tl nl n = (n.1, (if nOp n ≠ 9 ∧ fBinds (nOp n) = true then numOf nl (nVar n) else nVar n, (if isBare (nOp n) = true then nArgs n else (nArgs n).map (numOf nl), (n.2.2.2.1, (n.2.2.2.2.1, (n.2.2.2.2.2.1, (if isBare (nOp n) = true then nMore n else (nMore n).map (numOf nl), (n.2.2.2.2.2.2.2.1, (n.2.2.2.2.2.2.2.2.1, if nOp n ≠ 9 ∧ fNext (nOp n) = true then toOf tl (nNext n) else nNext n))))))))) := by
      unfold tr
      rw [if_neg (show ¬ nOp n = 9 from h9)]
    rw [e]
    cases z with
    | inl _ => simp only; rw [cond_dt (by omega)]
    | inr _ => simp only; rw [cond_dt (by omega)]
end
end Go.Proofs.Ytkecfadnfnnfaaa.LabA
/- RenameSettles, of the models: the normal form of a function. -/
set_option linter.unusedVariables false
set_option linter.unusedSimpArgs false
namespace Go.Proofs.Ytkecfadnfnnfaaa.LabA
open Go Go.Ev Go.Sy

def pickV (vs : List GVar) (is : List Int) : List GVar := is.map fun v => (vs[v.toNat]?).getD (0, false)
def codeAt (f : GFun) (x : Int) : GNode := ((fCode f)[x.toNat]?).getD default
/-- The normal form. -/
def nf (f : GFun) (N V tl nl : List Int) : GFun := (f.1, (fPar f, (f.2.2.1, ((fVars f).take (fPar f).toNat ++ pickV (fVars f) V, (N.map fun x => tr tl nl (codeAt f x), ((0 : Int), fExt f))))))
section
variable (v0 : List GVar) (v1 : List GNode) (v3 : List GNode) (f : GFun) (v5 : List UInt8) (v6 v7 v8 : Int) (v9 : Bool) (v10 : List UInt8) (v11 v12 v13 : Int) (v14 : Bool) (v15 : List Int)
theorem varsL (V : List Int) (hl : V.length ≤ 1000) (hr : ∀ v ∈ V, 0 ≤ v ∧ v < ((fVars f).length : Int)) : ∀ (r pre : List Int) (acc : List GVar), V = pre ++ r → acc.length ≤ 1000 + pre.length →
    rename_Normal_L0 v0 v1 acc v3 f v5 v6 v7 v8 v9 v10 v11 v12 v13 v14 v15 V (V.length : Int) (pre.length : Int) = some (acc ++ pickV (fVars f) r) := by
  intro r
  induction r with
  | nil =>
    intro pre acc h ha
    rw [rename_Normal_L0_eq]
    subst h
    rw [cond_f (lt_end pre)]
    simp [pickV]
  | cons x r ih =>
    intro pre acc h ha
    rw [rename_Normal_L0_eq]
    subst h
    have hp : (pre ++ x :: r).length = pre.length + (r.length + 1) := by simp
    obtain ⟨h0, h1⟩ := hr x (by simp)
    obtain ⟨w, hw, hw'⟩ := at_lt (l := fVars f) (i := x) h0 h1
    rw [cond_t (lt_mid pre x r), at_mid, bind_some', show Sy.at' f.2.2.2.1 x = some w from hw, bind_some', cond_dt (by omega), wr_mid (pre := pre) (x := x) (r := r) (by omega), ih (pre ++ [x]) (acc ++ [w]) (app_mid ..) (by simp; omega)]
    simp [pickV, hw']
theorem codeL (v2 : List GVar) (tl nl N : List Int) (hl : N.length ≤ 1000) (hr : ∀ x ∈ N, (0 ≤ x ∧ x < ((fCode f).length : Int)) ∧ Inside tl nl (codeAt f x)) : ∀ (r pre : List Int) (acc : List GNode), N = pre ++ r → acc.length ≤ pre.length →
    rename_Normal_L2 v0 v1 v2 acc f v5 v6 v7 v8 v9 v10 v11 v12 v13 v14 tl nl N (N.length : Int) (pre.length : Int) = some (acc ++ r.map fun x => tr tl nl (codeAt f x)) := by
  intro r
  induction r with
  | nil =>
    intro pre acc h ha
    rw [rename_Normal_L2_eq]
    subst h
    rw [cond_f (lt_end pre)]
    simp
  | cons x r ih =>
    intro pre acc h ha
    subst h
    have hp : (pre ++ x :: r).length = pre.length + (r.length + 1) := by simp
    obtain ⟨⟨h0, h1⟩, hin⟩ := hr x (by simp)
    obtain ⟨w, hw, hw'⟩ := at_lt (l := fCode f) (i := x) h0 h1
    have hwc : codeAt f x = w := by unfold codeAt; rw [hw']; rfl
    rw [nodeStep v0 v1 v2 f v5 v6 v7 v8 v9 v10 v11 v12 v13 v14 tl nl (pre ++ x :: r) acc _ (pre.length : Int) x w (by rw [hp]; omega) (at_mid pre x r) hw (hwc ▸ hin) (by omega)]
    rw [wr_mid (pre := pre) (x := x) (r := r) (by omega), ih (pre ++ [x]) (acc ++ [tr tl nl w]) (app_mid ..) (by simp; omega)]
    simp [hwc]
end
theorem normal_spec (f : GFun) (hf : Small f) {N V tl nl : List Int} (h : shapedS f = some (N, V)) (hm : rename_Maps f = some (tl, nl, 0)) (hmo : MapsOk f N V tl nl) : rename_Normal f = some (nf f N V tl nl, 0) := by
  have hc := hf.code
  have hv := hf.vars
  have sh := shapedS_sh h
  obtain ⟨a, b, k, hs1, hs2⟩ := shaped_spec f hf
  rw [h] at hs2
  simp only [Prod.mk.injEq] at hs2
  obtain ⟨⟨rfl, rfl⟩, rfl⟩ := hs2
  have hp0 := sh.par0
  have hp1 := sh.par1
  have hNl := sh.nl
  have hVl := sh.vl
  have hVr : ∀ x ∈ b, 0 ≤ x ∧ x < ((fVars f).length : Int) := fun x hx => ⟨by have := (sh.vg x hx).1; omega, (sh.vg x hx).2⟩
  have hNr : ∀ x ∈ a, (0 ≤ x ∧ x < ((fCode f).length : Int)) ∧ Inside tl nl (codeAt f x) := fun x hx => by
    have hg := sh.ng x hx
    obtain ⟨n, hn, hin⟩ := inside_of hf hmo hg
    refine ⟨⟨hg.1, hg.2.1⟩, ?_⟩
    unfold codeAt
    rw [hn]
    exact hin
  have htk : ((fVars f).take (fPar f).toNat).length ≤ 1000 + (([] : List Int)).length := by rw [List.length_take]; simp only [List.length_nil]; omega
  rw [rename_Normal_eq, hs1, bind_some']
  simp only [cond_true]
  rw [cond_df (show ¬ f.2.1 < 0 from by have : 0 ≤ f.2.1 := hp0; omega), cond_df (show ¬ (f.2.2.2.1.length : Int) < f.2.1 from by have : f.2.1 ≤ (f.2.2.2.1.length : Int) := hp1; omega)]
  rw [cond_dt (show (List.take f.2.1.toNat f.2.2.2.1).length * 16 ≤ 35184372088832 from by have : (List.take f.2.1.toNat f.2.2.2.1).length ≤ 1000 + (([] : List Int)).length := htk; simp only [List.length_nil] at this; omega)]
  rw [show rename_Normal_L0 ([] : List GVar) ([] : List GNode) (List.take f.2.1.toNat f.2.2.2.1) ([] : List GNode) f ([] : List UInt8) (0 : Int) (0 : Int) (0 : Int) false f.1 f.2.1 f.2.2.1 (0 : Int) f.2.2.2.2.2.2 a b (b.length : Int) (0 : Int) = some ((fVars f).take (fPar f).toNat ++ pickV (fVars f) b) from
    varsL _ _ _ f _ _ _ _ _ _ _ _ _ _ a b (by omega) hVr b [] _ rfl htk, bind_some', hm, bind_some']
  simp only
  rw [show rename_Normal_L2 ([] : List GVar) ([] : List GNode) ((fVars f).take (fPar f).toNat ++ pickV (fVars f) b) ([] : List GNode) f ([] : List UInt8) (0 : Int) (0 : Int) (0 : Int) false f.1 f.2.1 f.2.2.1 (0 : Int) f.2.2.2.2.2.2 tl nl a (a.length : Int) (0 : Int) = some ([] ++ a.map fun x => tr tl nl (codeAt f x)) from
    codeL _ _ f _ _ _ _ _ _ _ _ _ _ _ tl nl a (by omega) hNr a [] [] rfl (by simp), bind_some']
  rfl
theorem normal_none (f : GFun) (hf : Small f) (h : shapedS f = none) : ∃ a, rename_Normal f = some (a, 3) ∧ (fCode a).length = 0 ∧ (fVars a).length = 0 := by
  obtain ⟨a, b, k, hs1, hs2⟩ := shaped_spec f hf
  rw [h] at hs2
  simp only at hs2
  subst hs2
  rw [rename_Normal_eq, hs1, bind_some']
  simp only [cond_false]
  exact ⟨_, rfl, rfl, rfl⟩
end Go.Proofs.Ytkecfadnfnnfaaa.LabA
/- RenameSettles, of the models: the visit of a normal form. -/
set_option linter.unusedVariables false
set_option linter.unusedSimpArgs false
namespace Go.Proofs.Ytkecfadnfnnfaaa.LabA
open Go Go.Ev Go.Sy

theorem small_tr (tl nl : List Int) {n : GNode} (h : SmallN n) : SmallN (tr tl nl n) := by
  have h1 : (nArgs (tr tl nl n)).length = (nArgs n).length := by
    show (if isBare (nOp n) = true then nArgs n else (nArgs n).map (numOf nl)).length = _
    split <;> simp
  have h2 : (nMore (tr tl nl n)).length = (nMore n).length := by
    show (if isBare (nOp n) = true then nMore n else (nMore n).map (numOf nl)).length = _
    split <;> simp
  have h3 : nBr (tr tl nl n) = if nOp n = 9 then (nBr n).map (trBr tl nl) else nBr n := rfl
  refine ⟨by rw [h1]; exact h.args, by rw [h2]; exact h.more, ?_, ?_⟩
  · rw [h3]
    split
    · rw [List.length_map]; exact h.br
    · exact h.br
  · rw [h3]
    split
    · intro b hb
      simp only [List.mem_map] at hb
      obtain ⟨c, hc, rfl⟩ := hb
      show (c.1.map (numOf nl)).length ≤ 12
      rw [List.length_map]
      exact h.bs c hc
    · exact h.bs
theorem kb_tr (tl nl : List Int) (n : GNode) : kb (tr tl nl n) = (kb n).map fun p => (toOf tl p.1, p.2.map (numOf nl)) := by
  have ho : nOp (tr tl nl n) = nOp n := rfl
  have h3 : nBr (tr tl nl n) = if nOp n = 9 then (nBr n).map (trBr tl nl) else nBr n := rfl
  have h4 : nNext (tr tl nl n) = if nOp n ≠ 9 ∧ fNext (nOp n) = true then toOf tl (nNext n) else nNext n := rfl
  have h5 : nVar (tr tl nl n) = if nOp n ≠ 9 ∧ fBinds (nOp n) = true then numOf nl (nVar n) else nVar n := rfl
  unfold kb kids binds
  rw [ho, h3, h4, h5]
  by_cases h9 : nOp n = 9
  · simp only [if_pos h9, List.map_map]
    rfl
  · simp only [if_neg h9]
    cases hn : fNext (nOp n) with
    | false => simp
    | true =>
      cases hb : fBinds (nOp n) with
      | false => simp [h9]
      | true => simp [h9]
theorem uses_tr (tl nl : List Int) (n : GNode) (h : ∀ v ∈ uses n, 0 ≤ numOf nl v) : uses (tr tl nl n) = (uses n).map (numOf nl) := by
  have ho : nOp (tr tl nl n) = nOp n := rfl
  have h1 : nArgs (tr tl nl n) = if isBare (nOp n) = true then nArgs n else (nArgs n).map (numOf nl) := rfl
  have h2 : nMore (tr tl nl n) = if isBare (nOp n) = true then nMore n else (nMore n).map (numOf nl) := rfl
  unfold uses at h ⊢
  rw [ho, h1, h2]
  by_cases hb : nOp n < 0 ∨ 10 ≤ nOp n ∨ nOp n = 1
  · simp [hb]
  · have hbare : ¬ isBare (nOp n) = true := by simp only [isBare, decide_eq_true_eq]; omega
    rw [if_neg hb] at h
    rw [if_neg hb, if_neg hb, if_neg hbare, if_neg hbare]
    by_cases h8 : nOp n = 8
    · rw [if_pos h8] at h
      rw [if_pos h8, if_pos h8, ← List.map_append]
      generalize nArgs n ++ nMore n = l at h
      induction l with
      | nil => rfl
      | cons v l ih =>
        by_cases hv : 0 ≤ v
        · have h0 : 0 ≤ numOf nl v := h v (by rw [List.filter_cons_of_pos (by simpa using hv)]; simp)
          rw [List.filter_cons_of_pos (by simpa using hv), List.map_cons, List.map_cons, List.filter_cons_of_pos (by simpa using h0), ih fun w hw => h w (by rw [List.filter_cons_of_pos (by simpa using hv)]; simp [hw])]
        · have h0 : numOf nl v = v := by rw [numOf, if_neg (by omega)]
          rw [List.filter_cons_of_neg (by simpa using hv), List.map_cons, h0, List.filter_cons_of_neg (by simpa using hv), ih fun w hw => h w (by rw [List.filter_cons_of_neg (by simpa using hv)]; exact hw)]
    · rw [if_neg h8, if_neg h8]

def idn (k : Nat) : List Int := (List.range k).map fun i : Nat => (i : Int)
def idv (p k : Nat) : List Int := (List.range k).map fun i : Nat => ((p + i : Nat) : Int)
theorem idn_succ (k : Nat) : idn (k + 1) = idn k ++ [(k : Int)] := by simp [idn, List.range_succ]
theorem idv_succ (p k : Nat) : idv p (k + 1) = idv p k ++ [((p + k : Nat) : Int)] := by simp [idv, List.range_succ]

/-! ### Numbers of a well-shaped function -/
def InV (f : GFun) (V : List Int) (v : Int) : Prop := (0 ≤ v ∧ v < fPar f) ∨ v ∈ V
section
variable {f : GFun} {N V tl nl : List Int} (sh : Sh f N V) (hm : MapsOk f N V tl nl)
include sh
theorem inV_rng {v : Int} (h : InV f V v) : 0 ≤ v ∧ v < ((fVars f).length : Int) := by
  have h0 := sh.par0
  have h1 := sh.par1
  rcases h with h | h
  · omega
  · have := sh.vg v h
    omega
include hm
theorem num_par {v : Int} (h0 : 0 ≤ v) (h1 : v < fPar f) : numOf nl v = v := by
  have hp1 := sh.par1
  have hl := hm.nlen
  have := hm.par v.toNat (by omega)
  rw [numOf, if_pos ⟨h0, by omega⟩, List.getD_eq_getElem?_getD, this]
  show ((v.toNat : Nat) : Int) = v
  omega
theorem num_V {j : Nat} {v : Int} (h : V[j]? = some v) : numOf nl v = fPar f + (j : Int) := by
  have hr := inV_rng sh (.inr (List.mem_of_getElem? h))
  have hl := hm.nlen
  rw [numOf, if_pos ⟨hr.1, by omega⟩, List.getD_eq_getElem?_getD, hm.num j v h]
  rfl
omit sh in
theorem to_N {j : Nat} {x : Int} (h : N[j]? = some x) : toOf tl x = (j : Int) := by
  rw [toOf, List.getD_eq_getElem?_getD, hm.to j x h]
  rfl
theorem num_rng {v : Int} (h : InV f V v) : 0 ≤ numOf nl v ∧ numOf nl v < (((fPar f).toNat + V.length : Nat) : Int) := by
  have h0 := sh.par0
  rcases h with h | h
  · rw [num_par sh hm h.1 h.2]; omega
  · obtain ⟨j, hj⟩ := List.getElem?_of_mem h
    have hlt : j < V.length := by
      rw [List.getElem?_eq_some_iff] at hj
      exact hj.1
    rw [num_V sh hm hj]; omega
theorem num_inj {v w : Int} (h : InV f V v) (h' : InV f V w) (he : numOf nl v = numOf nl w) : v = w := by
  have h0 := sh.par0
  rcases h with h | h <;> rcases h' with h' | h'
  · rw [num_par sh hm h.1 h.2, num_par sh hm h'.1 h'.2] at he
    exact he
  · obtain ⟨j, hj⟩ := List.getElem?_of_mem h'
    rw [num_par sh hm h.1 h.2, num_V sh hm hj] at he
    omega
  · obtain ⟨j, hj⟩ := List.getElem?_of_mem h
    rw [num_par sh hm h'.1 h'.2, num_V sh hm hj] at he
    omega
  · obtain ⟨j, hj⟩ := List.getElem?_of_mem h
    obtain ⟨i, hi⟩ := List.getElem?_of_mem h'
    rw [num_V sh hm hj, num_V sh hm hi] at he
    have : j = i := by omega
    subst this
    rw [hj] at hi
    simpa using hi

/-! ### Scopes -/
omit sh hm in
structure ScSim (f : GFun) (V nl : List Int) (sc sct : List Bool) : Prop where
  len : sc.length = (fVars f).length
  lent : sct.length = (fPar f).toNat + V.length
  at_ : ∀ v, InV f V v → sct[(numOf nl v).toNat]? = sc[v.toNat]?
  inv : ∀ v, 0 ≤ v → sc[v.toNat]? = some true → InV f V v
theorem scsim_set {v : Int} (h : InV f V v) (b : Bool) {sc sct : List Bool} (q : ScSim f V nl sc sct) : ScSim f V nl (sc.set v.toNat b) (sct.set (numOf nl v).toNat b) := by
  have hr := inV_rng sh h
  have hn := num_rng sh hm h
  have hl := q.len
  have hlt := q.lent
  refine ⟨by simp [q.len], by simp [q.lent], fun w hw => ?_, fun w h0 hw => ?_⟩
  · by_cases he : v = w
    · subst he
      rw [List.getElem?_set, if_pos rfl, if_pos (by omega), List.getElem?_set, if_pos rfl, if_pos (by omega)]
    · have hr' := inV_rng sh hw
      have hn' := num_rng sh hm hw
      have hne : numOf nl v ≠ numOf nl w := fun h' => he (num_inj sh hm h hw h')
      rw [List.getElem?_set, if_neg (toNat_ne hn.1 hn'.1 hne), List.getElem?_set, if_neg (toNat_ne hr.1 hr'.1 he)]
      exact q.at_ w hw
  · by_cases he : v = w
    · exact he ▸ h
    · rw [List.getElem?_set, if_neg (toNat_ne hr.1 h0 he)] at hw
      exact q.inv w h0 hw
theorem leave_sim : ∀ (l : List Int) (sc sct : List Bool), (∀ v ∈ l, InV f V v) → ScSim f V nl sc sct → ScSim f V nl (leaveS l sc) (leaveS (l.map (numOf nl)) sct)
  | [], sc, sct, h, q => q
  | v :: l, sc, sct, h, q => leave_sim l _ _ (fun w hw => h w (by simp [hw])) (scsim_set sh hm (h v (by simp)) false q)
theorem usesOk_sim {sc sct : List Bool} (q : ScSim f V nl sc sct) {l : List Int} (h : usesOk (fVars f).length sc l = true) : (∀ v ∈ l, InV f V v) ∧ usesOk ((fPar f).toNat + V.length) sct (l.map (numOf nl)) = true := by
  unfold usesOk at h ⊢
  rw [List.all_eq_true] at h
  have hi : ∀ v ∈ l, InV f V v := fun v hv => by
    have := h v hv
    simp only [decide_eq_true_eq] at this
    exact q.inv v this.1 this.2.2
  refine ⟨hi, ?_⟩
  rw [List.all_eq_true]
  intro w hw
  simp only [List.mem_map] at hw
  obtain ⟨v, hv, rfl⟩ := hw
  have hr := num_rng sh hm (hi v hv)
  have := h v hv
  simp only [decide_eq_true_eq] at this ⊢
  exact ⟨hr.1, hr.2, by rw [q.at_ v (hi v hv)]; exact this.2.2⟩
theorem bind_sim : ∀ (l : List Int) (bo sc bo' sc' : List Bool) (va va' : List Int) (sct : List Bool), bindS (fVars f).length l (bo, sc, va) = some (bo', sc', va') → (∃ u, V = va' ++ u) → ScSim f V nl sc sct →
    ∃ sct', bindS ((fPar f).toNat + V.length) (l.map (numOf nl)) (ini ((fPar f).toNat + va.length) ((fPar f).toNat + V.length), sct, idv (fPar f).toNat va.length) = some (ini ((fPar f).toNat + va'.length) ((fPar f).toNat + V.length), sct', idv (fPar f).toNat va'.length) ∧ ScSim f V nl sc' sct'
  | [], bo, sc, bo', sc', va, va', sct, h, hu, q => by
    simp only [bindS, Option.some.injEq, Prod.mk.injEq] at h
    obtain ⟨rfl, rfl, rfl⟩ := h
    exact ⟨sct, rfl, q⟩
  | v :: l, bo, sc, bo', sc', va, va', sct, h, hu, q => by
    simp only [bindS] at h
    cases hmk : mark (fVars f).length bo v with
    | none => rw [hmk] at h; cases h
    | some b =>
      rw [hmk] at h
      simp only at h
      obtain ⟨h0, h1, h2, rfl⟩ := mark_some hmk
      obtain ⟨k1, k2, k3, k4, k5⟩ := bindS_props h
      obtain ⟨u, hu⟩ := hu
      have hp0 := sh.par0
      have hV : V = va ++ v :: (l ++ u) := by rw [hu, k3]; simp
      have hVl : V.length = va.length + ((l ++ u).length + 1) := by rw [hV]; simp
      have hj : V[va.length]? = some v := by rw [hV, List.getElem?_append_right (Nat.le_refl _)]; simp
      have hin : InV f V v := .inr (List.mem_of_getElem? hj)
      have hnum : numOf nl v = (((fPar f).toNat + va.length : Nat) : Int) := by rw [num_V sh hm hj]; omega
      obtain ⟨sct', e1, e2⟩ := bind_sim l _ _ _ _ _ _ (sct.set (numOf nl v).toNat true) h ⟨u, hu⟩ (scsim_set sh hm hin true q)
      refine ⟨sct', ?_, e2⟩
      rw [List.map_cons, bindS, mark, hnum, Int.toNat_natCast, if_pos ⟨by omega, by omega, by rw [ini_at (by omega) (by omega)]; simp⟩]
      simp only
      rw [ini_set (by omega)]
      rw [hnum, Int.toNat_natCast] at e1
      rw [show (va ++ [v]).length = va.length + 1 by simp, idv_succ, show (fPar f).toNat + (va.length + 1) = (fPar f).toNat + va.length + 1 by omega] at e1
      exact e1
end
end Go.Proofs.Ytkecfadnfnnfaaa.LabA
/- RenameSettles, of the models: the normal form is visited in order. -/
set_option linter.unusedVariables false
set_option linter.unusedSimpArgs false
namespace Go.Proofs.Ytkecfadnfnnfaaa.LabA
open Go Go.Ev Go.Sy

structure Sim (f : GFun) (N V nl : List Int) (c : Nat) (s t : S) : Prop where
  nodes : t.nodes = idn s.nodes.length
  re : t.re = ini c N.length
  bo : t.bo = ini ((fPar f).toNat + s.va.length) ((fPar f).toNat + V.length)
  va : t.va = idv (fPar f).toNat s.va.length
  sc : ScSim f V nl s.sc t.sc
theorem vis_first {f : GFun} {d : Nat} {s s' : S} {k : Int} (hw : Wf f s) (h : vis f d s k = some s') : ∃ r, s'.nodes = s.nodes ++ k :: r := by
  cases d with
  | zero => simp [vis] at h
  | succ d =>
    simp only [vis] at h
    cases hn : (fCode f)[k.toNat]? with
    | none => rw [hn] at h; cases h
    | some n =>
      rw [hn] at h
      simp only at h
      split at h
      · obtain ⟨r, hr⟩ := (visL_kept f (vis f d) (vis_kept f d) (kb n) ⟨s.nodes ++ [k], s.sc, s.re, s.bo, s.va⟩ s' ⟨hw.re, hw.bo, hw.sc⟩ h).pre
        exact ⟨r, by rw [hr]; simp⟩
      · cases h
section
variable {f a : GFun} {N V tl nl : List Int} (sh : Sh f N V) (hm : MapsOk f N V tl nl)
  (hal : (fCode a).length = N.length) (hav : (fVars a).length = (fPar f).toNat + V.length)
  (hac : ∀ (j : Nat) (x : Int) (n : GNode), N[j]? = some x → (fCode f)[x.toNat]? = some n → (fCode a)[j]? = some (tr tl nl n))
include sh hm hal hav
theorem visL_sim (gf ga : S → Int → Option S) (hgk : ∀ s x s', Wf f s → gf s x = some s' → Kept f s s' 1) (hgf : ∀ s x s', Wf f s → gf s x = some s' → ∃ r, s'.nodes = s.nodes ++ x :: r)
    (hg : ∀ s x s' t, Wf f s → gf s x = some s' → (∃ r, N = s'.nodes ++ r) → (∃ u, V = s'.va ++ u) → Sim f N V nl (s.nodes.length + 1) s t → ∃ t', ga t (s.nodes.length : Int) = some t' ∧ Sim f N V nl s'.nodes.length s' t') :
    ∀ (q : List (Int × List Int)) (s s' t : S), Wf f s → visL f gf q s = some s' → (∃ r, N = s'.nodes ++ r) → (∃ u, V = s'.va ++ u) → Sim f N V nl s.nodes.length s t →
    ∃ t', visL a ga (q.map fun p => (toOf tl p.1, p.2.map (numOf nl))) t = some t' ∧ Sim f N V nl s'.nodes.length s' t'
  | [], s, s', t, hw, h, hN, hV, q => by
    simp only [visL, Option.some.injEq] at h
    subst h
    exact ⟨t, rfl, q⟩
  | (k, l) :: r, s, s', t, hw, h, hN, hV, q => by
    simp only [visL] at h
    cases hmk : mark (fCode f).length s.re k with
    | none => rw [hmk] at h; cases h
    | some re =>
      rw [hmk] at h
      simp only at h
      cases hb : bindS (fVars f).length l (s.bo, s.sc, s.va) with
      | none => rw [hb] at h; cases h
      | some z =>
        obtain ⟨bo, sc, va⟩ := z
        rw [hb] at h
        simp only at h
        cases hv : gf ⟨s.nodes, sc, re, bo, va⟩ k with
        | none => rw [hv] at h; cases h
        | some s2 =>
          rw [hv] at h
          simp only at h
          obtain ⟨h0, h1, h2, rfl⟩ := mark_some hmk
          obtain ⟨k1, k2, k3, k4, k5⟩ := bindS_props hb
          have w1 : Wf f ⟨s.nodes, sc, s.re.set k.toNat true, bo, va⟩ := ⟨by simp [hw.re], by rw [k1, hw.bo], by rw [k2, hw.sc]⟩
          have kq := hgk _ _ _ w1 hv
          have w2 : Wf f ⟨s2.nodes, leaveS l s2.sc, s2.re, s2.bo, s2.va⟩ := ⟨kq.wf.re, kq.wf.bo, by rw [leaveS_len]; exact kq.wf.sc⟩
          obtain ⟨r1, hr1⟩ := hgf _ _ _ w1 hv
          have K := visL_kept f gf hgk r _ _ w2 h
          obtain ⟨r2, hr2⟩ := K.pre
          obtain ⟨u2, hu2⟩ := K.prev
          obtain ⟨u1, hu1⟩ := kq.prev
          obtain ⟨rN, hN'⟩ := hN
          obtain ⟨uV, hV'⟩ := hV
          simp only at hr1 hr2 hu1 hu2
          have eN : N = s.nodes ++ k :: (r1 ++ r2 ++ rN) := by rw [hN', hr2, hr1]; simp
          have hNj : N[s.nodes.length]? = some k := by rw [eN, List.getElem?_append_right (Nat.le_refl _)]; simp
          have hNl : s.nodes.length < N.length := by rw [eN]; simp
          obtain ⟨sct, b1, b2⟩ := bind_sim sh hm l s.bo s.sc bo sc s.va va t.sc hb ⟨u1 ++ u2 ++ uV, by rw [hV', hu2, hu1]; simp⟩ q.sc
          obtain ⟨t2, g1, g2⟩ := hg ⟨s.nodes, sc, s.re.set k.toNat true, bo, va⟩ k s2 ⟨t.nodes, sct, ini (s.nodes.length + 1) N.length, ini ((fPar f).toNat + va.length) ((fPar f).toNat + V.length), idv (fPar f).toNat va.length⟩ w1 hv
            ⟨r2 ++ rN, by rw [hN', hr2]; simp⟩ ⟨u2 ++ uV, by rw [hV', hu2]; simp⟩ ⟨q.nodes, rfl, rfl, rfl, b2⟩
          simp only at g1
          have hlin : ∀ v ∈ l, InV f V v := fun v hv => .inr (by rw [hV', hu2, hu1, k3]; simp [hv])
          obtain ⟨t', e1, e2⟩ := visL_sim gf ga hgk hgf hg r ⟨s2.nodes, leaveS l s2.sc, s2.re, s2.bo, s2.va⟩ s' ⟨t2.nodes, leaveS (l.map (numOf nl)) t2.sc, t2.re, t2.bo, t2.va⟩ w2 h ⟨rN, hN'⟩ ⟨uV, hV'⟩
            ⟨g2.nodes, g2.re, g2.bo, g2.va, leave_sim sh hm l _ _ hlin g2.sc⟩
          refine ⟨t', ?_, e2⟩
          rw [List.map_cons, visL, q.re, to_N hm hNj, mark, hal, Int.toNat_natCast, if_pos ⟨by omega, by omega, by rw [ini_at (by omega) hNl]; simp⟩]
          simp only
          rw [ini_set hNl, hav, q.bo, q.va, b1]
          simp only
          rw [g1]
          exact e1
include hac
theorem vis_sim : ∀ (d : Nat) (s : S) (x : Int) (s' t : S), Wf f s → vis f d s x = some s' → (∃ r, N = s'.nodes ++ r) → (∃ u, V = s'.va ++ u) → Sim f N V nl (s.nodes.length + 1) s t →
    ∃ t', vis a d t (s.nodes.length : Int) = some t' ∧ Sim f N V nl s'.nodes.length s' t'
  | 0, s, x, s', t, hw, h, hN, hV, q => by simp [vis] at h
  | d + 1, s, x, s', t, hw, h, hN, hV, q => by
    have hfst := vis_first hw h
    simp only [vis] at h
    cases hn : (fCode f)[x.toNat]? with
    | none => rw [hn] at h; cases h
    | some n =>
      rw [hn] at h
      simp only at h
      split at h
      · rename_i hu
        obtain ⟨r, hr⟩ := hfst
        obtain ⟨rN, hN'⟩ := hN
        have hNj : N[s.nodes.length]? = some x := by rw [hN', hr, List.append_assoc, List.getElem?_append_right (Nat.le_refl _)]; simp
        obtain ⟨hin, hu'⟩ := usesOk_sim sh hm q.sc hu
        obtain ⟨t', e1, e2⟩ := visL_sim sh hm hal hav (vis f d) (vis a d) (vis_kept f d) (fun s x s' hw h => vis_first hw h) (fun s x s' t hw h hN hV q => vis_sim d s x s' t hw h hN hV q)
          (kb n) ⟨s.nodes ++ [x], s.sc, s.re, s.bo, s.va⟩ s' ⟨t.nodes ++ [(s.nodes.length : Int)], t.sc, t.re, t.bo, t.va⟩ ⟨hw.re, hw.bo, hw.sc⟩ h ⟨rN, hN'⟩ hV
          ⟨by simp only [List.length_append, List.length_cons, List.length_nil]; rw [q.nodes, idn_succ], by simp only [List.length_append, List.length_cons, List.length_nil]; exact q.re, q.bo, q.va, q.sc⟩
        refine ⟨t', ?_, e2⟩
        rw [vis, Int.toNat_natCast, hac _ _ _ hNj hn]
        simp only
        rw [uses_tr tl nl n (fun v hv => (num_rng sh hm (hin v hv)).1), hav, if_pos hu', kb_tr]
        exact e1
      · cases h
end

/-! ### The normal form -/
theorem nf_len {f : GFun} {N V tl nl : List Int} (sh : Sh f N V) : (fCode (nf f N V tl nl)).length = N.length ∧ (fVars (nf f N V tl nl)).length = (fPar f).toNat + V.length := by
  have hp0 := sh.par0
  have hp1 := sh.par1
  constructor
  · show (N.map fun x => tr tl nl (codeAt f x)).length = _
    simp
  · show ((fVars f).take (fPar f).toNat ++ pickV (fVars f) V).length = _
    rw [List.length_append, List.length_take, pickV, List.length_map]
    omega
theorem nf_code {f : GFun} {N V tl nl : List Int} (j : Nat) (x : Int) (n : GNode) (h : N[j]? = some x) (hn : (fCode f)[x.toNat]? = some n) : (fCode (nf f N V tl nl))[j]? = some (tr tl nl n) := by
  show (N.map fun x => tr tl nl (codeAt f x))[j]? = _
  rw [List.getElem?_map, h]
  simp only [Option.map_some, codeAt, hn]
  rfl
theorem nf_small {f : GFun} (hf : Small f) {N V tl nl : List Int} (sh : Sh f N V) : Small (nf f N V tl nl) := by
  obtain ⟨h1, h2⟩ := nf_len (tl := tl) (nl := nl) sh
  have hc := hf.code
  have hv := hf.vars
  have hn := sh.nl
  have hw := sh.vl
  refine ⟨by omega, by omega, fun m hm => ?_⟩
  have hm' : m ∈ N.map fun x => tr tl nl (codeAt f x) := hm
  simp only [List.mem_map] at hm'
  obtain ⟨x, hx, rfl⟩ := hm'
  obtain ⟨_, _, n, hn, _⟩ := sh.ng x hx
  have : codeAt f x = n := by unfold codeAt; rw [hn]; rfl
  rw [this]
  exact small_tr tl nl (hf.nodes n (List.mem_of_getElem? hn))
theorem vis_fuel (f : GFun) (hf : Small f) (d d' : Nat) (s s' : S) (a : Int) (hw : Wf f s) (h0 : 0 ≤ a) (h1 : a < ((fCode f).length : Int)) (hd : cf s.re < d) (hd' : cf s.re < d') (hn : s.nodes.length + cf s.re < (fCode f).length) (hv : s.va.length + cf s.bo ≤ 1000)
    (h : vis f d s a = some s') : vis f d' s a = some s' := by
  obtain ⟨r, e1, e2⟩ := visit_spec f hf d s a hw h0 h1 hd hn hv
  obtain ⟨r', e1', e2'⟩ := visit_spec f hf d' s a hw h0 h1 hd' hn hv
  rw [e1] at e1'
  obtain rfl : r = r' := by simpa using e1'
  rw [h] at e2
  simp only [Agr] at e2
  subst e2
  cases hh : vis f d' s a with
  | none =>
    rw [hh] at e2'
    simp [Agr] at e2'
  | some z =>
    rw [hh] at e2'
    obtain ⟨z1, z2, z3, z4, z5⟩ := z
    obtain ⟨s1, s2, s3, s4, s5⟩ := s'
    simp only [Agr, Prod.mk.injEq] at e2'
    obtain ⟨rfl, rfl, rfl, rfl, rfl, _⟩ := e2'
    rfl
theorem nf_shaped {f : GFun} (hf : Small f) {N V tl nl : List Int} (h : shapedS f = some (N, V)) (hm : MapsOk f N V tl nl) : shapedS (nf f N V tl nl) = some (idn N.length, idv (fPar f).toNat V.length) := by
  have sh := shapedS_sh h
  have hsm := nf_small (tl := tl) (nl := nl) hf sh
  obtain ⟨l1, l2⟩ := nf_len (tl := tl) (nl := nl) sh
  have hp0 := sh.par0
  have hp1 := sh.par1
  have hvl := sh.vl
  have hnl := sh.nl
  have hc := hf.code
  have hv := hf.vars
  have epar : fPar (nf f N V tl nl) = fPar f := rfl
  have eext : fExt (nf f N V tl nl) = fExt f := rfl
  have ebody : fBody (nf f N V tl nl) = 0 := rfl
  unfold shapedS at h ⊢
  rw [if_neg (by omega)] at h
  rw [epar, if_neg (by omega), eext, ebody]
  split at h
  · rename_i he
    simp only [Option.some.injEq, Prod.mk.injEq] at h
    obtain ⟨rfl, rfl⟩ := h
    rw [if_pos he]
    rfl
  · rename_i he
    rw [if_neg he]
    split at h
    · cases h
    · rename_i re hmk
      split at h
      · cases h
      · rename_i s hvis
        simp only [Option.some.injEq, Prod.mk.injEq] at h
        obtain ⟨e1, e2⟩ := h
        obtain ⟨m0, m1, m2, rfl⟩ := mark_some hmk
        have hw : Wf f ⟨[], ini (fPar f).toNat (fVars f).length, (List.replicate (fCode f).length false).set (fBody f).toNat true, ini (fPar f).toNat (fVars f).length, []⟩ := ⟨by simp, ini_len (by omega), ini_len (by omega)⟩
        obtain ⟨r, hr⟩ := vis_first hw hvis
        have hN0 : 0 < N.length := by rw [← e1, hr]; simp
        have hsc : ScSim f V nl (ini (fPar f).toNat (fVars f).length) (ini (fPar f).toNat ((fPar f).toNat + V.length)) := by
          refine ⟨ini_len (by omega), ini_len (by omega), fun v hv => ?_, fun v h0 hv => ?_⟩
          · have hr := inV_rng sh hv
            have hn := num_rng sh hm hv
            rw [ini_at (by omega) (by omega), ini_at (by omega) (by omega)]
            congr 1
            rcases hv with hv | hv
            · rw [num_par sh hm hv.1 hv.2]
            · have hg := (sh.vg v hv).1
              obtain ⟨j, hj⟩ := List.getElem?_of_mem hv
              rw [num_V sh hm hj, decide_eq_false (by omega), decide_eq_false (by omega)]
          · have hlt : v.toNat < (fVars f).length := by
              have := (List.getElem?_eq_some_iff.mp hv).1
              rwa [ini_len (by omega)] at this
            rw [ini_at (by omega) hlt] at hv
            simp only [Option.some.injEq, decide_eq_true_eq] at hv
            exact .inl ⟨h0, by omega⟩
        have hsim : Sim f N V nl 1 ⟨[], ini (fPar f).toNat (fVars f).length, (List.replicate (fCode f).length false).set (fBody f).toNat true, ini (fPar f).toNat (fVars f).length, []⟩ ⟨[], ini (fPar f).toNat ((fPar f).toNat + V.length), ini 1 N.length, ini (fPar f).toNat ((fPar f).toNat + V.length), []⟩ :=
          ⟨rfl, rfl, rfl, rfl, hsc⟩
        obtain ⟨t', g1, g2⟩ := vis_sim sh hm l1 l2 (fun j x n h hn => nf_code j x n h hn) _ _ _ _ _ hw hvis ⟨[], by rw [e1]; simp⟩ ⟨[], by rw [e2]; simp⟩ hsim
        have g1' := vis_fuel (nf f N V tl nl) hsm _ (N.length + 1) _ t' _ ⟨by rw [l1]; exact ini_len (by omega), by rw [l2]; exact ini_len (by omega), by rw [l2]; exact ini_len (by omega)⟩ (by simp) (by simp; omega) (by simp only; rw [cf_ini]; omega) (by simp only; rw [cf_ini]; omega) (by simp only; rw [cf_ini, l1]; simp; omega) (by simp only; rw [cf_ini]; simp; omega) g1
        rw [l1, l2, ini0, mark, if_pos ⟨by omega, by omega, by rw [ini_at (by omega) (by simpa using hN0)]; rfl⟩]
        simp only
        rw [show ((0 : Int).toNat) = 0 from rfl, ini_set hN0]
        simp only [Nat.zero_add]
        have g1'' : vis (nf f N V tl nl) (N.length + 1) ⟨[], ini (fPar f).toNat ((fPar f).toNat + V.length), ini 1 N.length, ini (fPar f).toNat ((fPar f).toNat + V.length), []⟩ 0 = some t' := g1'
        rw [g1'']
        simp only [Option.some.injEq, Prod.mk.injEq]
        exact ⟨by rw [g2.nodes, e1], by rw [g2.va, e2]⟩
end Go.Proofs.Ytkecfadnfnnfaaa.LabA
/- RenameSettles, of the models: the normal form's own normal form. -/
set_option linter.unusedVariables false
set_option linter.unusedSimpArgs false
namespace Go.Proofs.Ytkecfadnfnnfaaa.LabA
open Go Go.Ev Go.Sy

theorem idn_at {k j : Nat} (h : j < k) : (idn k)[j]? = some (j : Int) := by
  rw [idn, List.getElem?_map, List.getElem?_range h]
  rfl
theorem idv_at {p k j : Nat} (h : j < k) : (idv p k)[j]? = some ((p + j : Nat) : Int) := by
  rw [idv, List.getElem?_map, List.getElem?_range h]
  rfl
theorem idn_len (k : Nat) : (idn k).length = k := by simp [idn]
theorem idv_len (p k : Nat) : (idv p k).length = k := by simp [idv]
theorem pickV_idv (vs : List GVar) (p k : Nat) (h : vs.length = p + k) : vs.take p ++ pickV vs (idv p k) = vs := by
  apply List.ext_getElem?
  intro i
  by_cases hi : i < p
  · rw [List.getElem?_append_left (by rw [List.length_take]; omega), List.getElem?_take, if_pos hi]
  · have hl : (vs.take p).length = p := by rw [List.length_take]; omega
    rw [List.getElem?_append_right (by omega), hl, pickV, List.getElem?_map]
    by_cases hk : i - p < k
    · rw [idv_at hk]
      have hlt : i < vs.length := by omega
      have e : vs[i]? = some vs[i] := List.getElem?_eq_getElem hlt
      rw [Option.map_some, Int.toNat_natCast, show p + (i - p) = i by omega, e]
      rfl
    · rw [List.getElem?_eq_none (by rw [idv_len]; omega), List.getElem?_eq_none (by omega)]
      rfl
theorem map_eq_self {α : Type} {g : α → α} {l : List α} (h : ∀ x ∈ l, g x = x) : l.map g = l := by
  induction l with
  | nil => rfl
  | cons x l ih => rw [List.map_cons, h x (by simp), ih fun y hy => h y (by simp [hy])]
theorem tr_id {tl nl : List Int} (ht : ∀ k : Int, 0 ≤ k → k < (tl.length : Int) → toOf tl k = k) (hn : ∀ v, numOf nl v = v) (n : GNode) (hi : Inside tl nl n) : tr tl nl n = n := by
  have hl : ∀ l : List Int, l.map (numOf nl) = l := fun l => map_eq_self fun x _ => hn x
  have hb : nOp n = 9 → (nBr n).map (trBr tl nl) = nBr n := fun h9 => map_eq_self fun b hb => by
    have := hi.br h9 b hb
    rw [trBr, hl, ht b.2 this.1 this.2]
  have hx : nOp n ≠ 9 ∧ fNext (nOp n) = true → toOf tl (nNext n) = nNext n := fun h => by
    have := hi.next h.1 h.2
    exact ht _ this.1 this.2
  unfold tr
  rw [hl, hl, hn]
  have e1 : (if nOp n ≠ 9 ∧ fBinds (nOp n) = true then nVar n else nVar n) = nVar n := by split <;> rfl
  have e2 : (if isBare (nOp n) = true then nArgs n else nArgs n) = nArgs n := by split <;> rfl
  have e3 : (if isBare (nOp n) = true then nMore n else nMore n) = nMore n := by split <;> rfl
  have e4 : (if nOp n = 9 then (nBr n).map (trBr tl nl) else nBr n) = nBr n := by
    split
    · rename_i h; exact hb h
    · rfl
  have e5 : (if nOp n ≠ 9 ∧ fNext (nOp n) = true then toOf tl (nNext n) else nNext n) = nNext n := by
    split
    · rename_i h; exact hx h
    · rfl
  rw [e1, e2, e3, e4, e5]
/-- The maps of a normal form change nothing. -/
structure Same (a : GFun) (tl nl : List Int) : Prop where
  tlen : tl.length = (fCode a).length
  nlen : nl.length = (fVars a).length
  to : ∀ j : Nat, j < (fCode a).length → tl[j]? = some (j : Int)
  num : ∀ j : Nat, j < (fVars a).length → nl[j]? = some (j : Int)
theorem twice {f : GFun} (hf : Small f) {N V tl nl : List Int} (h : shapedS f = some (N, V)) (hm : MapsOk f N V tl nl) :
    ∃ tl' nl', rename_Maps (nf f N V tl nl) = some (tl', nl', 0) ∧ Same (nf f N V tl nl) tl' nl' ∧ rename_Normal (nf f N V tl nl) = some (nf f N V tl nl, 0) := by
  have sh := shapedS_sh h
  have hp0 := sh.par0
  have hp1 := sh.par1
  have hsm := nf_small (tl := tl) (nl := nl) hf sh
  have hs := nf_shaped hf h hm
  obtain ⟨l1, l2⟩ := nf_len (tl := tl) (nl := nl) sh
  obtain ⟨tl', nl', m1, m2⟩ := maps_spec _ hsm hs
  have hto : ∀ j : Nat, j < N.length → tl'[j]? = some (j : Int) := fun j hj => by
    have := m2.to j _ (idn_at hj)
    rwa [Int.toNat_natCast] at this
  have hnum : ∀ j : Nat, j < (fPar f).toNat + V.length → nl'[j]? = some (j : Int) := fun j hj => by
    by_cases hp : (j : Int) < fPar f
    · exact m2.par j hp
    · have := m2.num (j - (fPar f).toNat) _ (idv_at (by omega))
      rw [Int.toNat_natCast, show (fPar f).toNat + (j - (fPar f).toNat) = j by omega] at this
      rw [this]
      show some (fPar f + _) = _
      congr 1
      omega
  have hsame : Same (nf f N V tl nl) tl' nl' := ⟨m2.tlen, m2.nlen, fun j hj => hto j (by omega), fun j hj => hnum j (by omega)⟩
  refine ⟨tl', nl', m1, hsame, ?_⟩
  rw [normal_spec _ hsm hs m1 m2]
  have t1 : ∀ k : Int, 0 ≤ k → k < (tl'.length : Int) → toOf tl' k = k := fun k h0 h1 => by
    have hl := m2.tlen
    rw [toOf, List.getD_eq_getElem?_getD, hto k.toNat (by omega)]
    show ((k.toNat : Nat) : Int) = k
    omega
  have n1 : ∀ v : Int, numOf nl' v = v := fun v => by
    have hl := m2.nlen
    unfold numOf
    split
    · rename_i hv
      rw [List.getD_eq_getElem?_getD, hnum v.toNat (by omega)]
      show ((v.toNat : Nat) : Int) = v
      omega
    · rfl
  have sh' := shapedS_sh hs
  have ecode : ((idn N.length).map fun x => tr tl' nl' (codeAt (nf f N V tl nl) x)) = fCode (nf f N V tl nl) := by
    apply List.ext_getElem?
    intro i
    rw [List.getElem?_map]
    by_cases hi : i < N.length
    · rw [idn_at hi]
      obtain ⟨n, hn, hin⟩ := inside_of hsm m2 (sh'.ng (i : Int) (List.mem_of_getElem? (idn_at hi)))
      rw [Int.toNat_natCast] at hn
      have : codeAt (nf f N V tl nl) (i : Int) = n := by unfold codeAt; rw [Int.toNat_natCast, hn]; rfl
      rw [Option.map_some, this, tr_id t1 n1 n hin, hn]
    · rw [List.getElem?_eq_none (by rw [idn_len]; omega), List.getElem?_eq_none (by omega)]
      rfl
  have evars := pickV_idv (fVars (nf f N V tl nl)) (fPar f).toNat V.length l2
  have e : nf (nf f N V tl nl) (idn N.length) (idv (fPar f).toNat V.length) tl' nl' = nf f N V tl nl := by
    show (f.1, (fPar f, (f.2.2.1, ((fVars (nf f N V tl nl)).take (fPar f).toNat ++ pickV (fVars (nf f N V tl nl)) (idv (fPar f).toNat V.length), ((idn N.length).map fun x => tr tl' nl' (codeAt (nf f N V tl nl) x), ((0 : Int), fExt f)))))) = _
    rw [evars, ecode]
    rfl
  rw [e]
end Go.Proofs.Ytkecfadnfnnfaaa.LabA
/- RenameSettles, of the models: sizes and likeness. -/
set_option linter.unusedVariables false
set_option linter.unusedSimpArgs false
namespace Go.Proofs.Ytkecfadnfnnfaaa.LabA
open Go Go.Ev Go.Sy

/-! ### Sizes -/
theorem fewL8 (v0 : List GFun) (v1 v2 : Int) (v3 : List GNode) (v4 v5 : Int) (l : List GBranch) (hl : l.length ≤ 1000) : ∀ (r pre : List GBranch), l = pre ++ r →
    ∃ z, law20_Few_L8 v0 v1 v2 v3 v4 v5 l (l.length : Int) (pre.length : Int) = some z ∧ (z = .inr () → ∀ b ∈ r, b.1.length ≤ 12) := by
  intro r
  induction r with
  | nil =>
    intro pre h
    rw [law20_Few_L8_eq]
    subst h
    rw [cond_f (lt_end pre)]
    exact ⟨_, rfl, fun _ b hb => by simp at hb⟩
  | cons x r ih =>
    intro pre h
    rw [law20_Few_L8_eq]
    subst h
    rw [cond_t (lt_mid pre x r), at_mid, bind_some']
    by_cases hx : (12 : Int) < (x.1.length : Int)
    · rw [cond_dt hx]
      exact ⟨_, rfl, fun h => by cases h⟩
    · rw [cond_df hx, wr_mid (pre := pre) (x := x) (r := r) (by omega)]
      obtain ⟨z, h1, h2⟩ := ih (pre ++ [x]) (app_mid ..)
      refine ⟨z, h1, fun hz b hb => ?_⟩
      simp only [List.mem_cons] at hb
      rcases hb with rfl | hb
      · omega
      · exact h2 hz b hb
theorem fewL6 (v0 : List GFun) (v1 v2 : Int) (l : List GNode) (hl : l.length ≤ 1000) : ∀ (r pre : List GNode), l = pre ++ r →
    ∃ z, law20_Few_L6 v0 v1 v2 l (l.length : Int) (pre.length : Int) = some z ∧ (z = .inr () → ∀ n ∈ r, SmallN n) := by
  intro r
  induction r with
  | nil =>
    intro pre h
    rw [law20_Few_L6_eq]
    subst h
    rw [cond_f (lt_end pre)]
    exact ⟨_, rfl, fun _ b hb => by simp at hb⟩
  | cons x r ih =>
    intro pre h
    rw [law20_Few_L6_eq]
    subst h
    rw [cond_t (lt_mid pre x r), at_mid, bind_some']
    by_cases h1 : (12 : Int) < (x.2.2.1.length : Int)
    · rw [cond_dt h1]
      exact ⟨_, rfl, fun h => by cases h⟩
    · rw [cond_df h1]
      by_cases h2 : (12 : Int) < (x.2.2.2.2.2.2.1.length : Int)
      · rw [cond_dt h2]
        exact ⟨_, rfl, fun h => by cases h⟩
      · rw [cond_df h2]
        by_cases h3 : (20 : Int) < (x.2.2.2.2.2.2.2.2.1.length : Int)
        · rw [cond_dt h3]
          exact ⟨_, rfl, fun h => by cases h⟩
        · rw [cond_df h3]
          obtain ⟨z, e1, e2⟩ := fewL8 v0 v1 v2 (pre ++ x :: r) ((pre ++ x :: r).length : Int) (pre.length : Int) (nBr x) (show x.2.2.2.2.2.2.2.2.1.length ≤ 1000 by omega) (nBr x) [] rfl
          rw [show law20_Few_L8 v0 v1 v2 (pre ++ x :: r) ((pre ++ x :: r).length : Int) (pre.length : Int) x.2.2.2.2.2.2.2.2.1 (x.2.2.2.2.2.2.2.2.1.length : Int) (0 : Int) = some z from e1, bind_some']
          cases z with
          | inl u => exact ⟨_, rfl, fun h => by cases h⟩
          | inr u =>
            simp only
            rw [wr_mid (pre := pre) (x := x) (r := r) (by omega)]
            obtain ⟨z', g1, g2⟩ := ih (pre ++ [x]) (app_mid ..)
            refine ⟨z', g1, fun hz b hb => ?_⟩
            simp only [List.mem_cons] at hb
            rcases hb with rfl | hb
            · exact ⟨by show b.2.2.1.length ≤ 12; omega, by show b.2.2.2.2.2.2.1.length ≤ 12; omega, by show b.2.2.2.2.2.2.2.2.1.length ≤ 20; omega, e2 rfl⟩
            · exact g2 hz b hb
theorem few_spec (f : GFun) : ∃ b, law21_few f = some b ∧ (b = true → Small f) := by
  rw [law21_few_eq, law20_Few_eq]
  simp only
  rw [cond_df (by simp), cond_df (by simp)]
  have e0 : law20_Few_L0 (([] : List GData), [f]) ([] : List GData) ((([] : List GData).length : Nat) : Int) (0 : Int) = some (.inr ()) := by
    rw [law20_Few_L0_eq, cond_df (by simp)]
  rw [e0, bind_some']
  simp only
  have e4 : ∃ z, law20_Few_L4 [f] (([f].length : Nat) : Int) (0 : Int) = some z ∧ (z = .inr () → Small f) := by
    rw [law20_Few_L4_eq, cond_dt (by simp), show Sy.at' [f] (0 : Int) = some f from at_mid [] f [], bind_some']
    by_cases h1 : (100 : Int) < (f.1.length : Int)
    · rw [cond_dt h1]
      exact ⟨_, rfl, fun h => by cases h⟩
    · rw [cond_df h1]
      by_cases h2 : (120 : Int) < (f.2.2.2.1.length : Int)
      · rw [cond_dt h2]
        exact ⟨_, rfl, fun h => by cases h⟩
      · rw [cond_df h2]
        by_cases h3 : (80 : Int) < (f.2.2.2.2.1.length : Int)
        · rw [cond_dt h3]
          exact ⟨_, rfl, fun h => by cases h⟩
        · rw [cond_df h3]
          by_cases h4 : (200 : Int) < f.2.1
          · rw [cond_dt h4]
            exact ⟨_, rfl, fun h => by cases h⟩
          · rw [cond_df h4]
            obtain ⟨z, g1, g2⟩ := fewL6 [f] (([f].length : Nat) : Int) (0 : Int) (fCode f) (show f.2.2.2.2.1.length ≤ 1000 by omega) (fCode f) [] rfl
            rw [show law20_Few_L6 [f] (([f].length : Nat) : Int) (0 : Int) f.2.2.2.2.1 (f.2.2.2.2.1.length : Int) (0 : Int) = some z from g1, bind_some']
            cases z with
            | inl u => exact ⟨_, rfl, fun h => by cases h⟩
            | inr u =>
              simp only
              have hw : Ev.wr .i64 ((0 : Int) + 1) = 1 := wr_nat (n := 1) (by decide)
              rw [hw, law20_Few_L4_eq, cond_df (by simp)]
              refine ⟨_, rfl, fun _ => ⟨?_, ?_, g2 rfl⟩⟩
              · show f.2.2.2.2.1.length ≤ 80; omega
              · show f.2.2.2.1.length ≤ 120; omega
  obtain ⟨z, h1, h2⟩ := e4
  rw [h1, bind_some']
  cases z with
  | inl u => exact ⟨false, rfl, fun h => by cases h⟩
  | inr u => exact ⟨true, rfl, fun _ => h2 rfl⟩

/-! ### Likeness -/
theorem listL (l : List Int) (hl : l.length ≤ 1000) : ∀ (r pre : List Int), l = pre ++ r → ref21_SameList_L0 l l (pre.length : Int) = some (.inr ()) := by
  intro r
  induction r with
  | nil =>
    intro pre h
    rw [ref21_SameList_L0_eq]
    subst h
    rw [cond_f (lt_end pre)]
  | cons x r ih =>
    intro pre h
    rw [ref21_SameList_L0_eq]
    subst h
    rw [cond_t (lt_mid pre x r), at_mid, bind_some', bind_some', cond_dt rfl, wr_mid (pre := pre) (x := x) (r := r) (by omega)]
    exact ih (pre ++ [x]) (app_mid ..)
theorem list_same (l : List Int) (hl : l.length ≤ 1000) : ref21_SameList l l = some true := by
  rw [ref21_SameList_eq, cond_dt rfl, show ref21_SameList_L0 l l (0 : Int) = some (.inr ()) from listL l hl l [] rfl]
  rfl
theorem nodeL (n : GNode) (h : SmallN n) : ∀ (r pre : List GBranch), nBr n = pre ++ r → ref21_sameNode_L0 n n (pre.length : Int) = some (.inr ()) := by
  have hb := h.br
  intro r
  induction r with
  | nil =>
    intro pre h
    rw [ref21_sameNode_L0_eq]
    have h' : n.2.2.2.2.2.2.2.2.1 = pre ++ [] := h
    rw [h', cond_f (lt_end pre)]
  | cons x r ih =>
    intro pre hp
    rw [ref21_sameNode_L0_eq]
    have h' : n.2.2.2.2.2.2.2.2.1 = pre ++ x :: r := hp
    have hl : (pre ++ x :: r).length ≤ 20 := by rw [← h']; exact hb
    have hx : x.1.length ≤ 12 := h.bs x (by rw [hp]; simp)
    rw [h', cond_t (lt_mid pre x r), at_mid, bind_some', bind_some', cond_dt rfl, list_same x.1 (by omega), bind_some', cond_t rfl, wr_mid (pre := pre) (x := x) (r := r) (by omega)]
    exact ih (pre ++ [x]) (by rw [hp]; simp)
theorem node_same (n : GNode) (h : SmallN n) : ref21_sameNode n n = some true := by
  have ha := h.args
  have hm := h.more
  rw [ref21_sameNode_eq, cond_dt rfl, cond_dt rfl, cond_dt rfl, cond_dt rfl, cond_dt rfl, cond_t (by simp), cond_dt rfl, show ref21_SameList n.2.2.1 n.2.2.1 = some true from list_same _ (Nat.le_trans ha (by decide)), bind_some', cond_t rfl,
    show ref21_SameList n.2.2.2.2.2.2.1 n.2.2.2.2.2.2.1 = some true from list_same _ (Nat.le_trans hm (by decide)), bind_some', cond_t rfl, cond_dt rfl, show ref21_sameNode_L0 n n (0 : Int) = some (.inr ()) from nodeL n h (nBr n) [] rfl]
  rfl
theorem varsSame (f : GFun) (hf : (fVars f).length ≤ 1000) : ∀ (r pre : List GVar), fVars f = pre ++ r → ref21_SameFun_L0 f f (pre.length : Int) = some (.inr ()) := by
  intro r
  induction r with
  | nil =>
    intro pre h
    rw [ref21_SameFun_L0_eq]
    have h' : f.2.2.2.1 = pre ++ [] := h
    rw [h', cond_f (lt_end pre)]
  | cons x r ih =>
    intro pre hp
    rw [ref21_SameFun_L0_eq]
    have h' : f.2.2.2.1 = pre ++ x :: r := hp
    have hl : (pre ++ x :: r).length ≤ 1000 := by rw [← h']; exact hf
    rw [h', cond_t (lt_mid pre x r), at_mid, bind_some', bind_some', cond_t (by simp), wr_mid (pre := pre) (x := x) (r := r) (by omega)]
    exact ih (pre ++ [x]) (by rw [hp]; simp)
theorem codeSame (f : GFun) (hf : Small f) : ∀ (r pre : List GNode), fCode f = pre ++ r → ref21_SameFun_L2 f f (pre.length : Int) = some (.inl ()) := by
  have hc := hf.code
  intro r
  induction r with
  | nil =>
    intro pre h
    rw [ref21_SameFun_L2_eq]
    have h' : f.2.2.2.2.1 = pre ++ [] := h
    rw [h', cond_f (lt_end pre)]
  | cons x r ih =>
    intro pre hp
    rw [ref21_SameFun_L2_eq]
    have h' : f.2.2.2.2.1 = pre ++ x :: r := hp
    have hl : (pre ++ x :: r).length ≤ 80 := by rw [← h']; exact hc
    rw [h', cond_t (lt_mid pre x r), at_mid, bind_some', bind_some', node_same x (hf.nodes x (by rw [hp]; simp)), bind_some', cond_t rfl, wr_mid (pre := pre) (x := x) (r := r) (by omega)]
    exact ih (pre ++ [x]) (by rw [hp]; simp)
theorem fun_same (f : GFun) (hf : Small f) : ref21_SameFun f f = some true := by
  have hv := hf.vars
  rw [ref21_SameFun_eq, cond_dt rfl, cond_dt rfl, cond_dt rfl, cond_dt rfl, cond_t (by simp), cond_dt rfl, cond_dt rfl, show ref21_SameFun_L0 f f (0 : Int) = some (.inr ()) from varsSame f (by omega) (fVars f) [] rfl, bind_some']
  simp only
  rw [show ref21_SameFun_L2 f f (0 : Int) = some (.inl ()) from codeSame f hf (fCode f) [] rfl]
  rfl

/-! ### The law -/
theorem lawL0 (t v1 : List Int) (c : Nat) (hc : c ≤ 1000) (hl : t.length = c) (ht : ∀ j : Nat, j < c → t[j]? = some (j : Int)) : ∀ (k i : Nat), i + k = c → law21_RenameSettles_L0 t v1 (i : Int) = some (.inr ()) := by
  intro k
  induction k with
  | zero =>
    intro i h
    rw [law21_RenameSettles_L0_eq, cond_df (by omega)]
  | succ k ih =>
    intro i h
    rw [law21_RenameSettles_L0_eq, cond_dt (by omega), at_nat, ht i (by omega), bind_some', cond_dt rfl, Sy.wr_succ (by omega)]
    exact ih (i + 1) (by omega)
theorem lawL2 (t : List Int) (c : Nat) (hc : c ≤ 1000) (hl : t.length = c) (ht : ∀ j : Nat, j < c → t[j]? = some (j : Int)) : ∀ (k i : Nat), i + k = c → law21_RenameSettles_L2 t (i : Int) = some (.inr ()) := by
  intro k
  induction k with
  | zero =>
    intro i h
    rw [law21_RenameSettles_L2_eq, cond_df (by omega)]
  | succ k ih =>
    intro i h
    rw [law21_RenameSettles_L2_eq, cond_dt (by omega), at_nat, ht i (by omega), bind_some', cond_dt rfl, Sy.wr_succ (by omega)]
    exact ih (i + 1) (by omega)
theorem awake_true : law21_awake = some true := (M_ext ctx tb G 1 (by kernel_rfl) ()).trans rfl
theorem plain (x : GFun) : law21_RenameSettles x = some true := by
  rw [law21_RenameSettles_eq, awake_true, bind_some', cond_t rfl]
  obtain ⟨b, hb1, hb2⟩ := few_spec x
  rw [hb1, bind_some']
  cases b with
  | false => rfl
  | true =>
    have hf := hb2 rfl
    have hc := hf.code
    have hv := hf.vars
    rw [cond_t rfl]
    cases hs : shapedS x with
    | none =>
      obtain ⟨a, h1, h2, h3⟩ := normal_none x hf hs
      rw [h1, bind_some']
      simp only
      rw [cond_df (by decide), cond_dt (by show ((fCode a).length : Int) = 0; omega)]
      have : ((fVars a).length : Int) = 0 := by omega
      exact congrArg some (decide_eq_true this)
    | some p =>
      obtain ⟨N, V⟩ := p
      obtain ⟨tl, nl, m1, m2⟩ := maps_spec x hf hs
      obtain ⟨tl', nl', e1, e2, e3⟩ := twice hf hs m2
      have sh := shapedS_sh hs
      have hsm := nf_small (tl := tl) (nl := nl) hf sh
      have c1 := hsm.code
      have c2 := hsm.vars
      rw [normal_spec x hf hs m1 m2, bind_some']
      simp only [decide_true]
      rw [cond_t rfl, e3, bind_some']
      simp only
      rw [e1, bind_some']
      simp only [decide_true]
      rw [cond_t rfl, cond_t rfl, fun_same _ hsm, bind_some', cond_t rfl, cond_dt (show ((tl'.length : Nat) : Int) = ((fCode (nf x N V tl nl)).length : Int) by rw [e2.tlen]), cond_dt (show ((nl'.length : Nat) : Int) = ((fVars (nf x N V tl nl)).length : Int) by rw [e2.nlen]),
        show law21_RenameSettles_L0 tl' nl' (0 : Int) = some (.inr ()) from lawL0 tl' nl' _ (by omega) e2.tlen e2.to (fCode (nf x N V tl nl)).length 0 (by omega), bind_some']
      simp only
      rw [show law21_RenameSettles_L2 nl' (0 : Int) = some (.inr ()) from lawL2 nl' _ (by omega) e2.nlen e2.num (fVars (nf x N V tl nl)).length 0 (by omega)]
      rfl
end Go.Proofs.Ytkecfadnfnnfaaa.LabA
