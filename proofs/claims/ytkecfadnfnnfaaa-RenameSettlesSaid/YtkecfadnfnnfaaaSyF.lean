/- Symbolic runs: what symbolic values and states stand for. -/
import Derived.Test.YtkecfadnfnnfaaaSyE
import Derived.Test.YtkecfadnfnnfaaaEvSet
set_option linter.unusedVariables false
set_option linter.unusedSimpArgs false
noncomputable section
namespace Go.Sy
open Go Go.Ev

/-- The cells of a typed value. -/
def row : (t : Ty) → t.D → List AV
  | .int k, x => [.int k x]
  | .bool, x => [.bool x]
  | .str, x => [.str x]
  | .lst u, x => [.lst (List.map (row u) x)]
  | .pair a b, x => row a x.1 ++ row b x.2
  | .unit, _ => []
  | .nat, _ => [.undef]
/-- A typed value as a value. -/
def valT : (t : Ty) → t.D → AV
  | .pair a b, x => .agg (row (.pair a b) x)
  | .unit, _ => .agg []
  | .int k, x => .int k x
  | .bool, x => .bool x
  | .str, x => .str x
  | .lst u, x => .lst (List.map (row u) x)
  | .nat, _ => .undef
mutual
def SV.emb (env : Env) : SV → AV
  | .undef => .undef
  | .ii k e => .int k (e.den env (.int k))
  | .bb e => .bool (e.den env .bool)
  | .ss e => .str (e.den env .str)
  | .tl t e => .lst (List.map (row t) (e.den env (.lst t)))
  | .nilp => .nilp
  | .ptr b i o => .ptr b (i.den env .nat) o
  | .iptr cs => .iptr (SV.embL env cs)
  | .nils => .nils
  | .emp => .emp
  | .sl b o l => .sl b (o.den env .nat) (l.den env .nat)
  | .nilm => .nilm
  | .map b => .map b
  | .nilf => .nilf
  | .fn f cs => .fn f (SV.embL env cs)
  | .nili => .nili
  | .iface t v => .iface t (v.emb env)
  | .agg cs => .agg (SV.embL env cs)
  | .tup cs => .tup (SV.embL env cs)
def SV.embL (env : Env) : List SV → List AV
  | [] => []
  | v :: l => v.emb env :: SV.embL env l
end
def SB.emb (env : Env) : SB → Blk
  | .rows z t e => .rows z true (List.map (row t) (e.den env (.lst t)))
  | .box z _ es => .rows z false (es.map (SV.embL env))
  | .ro z t e => .ro z (List.map (row t) (e.den env (.lst t)))
  | .map tk tv e => .map (List.map (fun p => (valT tk p.1, valT tv p.2)) (e.den env (.lst (.pair tk tv))))
  | .dead => .dead
def embF (env : Env) (fr : SF) : Fr := fr.map fun p => (p.1, p.2.emb env)
def embH (env : Env) (H : SH) : Heap := H.map (SB.emb env)
def SS.emb (env : Env) (s : SS) : St := ⟨embF env s.fr, embH env s.H⟩

theorem embL_map (env : Env) : ∀ l : List SV, SV.embL env l = l.map (SV.emb env)
  | [] => rfl
  | v :: l => by simp only [SV.embL, List.map_cons, embL_map env l]
theorem embL_app (env : Env) (a b : List SV) : SV.embL env (a ++ b) = SV.embL env a ++ SV.embL env b := by simp [embL_map]
theorem embL_length (env : Env) (l : List SV) : (SV.embL env l).length = l.length := by simp [embL_map]
theorem embL_drop (env : Env) (l : List SV) (n : Nat) : (SV.embL env l).drop n = SV.embL env (l.drop n) := by simp [embL_map, List.map_drop]
theorem embL_take (env : Env) (l : List SV) (n : Nat) : (SV.embL env l).take n = SV.embL env (l.take n) := by simp [embL_map, List.map_take]

/-! ### Cells -/
theorem row_length : ∀ (t : Ty) (x : t.D), (row t x).length = t.size
  | .int _, _ => rfl
  | .bool, _ => rfl
  | .str, _ => rfl
  | .lst _, _ => rfl
  | .unit, _ => rfl
  | .nat, _ => rfl
  | .pair a b, x => by simp only [row, Ty.size, List.length_append, row_length a, row_length b]
theorem emb_cells (env : Env) : ∀ (t : Ty) (e : Ex), SV.embL env (cellsOf t e) = row t (e.den env t)
  | .int _, _ => rfl
  | .bool, _ => rfl
  | .str, _ => rfl
  | .lst _, _ => rfl
  | .unit, _ => rfl
  | .nat, _ => rfl
  | .pair a b, e => by
    show SV.embL env (cellsOf a (mk1 (.fst b) e) ++ cellsOf b (mk1 (.snd a) e)) = row a (e.den env (.pair a b)).1 ++ row b (e.den env (.pair a b)).2
    rw [embL_app, emb_cells env a, emb_cells env b, den_fst, den_snd]
theorem emb_sval (env : Env) (t : Ty) (e : Ex) : (sval t e).emb env = valT t (e.den env t) := by
  cases t <;> first | rfl | (show AV.agg (SV.embL env (cellsOf _ e)) = AV.agg _; rw [emb_cells])
theorem cells_emb (env : Env) (v : SV) : (v.emb env).cells = SV.embL env v.cells := by cases v <;> rfl
theorem isCell_emb (env : Env) (v : SV) : (v.emb env).isCell = v.isCell := by cases v <;> rfl
theorem allCell_emb (env : Env) (l : List SV) : (SV.embL env l).all AV.isCell = l.all SV.isCell := by
  rw [embL_map, List.all_map]; congr 1; funext v; exact isCell_emb env v
theorem cellsOf_isCell : ∀ (t : Ty) (e : Ex), Ty.beq t .nat = false → True := fun _ _ _ => trivial
theorem reify_ok (env : Env) : ∀ {t : Ty} {cs : List SV} {e : Ex} {r : List SV}, reify t cs = some (e, r) → SV.embL env cs = row t (e.den env t) ++ SV.embL env r
  | .int k, cs, e, r, h => by
    unfold reify at h
    split at h
    · split at h
      · rename_i hk
        simp only [Option.some.injEq, Prod.mk.injEq] at h
        obtain ⟨rfl, rfl⟩ := h
        rw [kEq_eq hk]
        rfl
      · cases h
    · cases h
  | .bool, cs, e, r, h => by
    unfold reify at h
    split at h
    · simp only [Option.some.injEq, Prod.mk.injEq] at h
      obtain ⟨rfl, rfl⟩ := h
      rfl
    · cases h
  | .str, cs, e, r, h => by
    unfold reify at h
    split at h
    · simp only [Option.some.injEq, Prod.mk.injEq] at h
      obtain ⟨rfl, rfl⟩ := h
      rfl
    · cases h
  | .lst u, cs, e, r, h => by
    unfold reify at h
    split at h
    · split at h
      · rename_i hk
        simp only [Option.some.injEq, Prod.mk.injEq] at h
        obtain ⟨rfl, rfl⟩ := h
        rw [tyBeq_eq hk]
        rfl
      · split at h
        · simp only [Option.some.injEq, Prod.mk.injEq] at h
          obtain ⟨rfl, rfl⟩ := h
          rfl
        · cases h
    · cases h
  | .pair a b, cs, e, r, h => by
    unfold reify at h
    split at h
    · cases h
    · rename_i x r1 h1
      split at h
      · cases h
      · rename_i y r2 h2
        simp only [Option.some.injEq, Prod.mk.injEq] at h
        obtain ⟨rfl, rfl⟩ := h
        rw [reify_ok env h1, reify_ok env h2, den_mkPair]
        simp only [row, List.append_assoc]
  | .unit, cs, e, r, h => by
    unfold reify at h
    simp only [Option.some.injEq, Prod.mk.injEq] at h
    obtain ⟨rfl, rfl⟩ := h
    rfl
  | .nat, cs, e, r, h => by simp [reify] at h
theorem reifyAll_ok (env : Env) {t : Ty} {cs : List SV} {e : Ex} (h : reifyAll t cs = some e) : SV.embL env cs = row t (e.den env t) := by
  unfold reifyAll at h
  split at h
  · rename_i e' h'
    simp only [Option.some.injEq] at h
    subst h
    rw [reify_ok env h']
    simp [SV.embL]
  · cases h
theorem valT_agg {t : Ty} (h : isAggT t = true) (x : t.D) : valT t x = .agg (row t x) := by cases t <;> first | rfl | (cases h)
theorem valT_cell {t : Ty} (h : isAggT t = false) (x : t.D) : [valT t x] = row t x := by cases t <;> first | rfl | (cases h)
theorem reifyV_ok (env : Env) {t : Ty} {v : SV} {e : Ex} (h : reifyV t v = some e) : v.emb env = valT t (e.den env t) := by
  unfold reifyV at h
  split at h
  · rename_i ht
    split at h
    · rw [valT_agg ht, ← reifyAll_ok env h]
      rfl
    · cases h
  · rename_i ht
    split at h
    · cases h
    · have := reifyAll_ok env h
      rw [← valT_cell ht] at this
      simp only [SV.embL, List.cons.injEq, and_true] at this
      exact this
theorem cells_valT (t : Ty) (x : t.D) : (valT t x).cells = row t x := by cases t <;> rfl

/-! ### Variables -/
mutual
theorem emb_agree {n : Nat} {e1 e2 : Env} (h : Agree n e1 e2) : ∀ {v : SV}, v.bnd n = true → v.emb e1 = v.emb e2
  | .undef, _ => rfl
  | .ii k e, hb => by simp only [SV.bnd] at hb; simp only [SV.emb, den_agree h hb]
  | .bb e, hb => by simp only [SV.bnd] at hb; simp only [SV.emb, den_agree h hb]
  | .ss e, hb => by simp only [SV.bnd] at hb; simp only [SV.emb, den_agree h hb]
  | .tl t e, hb => by simp only [SV.bnd] at hb; simp only [SV.emb, den_agree h hb]
  | .nilp, _ => rfl
  | .ptr b i o, hb => by simp only [SV.bnd] at hb; simp only [SV.emb, den_agree h hb]
  | .iptr cs, hb => by simp only [SV.bnd] at hb; simp only [SV.emb, embL_agree h hb]
  | .nils, _ => rfl
  | .emp, _ => rfl
  | .sl b o l, hb => by
    simp only [SV.bnd] at hb
    obtain ⟨h1, h2⟩ := and_t hb
    simp only [SV.emb, den_agree h h1, den_agree h h2]
  | .nilm, _ => rfl
  | .map b, _ => rfl
  | .nilf, _ => rfl
  | .fn f cs, hb => by simp only [SV.bnd] at hb; simp only [SV.emb, embL_agree h hb]
  | .nili, _ => rfl
  | .iface t v, hb => by simp only [SV.bnd] at hb; simp only [SV.emb, emb_agree h hb]
  | .agg cs, hb => by simp only [SV.bnd] at hb; simp only [SV.emb, embL_agree h hb]
  | .tup cs, hb => by simp only [SV.bnd] at hb; simp only [SV.emb, embL_agree h hb]
theorem embL_agree {n : Nat} {e1 e2 : Env} (h : Agree n e1 e2) : ∀ {l : List SV}, SV.bndL n l = true → SV.embL e1 l = SV.embL e2 l
  | [], _ => rfl
  | v :: l, hb => by
    simp only [SV.bndL] at hb
    obtain ⟨h1, h2⟩ := and_t hb
    simp only [SV.embL, emb_agree h h1, embL_agree h h2]
end
theorem sb_agree {n : Nat} {e1 e2 : Env} (h : Agree n e1 e2) {b : SB} (hb : b.bnd n = true) : b.emb e1 = b.emb e2 := by
  cases b with
  | rows z t e => simp only [SB.bnd] at hb; simp only [SB.emb, den_agree h hb]
  | ro z t e => simp only [SB.bnd] at hb; simp only [SB.emb, den_agree h hb]
  | map tk tv e => simp only [SB.bnd] at hb; simp only [SB.emb, den_agree h hb]
  | dead => rfl
  | box z tg es =>
    simp only [SB.bnd, List.all_eq_true] at hb
    simp only [SB.emb, Blk.rows.injEq, true_and]
    exact List.map_congr_left fun r hr => embL_agree h (hb r hr)
theorem embF_agree {n : Nat} {e1 e2 : Env} (h : Agree n e1 e2) {fr : SF} (hb : bndF n fr = true) : embF e1 fr = embF e2 fr := by
  simp only [bndF, List.all_eq_true] at hb
  exact List.map_congr_left fun p hp => by rw [emb_agree h (hb p hp)]
theorem embH_agree {n : Nat} {e1 e2 : Env} (h : Agree n e1 e2) {H : SH} (hb : bndH n H = true) : embH e1 H = embH e2 H := by
  simp only [bndH, List.all_eq_true] at hb
  exact List.map_congr_left fun b hp => sb_agree h (hb b hp)

/-! ### Constants, frames -/
theorem ofAV_ok (env : Env) {a : AV} {v : SV} (h : ofAV a = some v) : v.emb env = a := by
  unfold ofAV at h
  split at h <;> first
    | (simp only [Option.some.injEq] at h; subst h; rfl)
    | cases h
theorem ofAVs_ok (env : Env) : ∀ {l : List AV} {vs : List SV}, ofAVs l = some vs → SV.embL env vs = l
  | [], vs, h => by simp only [ofAVs, Option.some.injEq] at h; subst h; rfl
  | a :: l, vs, h => by
    unfold ofAVs at h
    split at h
    · rename_i v vs' h1 h2
      simp only [Option.some.injEq] at h
      subst h
      simp only [SV.embL, ofAV_ok env h1, ofAVs_ok env h2]
    · cases h
theorem getF_emb (env : Env) : ∀ (fr : SF) (t : Nat), (getF fr t).emb env = Fr.get (embF env fr) t
  | [], t => rfl
  | p :: r, t => by
    show (match Nat.beq p.1 t with | true => p.2 | false => getF r t).emb env = Fr.get ((p.1, p.2.emb env) :: embF env r) t
    rw [Fr.get_cons]
    cases Nat.beq p.1 t with
    | true => rfl
    | false => exact getF_emb env r t
theorem setF_emb (env : Env) : ∀ (fr : SF) (d : Nat) (v : SV), embF env (setF fr d v) = Fr.set (embF env fr) d (v.emb env)
  | [], d, v => rfl
  | p :: r, d, v => by
    show embF env (match Nat.beq p.1 d with | true => (d, v) :: r | false => match Nat.blt d p.1 with | true => (d, v) :: p :: r | false => p :: setF r d v) = Fr.set ((p.1, p.2.emb env) :: embF env r) d (v.emb env)
    rw [Fr.set_cons]
    cases Nat.beq p.1 d with
    | true => rfl
    | false =>
      cases Nat.blt d p.1 with
      | true => rfl
      | false =>
        show (p.1, p.2.emb env) :: embF env (setF r d v) = _
        rw [setF_emb env r d v]
theorem putF_emb (env : Env) (fr : SF) (d : Option Tmp) (v : SV) : embF env (putF fr d v) = (embF env fr).put d (v.emb env) := by
  cases d with
  | none => rfl
  | some d => exact setF_emb env fr d v
theorem siftF_emb (env : Env) (mask : Nat) : ∀ fr : SF, embF env (siftF mask fr) = Fr.sift mask (embF env fr)
  | [] => rfl
  | p :: r => by
    show embF env (match tb mask p.1 with | true => p :: siftF mask r | false => siftF mask r) = Fr.sift mask ((p.1, p.2.emb env) :: embF env r)
    rw [Fr.sift_cons]
    cases tb mask p.1 with
    | true => show (p.1, p.2.emb env) :: embF env (siftF mask r) = _; rw [siftF_emb env mask r]
    | false => exact siftF_emb env mask r
theorem onlyF_emb (env : Env) (mask : Nat) (fr : SF) : embF env (onlyF mask fr) = Fr.only mask (embF env fr) := by
  unfold onlyF Fr.only
  cases Nat.beq mask 0 with
  | true => rfl
  | false => exact siftF_emb env mask fr
theorem ofConst_some (v : Value) : (ofAV (ofConst v)).isSome = true := by
  unfold ofConst
  split <;> rfl
theorem opvS_emb (env : Env) (fr : SF) (x : Operand) : (opvS fr x).emb env = opv (embF env fr) x := by
  cases x with
  | tmp t => exact getF_emb env fr t
  | const v =>
    show ((ofAV (ofConst v)).getD .undef).emb env = ofConst v
    cases h : ofAV (ofConst v) with
    | none => have := ofConst_some v; rw [h] at this; cases this
    | some a => exact ofAV_ok env h
  | global g => rfl
  | func f => rfl
theorem packS_emb (env : Env) (i : TI) (cs : List SV) : pack i (SV.embL env cs) = (packS i cs).map (SV.emb env) := by
  unfold pack packS
  cases i.known with
  | false => rfl
  | true =>
    cases i.isAgg with
    | true =>
      simp only [embL_length]
      cases Nat.ble i.size cs.length with
      | true => simp only [Option.map_some, SV.emb, embL_take]
      | false => rfl
    | false =>
      cases cs with
      | nil => rfl
      | cons a l => rfl

/-! ### Holes filled -/
theorem cellsOf_fill (σ : Nat → Ex) (env : Env) : True := trivial
mutual
theorem fill_emb (env : Env) (σ : Nat → Ex) : ∀ v : SV, (v.fill σ).emb env = v.emb (fun i u => (σ i).den env u)
  | .undef => rfl
  | .ii k e => by simp only [SV.fill, SV.emb, den_subst]
  | .bb e => by simp only [SV.fill, SV.emb, den_subst]
  | .ss e => by simp only [SV.fill, SV.emb, den_subst]
  | .tl t e => by simp only [SV.fill, SV.emb, den_subst]
  | .nilp => rfl
  | .ptr b i o => by simp only [SV.fill, SV.emb, den_subst]
  | .iptr cs => by simp only [SV.fill, SV.emb, fillL_emb env σ cs]
  | .nils => rfl
  | .emp => rfl
  | .sl b o l => by simp only [SV.fill, SV.emb, den_subst]
  | .nilm => rfl
  | .map b => rfl
  | .nilf => rfl
  | .fn f cs => by simp only [SV.fill, SV.emb, fillL_emb env σ cs]
  | .nili => rfl
  | .iface t v => by simp only [SV.fill, SV.emb, fill_emb env σ v]
  | .agg cs => by simp only [SV.fill, SV.emb, fillL_emb env σ cs]
  | .tup cs => by simp only [SV.fill, SV.emb, fillL_emb env σ cs]
theorem fillL_emb (env : Env) (σ : Nat → Ex) : ∀ l : List SV, SV.embL env (SV.fillL σ l) = SV.embL (fun i u => (σ i).den env u) l
  | [] => rfl
  | v :: l => by simp only [SV.fillL, SV.embL, fill_emb env σ v, fillL_emb env σ l]
end
theorem fillB_emb (env : Env) (σ : Nat → Ex) (b : SB) : (b.fill σ).emb env = b.emb (fun i u => (σ i).den env u) := by
  cases b with
  | rows z t e => simp only [SB.fill, SB.emb, den_subst]
  | ro z t e => simp only [SB.fill, SB.emb, den_subst]
  | map a b e => simp only [SB.fill, SB.emb, den_subst]
  | dead => rfl
  | box z tg es => simp only [SB.fill, SB.emb, List.map_map, Function.comp_def, fillL_emb]
theorem fillF_emb (env : Env) (σ : Nat → Ex) (fr : SF) : embF env (fillF σ fr) = embF (fun i u => (σ i).den env u) fr := by
  simp only [embF, fillF, List.map_map, Function.comp_def, fill_emb]
theorem fillH_emb (env : Env) (σ : Nat → Ex) (H : SH) : embH env (fillH σ H) = embH (fun i u => (σ i).den env u) H := by
  simp only [embH, fillH, List.map_map, Function.comp_def, fillB_emb]

/-! ### Blocks -/
theorem embH_get (env : Env) (H : SH) (b : Nat) : (embH env H)[b]? = (H[b]?).map (SB.emb env) := by simp [embH]
theorem embH_length (env : Env) (H : SH) : (embH env H).length = H.length := by simp [embH]
theorem embH_set (env : Env) (H : SH) (b : Nat) (k : SB) : embH env (H.set b k) = (embH env H).set b (k.emb env) := by simp [embH, List.map_set]
theorem embH_app (env : Env) (H G : SH) : embH env (H ++ G) = embH env H ++ embH env G := by simp [embH]
theorem embF_vals (env : Env) (fr : SF) : (embF env fr).map (·.2) = SV.embL env (fr.map (·.2)) := by
  rw [embL_map]; simp only [embF, List.map_map, Function.comp_def]
end Go.Sy
