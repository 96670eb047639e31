/- Symbolic runs: regions and code. -/
import Derived.Test.YtkecfadnfnnfaaaSyN
set_option linter.unusedVariables false
set_option linter.unusedSimpArgs false
noncomputable section
namespace Go.Sy
open Go Go.Ev

section
variable {c : Ctx} {rec : Task → Option Res} {tb : Tab} {m : (f : Nat) → Pr (tb.P f) → Option (Sm (tb.O f))} {α : Type}
variable {Q : Env → α → Prop}
theorem regionT_ok (hs : Sound c rec tb m) {f mm n id : Nat} {ops : Array Oper} {draw : Bool} {env : Env} {s : SS} {K : SS → T α} (hi : Inv m env s)
    (hk : ∀ env' s', evRegion c rec f mm n id ops draw (s.emb env) = some (.norm, s'.emb env') → Later m env s env' s' → Ok m (K s') env' Q) : Ok m (regionT c tb f mm n id ops draw s K) env Q := by
  have last : ∀ (env' : Env) (s' : SS), (⟨(s'.emb env').fr.only (c.keep f id), (s'.emb env').H⟩ : St) = ({ s' with fr := onlyF (c.keep f id) s'.fr } : SS).emb env' := fun env' s' => by
    simp only [SS.emb, onlyF_emb]
  unfold regionT
  simp only
  split
  · refine planT_ok hs _ _ env _ _ hi fun env' s' h e => hk env' _ ?_ ⟨e.inv, e.nx, e.agr⟩
    have h' : evPlan c rec mm n ops (ops.size + 1) (c.plan f id) ⟨s.emb env, []⟩ = some (s'.emb env') := h
    rw [s_draw, h', Option.bind_some, last]
  · refine listT_ok hs hi fun env' s' h e => hk env' _ ?_ ⟨e.inv, e.nx, e.agr⟩
    rw [s_plain, h, Option.bind_some, last]
theorem normT_ok {f mask mm : Nat} {env : Env} {s : SS} {K : SS → T α} (hi : Inv m env s)
    (hk : ∀ s', (∀ {β : Type} (k : St → Option β), (s.emb env).norm c (c.nilz f) mask mm k = k (s'.emb env)) → Later m env s env s' → Ok m (K s') env Q) : Ok m (normT c f mask mm s K) env Q := by
  unfold normT
  refine opt_ok fun s' hs' => hk s' (fun k => (normS_ok hs' k).1) ?_
  obtain ⟨_, h1, h2⟩ := normS_ok (env := env) hs' (fun s => some s)
  exact ⟨fun f hf => hi f (by rw [← h2]; exact hf), by rw [h1]; exact Nat.le_refl _, Agree.refl⟩
/-- Code whose first region may be ready. -/
def evAft (c : Ctx) (rec : Task → Option Res) (f m n : Nat) : Code → Nat → Bool → St → Option (Go.Ev.Ex × St)
  | .region id ops draw, blk, true, st => evRegion c rec f m n id ops draw st
  | .seq a b, blk, true, st => evSeq (evAft c rec f m n a blk true) (evCode c rec f m n blk b) st
  | co, blk, _, st => evCode c rec f m n blk co st
theorem evAft_false (f mm n : Nat) (co : Code) (blk : Nat) (st : St) : evAft c rec f mm n co blk false st = evCode c rec f mm n blk co st := by cases co <;> rfl
theorem evReady_aft (f mm n id : Nat) (ops : Array Oper) (draw : Bool) (blk : Nat) (st : St) : evCode c rec f mm n blk (.region id ops draw) st = if c.pre f id = 0 then evRegion c rec f mm n id ops draw st else st.norm c (c.nilz f) (c.pre f id) mm fun s => evRegion c rec f mm n id ops draw s := by
  rw [evCode_region, s_evReady]
  rfl
/-- Code at whose beginning ways meet, in a state that becomes ready. -/
theorem pre_aft {f mm n : Nat} {st st' : St} : ∀ (co : Code) (blk : Nat), preOf c f co ≠ 0 → (∀ {β : Type} (k : St → Option β), st.norm c (c.nilz f) (preOf c f co) mm k = k st') → evCode c rec f mm n blk co st = evAft c rec f mm n co blk true st' := by
  intro co blk hp hn
  induction co generalizing blk with
  | region id ops draw =>
    rw [evReady_aft, if_neg (show ¬ c.pre f id = 0 from hp)]
    exact hn _
  | seq a b iha ihb =>
    rw [evCode_seq]
    have := iha blk hp hn
    show evSeq (evCode c rec f mm n blk a) _ st = evSeq (evAft c rec f mm n a blk true) _ st'
    unfold evSeq
    rw [this]
  | _ => exact absurd rfl hp

/-! ### Ways that meet -/
theorem isAlt_mkSm {env1 env' : Env} {n : Nat} : ∀ {os : List (List Ty)} {z : Sm os} {j j' : Nat} {es : List Ex}, mkSm env1 os j es = some z → IsAlt env' os z j' n → j' = j ∧ ∀ ts, os[j]? = some ts → getP env' ts n = mkPr env1 ts es
  | [], z, _, _, _, _, _ => z.elim
  | [a], z, j, j', es, h, ha => by
    cases j with
    | zero =>
      simp only [mkSm, Option.some.injEq] at h
      subst h
      cases j' with
      | zero => exact ⟨rfl, fun ts ht => by
          simp only [List.getElem?_cons_zero, Option.some.injEq] at ht
          subst ht
          exact ha.symm⟩
      | succ j' => exact ha.elim
    | succ j => simp [mkSm] at h
  | a :: b :: l, z, j, j', es, h, ha => by
    cases j with
    | zero =>
      simp only [mkSm, Option.some.injEq] at h
      subst h
      cases j' with
      | zero => exact ⟨rfl, fun ts ht => by
          simp only [List.getElem?_cons_zero, Option.some.injEq] at ht
          subst ht
          exact ha.symm⟩
      | succ j' => exact ha.elim
    | succ j =>
      simp only [mkSm] at h
      cases hr : mkSm env1 (b :: l) j es with
      | none => rw [hr] at h; simp at h
      | some y =>
        rw [hr, Option.map_some, Option.some.injEq] at h
        subst h
        cases j' with
        | zero => exact ha.elim
        | succ j' =>
          obtain ⟨e1, e2⟩ := isAlt_mkSm hr ha
          exact ⟨by rw [e1], fun ts ht => e2 ts (by simpa using ht)⟩
theorem getP_cons {env env1 : Env} {t : Ty} {N : List Ty} {n : Nat} {e : Ex} {es : List Ex} (h : getP env (t :: N) n = mkPr env1 (t :: N) (e :: es)) : env n t = e.den env1 t ∧ getP env N (n + 1) = mkPr env1 N es := by
  cases N with
  | nil => exact ⟨h, rfl⟩
  | cons u N =>
    have h' : (env n t, getP env (u :: N) (n + 1)) = (e.den env1 t, mkPr env1 (u :: N) es) := h
    simp only [Prod.mk.injEq] at h'
    exact h'
theorem pickHs_ok {nx : Nat} {env1 env' : Env} (hag : Agree nx env1 env') : ∀ {hs : List (Option Ex)} {ts : List Ty} {θ : List (Ty × Ex)} {es : List Ex} {n : Nat}, pickHs nx hs ts θ = some es → getP env' (Shp.new.newTs hs ts) n = mkPr env1 (Shp.new.newTs hs ts) es →
    ∀ i t e, θ[i]? = some (t, e) → ((shpEx hs n).getD i .un).den env' t = e.den env1 t
  | [], [], [], es, n, h, hg => fun i t e hi => by simp at hi
  | some a :: l, t :: ts, (u, e) :: r, es, n, h, hg => by
    simp only [pickHs] at h
    split at h
    · rename_i hb
      obtain ⟨b1, b2⟩ := and_t hb
      obtain ⟨b2, b3⟩ := and_t b2
      intro i t' e' hi
      cases i with
      | zero =>
        simp only [List.getElem?_cons_zero, Option.some.injEq, Prod.mk.injEq] at hi
        obtain ⟨rfl, rfl⟩ := hi
        rw [← exBeq_eq b2]
        exact (den_agree hag b3 u).symm
      | succ i =>
        simp only [List.getElem?_cons_succ] at hi
        exact pickHs_ok hag h hg i t' e' hi
    · cases h
  | none :: l, t :: ts, (u, e) :: r, es, n, h, hg => by
    simp only [pickHs] at h
    split at h
    · rename_i hb
      split at h
      · rename_i es' hes
        simp only [Option.some.injEq] at h
        subst h
        have hb' := tyBeq_eq hb
        subst hb'
        obtain ⟨g1, g2⟩ := getP_cons (N := Shp.new.newTs l ts) hg
        intro i t' e' hi
        cases i with
        | zero =>
          simp only [List.getElem?_cons_zero, Option.some.injEq, Prod.mk.injEq] at hi
          obtain ⟨rfl, rfl⟩ := hi
          exact g1
        | succ i =>
          simp only [List.getElem?_cons_succ] at hi
          exact pickHs_ok hag hes g2 i t' e' hi
      · cases h
    · cases h
  | [], [], _ :: _, _, _, h, _ => by simp [pickHs] at h
  | [], _ :: _, _, _, _, h, _ => by simp [pickHs] at h
  | some _ :: _, [], _, _, _, h, _ => by simp [pickHs] at h
  | none :: _, [], _, _, _, h, _ => by simp [pickHs] at h
  | some _ :: _, _ :: _, [], _, _, h, _ => by simp [pickHs] at h
  | none :: _, _ :: _, [], _, _, h, _ => by simp [pickHs] at h
theorem sameEx_eq {a b : Go.Ev.Ex} (h : sameEx a b = true) : a = b := by
  cases a <;> cases b <;> simp only [sameEx, reduceCtorEq] at h <;> first | rfl | (rw [natBeq h])
theorem findShp_ok {nx : Nat} : ∀ {l : List Shp} {j0 : Nat} {ex : Go.Ev.Ex} {fr : SF} {H : SH} {θ : List (Ty × Ex)} {j : Nat} {es : List Ex}, findShp nx l j0 ex fr H θ = some (j, es) →
    ∃ k s, j = j0 + k ∧ l[k]? = some s ∧ s.ex = ex ∧ s.fr = fr ∧ s.H = H ∧ pickHs nx s.hs s.ts θ = some es
  | [], _, _, _, _, _, _, _, h => by simp [findShp] at h
  | s :: l, j0, ex, fr, H, θ, j, es, h => by
    have rest : findShp nx l (j0 + 1) ex fr H θ = some (j, es) → ∃ k s', j = j0 + k ∧ (s :: l)[k]? = some s' ∧ s'.ex = ex ∧ s'.fr = fr ∧ s'.H = H ∧ pickHs nx s'.hs s'.ts θ = some es := fun h => by
      obtain ⟨k, s', h1, h2, h3⟩ := findShp_ok h
      exact ⟨k + 1, s', by omega, by simpa using h2, h3⟩
    simp only [findShp] at h
    split at h
    · rename_i hb
      obtain ⟨b1, b2⟩ := and_t hb
      obtain ⟨b2, b3⟩ := and_t b2
      split at h
      · rename_i es' hes
        simp only [Option.some.injEq, Prod.mk.injEq] at h
        obtain ⟨rfl, rfl⟩ := h
        exact ⟨0, s, rfl, rfl, sameEx_eq b1, beqF_eq b2, beqH_eq b3, hes⟩
      · exact rest h
    · exact rest h
theorem jAlts_ok {env : Env} {s0 : SS} {K : Go.Ev.Ex × SS → T α} : ∀ (l : List Shp) (z : Sm (l.map Shp.new)),
    (∀ k s env', l[k]? = some s → IsAlt env' (l.map Shp.new) z k s0.nx → Agree s0.nx env env' →
      Ok m (K (s.ex, { fr := fillF (s.σ s0.nx) s.fr, H := fillH (s.σ s0.nx) s.H, nx := s0.nx + s.new.length, fs := s0.fs })) env' Q) → OkA m (jAlts s0 K l) (l.map Shp.new) z s0.nx env Q
  | [], z, h => z.elim
  | [o], z, h => by
    simp only [List.map_cons, List.map_nil, jAlts, OkA]
    exact h 0 o _ rfl (getP_setP o.new env s0.nx z) (agree_setP o.new env s0.nx z)
  | o :: o2 :: l, .inl p, h => by
    simp only [List.map_cons, jAlts, OkA]
    exact h 0 o _ rfl (getP_setP o.new env s0.nx p) (agree_setP o.new env s0.nx p)
  | o :: o2 :: l, .inr y, h => by
    have := jAlts_ok (o2 :: l) y fun k o' env' hk ha hg => h (k + 1) o' env' (by simpa using hk) ha hg
    simp only [List.map_cons, jAlts, OkA] at this ⊢
    exact this
/-- A way's end, made ready where it goes on. -/
def Ready (c : Ctx) (f mask mm : Nat) (ex : Go.Ev.Ex) (st st' : St) : Prop := match ex with
  | .norm => ∀ {β : Type} (k : St → Option β), st.norm c (c.nilz f) mask mm k = k st'
  | _ => st = st'
theorem readyJ_ok {f mask mm : Nat} {env : Env} {p p' : Go.Ev.Ex × SS} (h : readyJ c f mask mm p = some p') : p'.1 = p.1 ∧ Ready c f mask mm p.1 (p.2.emb env) (p'.2.emb env) ∧ p'.2.nx = p.2.nx ∧ p'.2.fs = p.2.fs := by
  obtain ⟨ex, s⟩ := p
  unfold readyJ at h
  cases ex with
  | norm =>
    simp only at h
    split at h
    · rename_i s' hs'
      simp only [Option.some.injEq] at h
      subst h
      obtain ⟨_, h1, h2⟩ := normS_ok (env := env) hs' (fun s => some s)
      exact ⟨rfl, fun k => (normS_ok hs' k).1, h1, h2⟩
    · cases h
  | exit k =>
    simp only [Option.some.injEq] at h
    subst h
    exact ⟨rfl, rfl, rfl, rfl⟩
  | ret =>
    simp only [Option.some.injEq] at h
    subst h
    exact ⟨rfl, rfl, rfl, rfl⟩
theorem joinT_ok {f mask mm : Nat} {x : T (Go.Ev.Ex × SS)} {env : Env} {s0 : SS} {K : Go.Ev.Ex × SS → T (Go.Ev.Ex × SS)} {Q1 : Env → Go.Ev.Ex × SS → Prop} {Q : Env → Go.Ev.Ex × SS → Prop} (hi : Inv m env s0)
    (hx : Ok m x env Q1) (hl : ∀ e p, Q1 e p → Later m env s0 e p.2)
    (hk : ∀ e1 p e2 p', Q1 e1 p → p'.1 = p.1 → Ready c f mask mm p.1 (p.2.emb e1) (p'.2.emb e2) → Later m env s0 e2 p'.2 → Ok m (K p') e2 Q) : Ok m (joinT (β := Unit) c f mask mm x s0 K) env Q := by
  unfold joinT
  split
  · refine Ok.bind m (fun e1 p hq => opt_ok fun p' hp' => ?_) x env hx
    obtain ⟨h1, h2, h3, h4⟩ := readyJ_ok (env := e1) hp'
    have hL := hl e1 p hq
    exact hk e1 p e1 p' hq h1 h2 ⟨fun g hg => hL.inv g (by rw [← h4]; exact hg), by rw [h3]; exact hL.nx, hL.agr⟩
  · split
    · simp only [Ok]
    · rename_i l hshp
      refine iff_ok fun hb => ?_
      simp only [Ok]
      intro z hz
      refine jAlts_ok l z fun k s env' hks ha hag => ?_
      obtain ⟨e1, p, hq, hz'⟩ := den_bind m x env hz hx
      cases hr : readyJ c f mask mm p with
      | none => rw [hr] at hz'; simp only [opt, T.den, reduceCtorEq] at hz'
      | some p' =>
        rw [hr] at hz'
        simp only [opt] at hz'
        obtain ⟨h1, h2, h3, h4⟩ := readyJ_ok (env := e1) hr
        have hL := hl e1 p hq
        unfold outT at hz'
        cases hleaf : shpLeaf s0.nx l p' with
        | none => rw [hleaf] at hz'; simp only [T.den, reduceCtorEq] at hz'
        | some je =>
          obtain ⟨j, es⟩ := je
          rw [hleaf] at hz'
          simp only [T.den] at hz'
          obtain ⟨rfl, hget⟩ := isAlt_mkSm hz' ha
          unfold shpLeaf at hleaf
          split at hleaf
          · cases hleaf
          · rename_i fr H θ habs
            obtain ⟨k', s', hj, hs', g1, g2, g3, g4⟩ := findShp_ok hleaf
            rw [Nat.zero_add] at hj
            subst hj
            rw [hs'] at hks
            simp only [Option.some.injEq] at hks
            subst hks
            have hts : (l.map Shp.new)[k]? = some s'.new := by rw [List.getElem?_map, hs']; rfl
            have hg := hget _ hts
            have hag' : Agree s0.nx e1 env' := hL.agr.symm.trans hag (Nat.le_refl _)
            have hh := pickHs_ok hag' g4 hg
            have hemb := absS_ok (env := e1) (env' := fun i u => ((s'.σ s0.nx) i).den env' u) habs hh
            have hst : ({ fr := fillF (s'.σ s0.nx) s'.fr, H := fillH (s'.σ s0.nx) s'.H, nx := s0.nx + s'.new.length, fs := s0.fs } : SS).emb env' = p'.2.emb e1 := by
              unfold SS.emb
              simp only [fillF_emb, fillH_emb]
              rw [g2, g3, hemb.1, hemb.2]
            refine hk e1 p env' _ hq (g1.trans h1) (by rw [hst]; exact h2) ⟨?_, Nat.le_add_right _ _, hag⟩
            exact fun g hg => inv_agree (s := s0) hag hb hi g hg

/-! ### Code -/
theorem loopT_ok (hs : Sound c rec tb m) {f blk mm : Nat} {F : Func} {bF lb : Code} (hF : c.fn f = some F) (hbF : F.body = some bF) (hlb : lookL (loopsOf bF 0) blk = some lb) {n : Nat} {env : Env} {s : SS} (hi : Inv m env s) :
    Ok m (loopT c tb f blk mm s) env (fun env' p => evCode c rec f mm n blk (.loop lb) (s.emb env) = some (p.1, p.2.emb env') ∧ Later m env s env' p.2) := by
  unfold loopT
  refine normT_ok hi fun s1 h1 e1 => opt_ok fun q hq => ?_
  obtain ⟨fr, H, θ⟩ := q
  simp only
  refine opt_ok fun fam hfam => iff_ok fun hb => ?_
  obtain ⟨b1, b2⟩ := and_t hb
  obtain ⟨b2, b3⟩ := and_t b2
  obtain ⟨b3, b4⟩ := and_t b3
  obtain ⟨f1, f2, f3⟩ := findFam_ok hfam
  refine callT_ok e1.inv fun env' o k j s2 z hz ha ho e2 hp hθ => ?_
  have hm := hs fam _ z hz env' _ k j o rfl ha ho
  obtain ⟨g1, g2⟩ := fam_state (tb := tb) (i := fam) hq f1 f2 f3 env'
  unfold Means at hm
  rw [natBeq b1] at hm
  simp only at hm
  have := hm F bF lb (by rw [natBeq b2]; exact hF) hbF (by rw [natBeq b3]; exact hlb)
  rw [natBeq b2, natBeq b3, natBeq b4, g1, g2, e2.emF, e2.emH] at this
  simp only [Ok]
  refine ⟨?_, e1.trans ⟨e2.inv, e2.nx, e2.agr⟩⟩
  rw [evCode_loop, h1, s_evLoop]
  rw [show s1.emb env = ⟨embF env s1.fr, embH env s1.H⟩ from rfl, this]
  rfl
theorem codeT_ok (hs : Sound c rec tb m) {f mm n : Nat} {F : Func} {bF : Code} (hF : c.fn f = some F) (hbF : F.body = some bF) : ∀ (co : Code) (blk : Nat) (rdy : Bool) (env : Env) (s : SS), Inv m env s →
    (∀ p ∈ loopsOf co blk, lookL (loopsOf bF 0) p.1 = some p.2) →
    Ok m (codeT c tb f mm n co blk rdy s) env (fun env' p => evAft c rec f mm n co blk rdy (s.emb env) = some (p.1, p.2.emb env') ∧ Later m env s env' p.2) := by
  intro co
  induction co with
  | skip =>
    intro blk rdy env s hi hL
    show Ok m (.ret (Go.Ev.Ex.norm, s)) env _
    simp only [Ok]
    exact ⟨by cases rdy <;> rfl, .refl hi⟩
  | region id ops draw =>
    intro blk rdy env s hi hL
    show Ok m (match rdy || Nat.beq (c.pre f id) 0 with
      | true => regionT c tb f mm n id ops draw s fun s => .ret (Go.Ev.Ex.norm, s)
      | false => normT c f (c.pre f id) mm s fun s => regionT c tb f mm n id ops draw s fun s => .ret (Go.Ev.Ex.norm, s)) env _
    cases rdy with
    | true =>
      refine regionT_ok hs hi fun env' s' h e => ?_
      simp only [Ok]
      exact ⟨h, e⟩
    | false =>
      simp only [Bool.false_or]
      split
      · rename_i hz
        refine regionT_ok hs hi fun env' s' h e => ?_
        simp only [Ok]
        refine ⟨?_, e⟩
        rw [evAft_false, evReady_aft, if_pos (natBeq hz)]
        exact h
      · rename_i hz
        refine normT_ok hi fun s1 h1 e1 => regionT_ok hs e1.inv fun env' s' h e => ?_
        simp only [Ok]
        refine ⟨?_, e1.trans e⟩
        rw [evAft_false, evReady_aft, if_neg (fun h0 => by rw [h0] at hz; simp at hz), h1]
        exact h
  | seq a b iha ihb =>
    intro blk rdy env s hi hL
    have hLa : ∀ p ∈ loopsOf a blk, lookL (loopsOf bF 0) p.1 = some p.2 := fun p hp => hL p (by simp only [loopsOf, List.mem_append]; exact .inl hp)
    have hLb : ∀ p ∈ loopsOf b blk, lookL (loopsOf bF 0) p.1 = some p.2 := fun p hp => hL p (by simp only [loopsOf, List.mem_append]; exact .inr hp)
    have hev : ∀ st, evAft c rec f mm n (.seq a b) blk rdy st = evSeq (evAft c rec f mm n a blk rdy) (evCode c rec f mm n blk b) st := fun st => by
      cases rdy with
      | true => rfl
      | false =>
        rw [evAft_false, evCode_seq]
        congr 1
        funext st
        rw [evAft_false]
    have ha := iha blk rdy env s hi hLa
    -- what follows
    have next : ∀ (e1 : Env) (p : Go.Ev.Ex × SS) (e2 : Env) (p' : Go.Ev.Ex × SS) (r : Bool), evAft c rec f mm n a blk rdy (s.emb env) = some (p.1, p.2.emb e1) → p'.1 = p.1 →
        (p.1 = .norm → evCode c rec f mm n blk b (p.2.emb e1) = evAft c rec f mm n b blk r (p'.2.emb e2)) → (p.1 ≠ .norm → p.2.emb e1 = p'.2.emb e2) → Later m env s e2 p'.2 →
        Ok m (seqK p'.1 p'.2 (codeT c tb f mm n b blk r)) e2 (fun env' q => evAft c rec f mm n (.seq a b) blk rdy (s.emb env) = some (q.1, q.2.emb env') ∧ Later m env s env' q.2) := fun e1 p e2 p' r h1 hp hn hx hL2 => by
      rw [hev]
      unfold evSeq
      rw [h1]
      obtain ⟨ex, sp⟩ := p
      obtain ⟨ex', sp'⟩ := p'
      simp only at hp hn hx
      subst hp
      cases ex' with
      | norm =>
        show Ok m (codeT c tb f mm n b blk r sp') e2 _
        refine Ok.imp m (fun e3 q hq => ⟨?_, hL2.trans hq.2⟩) _ _ (ihb blk r e2 sp' hL2.inv hLb)
        simp only
        rw [hn rfl]
        exact hq.1
      | exit k =>
        show Ok m (.ret (Go.Ev.Ex.exit k, sp')) e2 _
        simp only [Ok]
        exact ⟨by rw [hx (by simp)], hL2⟩
      | ret =>
        show Ok m (.ret (Go.Ev.Ex.ret, sp')) e2 _
        simp only [Ok]
        exact ⟨by rw [hx (by simp)], hL2⟩
    show Ok m (match preOf c f b with
      | 0 => (codeT c tb f mm n a blk rdy s).bind fun p => seqK p.1 p.2 (codeT c tb f mm n b blk false)
      | mask => joinT (β := Unit) c f mask mm (codeT c tb f mm n a blk rdy s) s fun p => seqK p.1 p.2 (codeT c tb f mm n b blk true)) env _
    cases hp : preOf c f b with
    | zero =>
      exact Ok.bind m (fun e1 p hq => next e1 p e1 p false hq.1 rfl (fun _ => (evAft_false f mm n b blk _).symm) (fun _ => rfl) hq.2) _ env ha
    | succ k =>
      refine joinT_ok hi ha (fun e p hq => hq.2) fun e1 p e2 p' hq h1 h2 h3 => next e1 p e2 p' true hq.1 h1 (fun hn => ?_) (fun hn => ?_) h3
      · rw [hn] at h2
        refine pre_aft b blk (by rw [hp]; simp) ?_
        rw [hp]
        exact h2
      · obtain ⟨ex, sp⟩ := p
        cases ex with
        | norm => exact absurd rfl hn
        | exit k => exact h2
        | ret => exact h2
  | cond p a b iha ihb =>
    intro blk rdy env s hi hL
    have hLa : ∀ p ∈ loopsOf a blk, lookL (loopsOf bF 0) p.1 = some p.2 := fun p hp => hL p (by simp only [loopsOf, List.mem_append]; exact .inl hp)
    have hLb : ∀ p ∈ loopsOf b blk, lookL (loopsOf bF 0) p.1 = some p.2 := fun p hp => hL p (by simp only [loopsOf, List.mem_append]; exact .inr hp)
    have hev : ∀ st, evAft c rec f mm n (.cond p a b) blk rdy st = evCode c rec f mm n blk (.cond p a b) st := fun st => by cases rdy <;> rfl
    show Ok m (match opvS s.fr p with
      | .bb e => branch e s fun x s => match x with | true => codeT c tb f mm n a blk false s | false => codeT c tb f mm n b blk false s
      | _ => .fail) env _
    split
    · rename_i e he
      refine branch_ok hi fun x s1 hx e1 => ?_
      have hst : s1.emb env = s.emb env := by unfold SS.emb; rw [e1.fr, e1.H]
      have hcond : evCode c rec f mm n blk (.cond p a b) (s.emb env) = if x = true then evCode c rec f mm n blk a (s.emb env) else evCode c rec f mm n blk b (s.emb env) := by
        rw [evCode_cond, show (s.emb env).fr = embF env s.fr from rfl, ← opvS_emb, he, SV.emb, hx, s_evCond]
      cases x with
      | true =>
        refine Ok.imp m (fun e2 q hq => ⟨?_, e1.toExt.later.trans hq.2⟩) _ _ (iha blk false env s1 e1.inv hLa)
        rw [hev, hcond, if_pos rfl, ← hst, ← evAft_false]
        exact hq.1
      | false =>
        refine Ok.imp m (fun e2 q hq => ⟨?_, e1.toExt.later.trans hq.2⟩) _ _ (ihb blk false env s1 e1.inv hLb)
        rw [hev, hcond, if_neg (by simp), ← hst, ← evAft_false]
        exact hq.1
    · simp only [Ok]
  | block id a iha =>
    intro blk rdy env s hi hL
    have hev : ∀ st, evAft c rec f mm n (.block id a) blk rdy st = evCode c rec f mm n blk (.block id a) st := fun st => by cases rdy <;> rfl
    show Ok m ((codeT c tb f mm n a id false s).bind fun p => match p.1 with
      | .exit k => match Nat.beq k id with | true => .ret (Go.Ev.Ex.norm, p.2) | false => .ret (Go.Ev.Ex.exit k, p.2)
      | e => .ret (e, p.2)) env _
    refine Ok.bind m (fun e1 p hq => ?_) _ env (iha id false env s hi hL)
    obtain ⟨h1, h2⟩ := hq
    rw [evAft_false] at h1
    obtain ⟨ex, sp⟩ := p
    rw [hev, evCode_block]
    unfold evBlock
    rw [h1]
    cases ex with
    | norm => simp only [Ok]; first | exact ⟨rfl, h2⟩ | exact ⟨trivial, h2⟩ | simpa using h2
    | ret => simp only [Ok]; first | exact ⟨rfl, h2⟩ | exact ⟨trivial, h2⟩ | simpa using h2
    | exit k =>
      simp only
      split
      · rename_i hb
        simp only [Ok, hb]
        first | exact ⟨rfl, h2⟩ | exact ⟨trivial, h2⟩ | simpa using h2
      · rename_i hb
        simp only [Ok, hb]
        first | exact ⟨rfl, h2⟩ | exact ⟨trivial, h2⟩ | simpa using h2
  | loop b ihb =>
    intro blk rdy env s hi hL
    have hev : ∀ st, evAft c rec f mm n (.loop b) blk rdy st = evCode c rec f mm n blk (.loop b) st := fun st => by cases rdy <;> rfl
    show Ok m (loopT c tb f blk mm s) env _
    refine Ok.imp m (fun e q hq => ?_) _ _ (loopT_ok hs hF hbF (hL (blk, b) (by simp [loopsOf])) (n := n) hi)
    rw [hev]
    exact hq
  | exit id =>
    intro blk rdy env s hi hL
    have hev : ∀ st, evAft c rec f mm n (.exit id) blk rdy st = evCode c rec f mm n blk (.exit id) st := fun st => by cases rdy <;> rfl
    show Ok m (normT c f (c.out f id) mm s fun s => .ret (Go.Ev.Ex.exit id, s)) env _
    refine normT_ok hi fun s1 h1 e1 => ?_
    simp only [Ok]
    exact ⟨by rw [hev, evCode_exit, h1], e1⟩
  | ret =>
    intro blk rdy env s hi hL
    have hev : ∀ st, evAft c rec f mm n .ret blk rdy st = evCode c rec f mm n blk .ret st := fun st => by cases rdy <;> rfl
    show Ok m (normT c f (c.res f) mm s fun s => .ret (Go.Ev.Ex.ret, s)) env _
    refine normT_ok hi fun s1 h1 e1 => ?_
    simp only [Ok]
    exact ⟨by rw [hev, evCode_ret, h1], e1⟩
  | rangeFunc _ _ _ _ _ _ => intro blk rdy env s hi hL; show Ok m .fail env _; simp only [Ok]
  | scope _ _ => intro blk rdy env s hi hL; show Ok m .fail env _; simp only [Ok]
  | label _ => intro blk rdy env s hi hL; show Ok m .fail env _; simp only [Ok]
  | goto _ => intro blk rdy env s hi hL; show Ok m .fail env _; simp only [Ok]
  | refuse _ => intro blk rdy env s hi hL; show Ok m .fail env _; simp only [Ok]
end
end Go.Sy
