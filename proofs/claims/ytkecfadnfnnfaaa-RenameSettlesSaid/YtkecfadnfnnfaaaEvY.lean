/- The soundness of maps that are written; every operation but the calls. -/
import Derived.Test.YtkecfadnfnnfaaaEvX
set_option linter.unusedVariables false
set_option linter.unusedSimpArgs false
namespace Go.Ev
open Go.RowKit

section
variable {P : Program} {c : Ctx} {I J : Imm} {ρ : Ren} {H : Heap} {w : World}

theorem key_pure {td : TD} {k : AV} {u : Value} (h : keyOk td k = true) (hk : VRel I ρ k u) : VRel I ρ0 k u := by
  cases hk with
  | bool => exact .bool _ _
  | int => exact .int _ _ _
  | str _ s bs e => exact .str _ _ _ e
  | _ => cases td <;> simp [keyOk, keyEq] at h
theorem keyEq_eq {td : TD} {x y : AV} (h : keyEq td x y = some true) : x = y := by
  unfold keyEq at h
  cases td <;> simp at h
  · cases x <;> cases y <;> simp at h
    rename_i k a j b
    by_cases hk : k = j
    · simp [hk, eqI_eq] at h; rw [hk, h]
    · simp [hk] at h
  · cases x <;> cases y <;> simp at h; rw [h]
  · cases x <;> cases y <;> simp at h; rw [h]

theorem sameBits_of {td : TD} {x y : AV} {u v : Value} (h : keyEq td x y = some true) (hx : VRel I ρ x u) (hy : VRel I ρ y v) (n : Nat) : Instr.sameBits n v u = true := by
  have e := keyEq_eq h
  subst e
  cases hx with
  | bool => cases hy; simp [Instr.sameBits]
  | int => cases hy; simp [Instr.sameBits]
  | str _ s b1 e1 =>
    cases hy with
    | str _ _ b2 e2 =>
      have : b2 = b1 := by
        cases b1 with | mk d1 => cases b2 with | mk d2 =>
        congr 1
        apply Array.ext'
        simp at e1 e2
        rw [e2, e1]
      subst this
      have hb : (b2 == b2) = true := by show (b2.data == b2.data) = true; exact beq_self_eq_true _
      cases n <;> exact hb
  | _ => cases td <;> simp [keyEq] at h

theorem put_rel {kt : TypeId} {i : TypeInfo} {d : TypeDesc} {z : Value} (ht : TyOk P c kt i d z) {k v : AV} {u uv : Value} (hk : VRel I ρ0 k u) (hv : VRel I ρ0 v uv) : ∀ (es es' : List (AV × AV)) (l : List MapEntry) (q : Nat),
    (∀ (j : Nat) (x : AV × AV) (e : MapEntry), es[j]? = some x → l[j]? = some e → VRel I ρ0 x.1 e.key ∧ VRel I ρ0 x.2 e.val) → es.length = l.length → putAV (c.ty kt).d k v es = some es' →
    (Instr.findNow d u l q = some none ∧ es' = es ++ [(k, v)]) ∨
    ∃ j e x, l[j]? = some e ∧ es[j]? = some x ∧ keyEq (c.ty kt).d k x.1 = some true ∧ Instr.findNow d u l q = some (some (q + j, e.val)) ∧ es' = es.set j (x.1, v)
  | [], es', [], q, hrel, hl, h => by simp [putAV] at h; subst h; exact .inl ⟨rfl, rfl⟩
  | [], _, _ :: _, q, hrel, hl, h => by simp at hl
  | _ :: _, _, [], q, hrel, hl, h => by simp at hl
  | (k', v') :: es, es', e :: l, q, hrel, hl, h => by
    simp only [putAV] at h
    have h0 := hrel 0 _ _ rfl rfl
    cases hq : keyEq (c.ty kt).d k k' with
    | none => simp [hq] at h
    | some b =>
      have hn := (keyEq_run (P := P) (w := default) ht.und ht.rel hq hk h0.1 0).2
      cases b with
      | true =>
        simp [hq] at h
        subst h
        exact .inr ⟨0, e, (k', v'), rfl, rfl, hq, by simp [Instr.findNow, hn], rfl⟩
      | false =>
        simp only [hq] at h
        split at h
        · cases h
        · rename_i es1 hp
          simp at h
          subst h
          rcases put_rel ht hk hv es es1 l (q + 1) (fun j x e hx he => hrel (j + 1) x e hx he) (by simpa using hl) hp with ⟨h1, h2⟩ | ⟨j, e', x, h1, h2, h3, h4, h5⟩
          · exact .inl ⟨by simp [Instr.findNow, hn, h1], by rw [h2]; rfl⟩
          · exact .inr ⟨j + 1, e', x, h1, h2, h3, by simp only [Instr.findNow, hn]; rw [h4]; congr 3; omega, by rw [h5]; rfl⟩

theorem mapPut_did (hc : TysOk P c) (hs : Sim I ρ H w) {t : TypeId} {m k x v : AV} {u1 u2 u3 : Value} {H' : Heap} (h : mapPutAV c (c.ty t) m k x H = some (v, H')) (h1 : VRel I ρ m u1) (h2 : VRel I ρ k u2) (h3 : VRel I ρ x u3) :
    v = .tup [] ∧ ∃ w' I', (Instr.mapUpdate t u1 u2 u3).run P w = .ok () w' ∧ Ext H.length I ρ H w I' ρ H' w' ∧ Sim I' ρ H' w' ∧ H.length ≤ H'.length := by
  unfold mapPutAV at h
  split at h
  case h_2 => cases h
  rename_i kt e b hd
  split at h
  · cases h
  rename_i v' H1 hf
  split at h
  case h_2 => cases h
  rename_i es hb
  split at h
  case h_2 => cases h
  rename_i hko
  split at h
  case h_2 => cases h
  rename_i es' hput
  simp only [fSp_eq, Option.some.injEq, Prod.mk.injEq] at h
  obtain ⟨rfl, rfl⟩ := h
  obtain ⟨i, d, z, ht⟩ := hc.ty t (known' (by rw [hd]; simp))
  have hrel := ht.rel
  rw [hd] at hrel
  cases hrel with
  | map _ _ hkk hke =>
    obtain ⟨ik, dk, zk, htk⟩ := hc.ty kt hkk
    obtain ⟨J, sJ, eJ, rJ, lJ⟩ := freezeS_rel hs hf h3
    have hk0 : VRel J ρ0 k u2 := (key_pure hko h2).imm eJ.imm
    cases h1 with
    | map _ _ g z' n hρ =>
      obtain ⟨hn0, ents, clock, e1, e2, e3⟩ := sJ.blk b _ g z' n hb hρ
      have hg : (getObj g).run P w = .ok (.map ents clock) w := by simp [getObj, Sem.run, e1]
      have hset : ∀ o, (setObj g o).run P w = .ok () { w with heap := w.heap.setIfInBounds g o } := fun o => by simp [setObj, Sem.run, e1]
      have hgl : g < w.heap.size := by
        rcases Nat.lt_or_ge g w.heap.size with h | h
        · exact h
        · rw [Array.getElem?_eq_none h] at e1; cases e1
      have hupd : ∀ o, Upd w { w with heap := w.heap.setIfInBounds g o } g := fun o => ⟨by simp, fun q hq => by simp [Array.getElem?_setIfInBounds_ne (Ne.symm hq)], rfl, rfl, rfl⟩
      have hat : ∀ o, ({ w with heap := w.heap.setIfInBounds g o } : World).heap[g]? = some o := fun o => by simp [hgl]
      refine ⟨rfl, ?_⟩
      rcases put_rel htk hk0 rJ es es' ents.toList 0 (fun j x e hx he => e3 j x e hx (by simpa using he)) (by simpa using e2) hput with ⟨p1, p2⟩ | ⟨j, e', x', p1, p2, p3, p4, p5⟩
      · subst p2
        obtain ⟨s2, ex2⟩ := sJ.setB hb rfl hρ hn0 (hupd (.map (ents.push { key := u2, val := u3, born := clock }) (clock + 1))) (k' := .map (es ++ [(k, v')])) (.inl rfl) ⟨hn0, _, _, hat _, by simp [e2], fun q y en hy hen => by
          rw [List.getElem?_append] at hy
          rw [Array.getElem?_push] at hen
          split at hy
          · rename_i hq
            rw [if_neg (by omega)] at hen
            exact e3 q y en hy hen
          · rename_i hq
            have : q = es.length := by have := (List.getElem?_eq_some_iff.1 hy).1; simp at this; omega
            subst this
            rw [if_pos e2] at hen
            simp at hy hen
            subst hy
            subst hen
            exact ⟨hk0, rJ⟩⟩
        refine ⟨_, J, ?_, eJ.trans ex2 (by omega), s2, by simp; omega⟩
        unfold Instr.mapUpdate
        simp [run_underlying ht.und, hg, checkKey_run htk hko, Instr.findKey, run_underlying htk.und, p1, hset]
      · subst p5
        have hjl : j < ents.size := by have := (List.getElem?_eq_some_iff.1 p1).1; simpa using this
        have hje : ents[j]? = some e' := by simpa using p1
        have hold := e3 j x' e' p2 hje
        have hx'k : x'.1 = k := (keyEq_eq p3).symm
        have hsame := sameBits_of p3 hk0 hold.1 10000
        obtain ⟨s2, ex2⟩ := sJ.setB hb rfl hρ hn0 (hupd (.map (ents.modify j fun e => { e with key := u2, val := u3 }) clock)) (k' := .map (es.set j (x'.1, v'))) (.inl rfl) ⟨hn0, _, _, hat _, by simp [e2], fun q y en hy hen => by
          rw [List.getElem?_set] at hy
          rw [Array.getElem?_modify] at hen
          split at hy
          · rename_i hq
            subst hq
            rw [if_pos rfl, hje] at hen
            rw [if_pos (by omega)] at hy
            simp at hy hen
            subst hy
            subst hen
            exact ⟨by rw [hx'k]; exact hk0, rJ⟩
          · rename_i hq
            rw [if_neg hq] at hen
            exact e3 q y en hy hen⟩
        refine ⟨_, J, ?_, eJ.trans ex2 (by omega), s2, by simp; omega⟩
        unfold Instr.mapUpdate
        have hkts : (Instr.keyThatStays (((ents[j]?).map (·.key)).getD u2) u2).run P w = .ok u2 w := by
          unfold Instr.keyThatStays
          rw [hje]
          simp only [Option.map_some, Option.getD_some, hsame, if_true]
          rfl
        rw [Nat.zero_add] at p4
        simp only [Sem.run_bind, run_underlying ht.und, hg, Result.andThen_ok, checkKey_run htk hko, Instr.findKey, run_underlying htk.und, p4, Sem.run_pure, hkts, hset]
    | _ => simp at hb

/-! ### Any operation but a call -/
/-- An operation that is carried out at once. -/
def DidOp (P : Program) (I : Imm) (ρ : Ren) (H : Heap) (w : World) (s : Sem Next) (v : AV) (H' : Heap) : Prop :=
  ∃ cv w' I' ρ', (s.run P w = .ok (.value cv) w' ∨ (s.run P w = .ok .skip w' ∧ cv = undef)) ∧ Ext H.length I ρ H w I' ρ' H' w' ∧ Sim I' ρ' H' w' ∧ VRel I' ρ' v cv ∧ H.length ≤ H'.length
theorem DidOp.of_did {s : Sem Value} {v : AV} {H' : Heap} (h : Did P I ρ H w s v H') : DidOp P I ρ H w (do pure (.value (← s))) v H' := by
  obtain ⟨cv, w', I', ρ', h1, h2⟩ := h
  exact ⟨cv, w', I', ρ', .inl (by simp only [Sem.run_bind, h1, Result.andThen_ok, Sem.run_pure]), h2⟩
theorem DidOp.of_run (hs : Sim I ρ H w) {s : Sem Value} {v : AV} (h : ∃ cv, s.run P w = .ok cv w ∧ VRel I ρ v cv) : DidOp P I ρ H w (do pure (.value (← s))) v H := .of_did (.of hs h)
theorem okV_eq {H H' : Heap} {o : Option AV} {v : AV} (h : okV H o = some (v, H')) : o = some v ∧ H' = H := by
  cases o with
  | none => simp [okV] at h
  | some x => simp [okV] at h; exact ⟨by rw [h.1], h.2.symm⟩

theorem isPureN_rel : ∀ (n : Nat) (v : AV) (cv : Value), isPureN n v = true → VRel I ρ v cv → VRel I ρ0 v cv
  | 0, v, cv, h, _ => by simp [isPureN] at h
  | n + 1, v, cv, h, hv => by
    cases hv with
    | bool => exact .bool _ _
    | int => exact .int _ _ _
    | str _ s bs hh => exact .str _ _ _ hh
    | nilp => exact .nilp _
    | iptr _ cs g off vs h1 h2 => exact .iptr _ _ _ _ vs h1 h2
    | nils => exact .nils _
    | emp => exact .emp _ _
    | lst0 => exact .lst0 _ _ _
    | lst _ es g off cap z vs hne hl hz h1 h2 hc => exact .lst _ _ _ _ _ z vs hne hl hz h1 h2 hc
    | nilm => exact .nilm _
    | nilf => exact .nilf _
    | fn _ f caps vs hl hv =>
      cases caps with
      | nil => exact .fn _ _ _ _ hl (fun j x v hx => by simp at hx)
      | cons => simp [isPureN] at h
    | nili => exact .nili _
    | iface _ t v cv hh => exact .iface _ _ _ _ hh
    | agg _ cs vs hl hv =>
      simp only [isPureN] at h
      exact .agg _ _ _ hl (fun j x v hx hv' => isPureN_rel n x v (List.all_eq_true.1 h x (List.mem_of_getElem? hx)) (hv j x v hx hv'))
    | undef => simp [isPureN] at h
    | ptr => simp [isPureN] at h
    | sl => simp [isPureN] at h
    | sle => simp [isPureN] at h
    | map => simp [isPureN] at h
    | tup => simp [isPureN] at h

theorem evOp_did (hc : TysOk P c) (rec : Task → Option Res) (hs : Sim I ρ H w) {fr : Fr} {a : Act} {n : Nat} (hf : FrRel I ρ fr a.tmps n) {o : Oper} {v : AV} {H' : Heap} (h : evOp c rec o fr H = some (v, H'))
    (hcall : ∀ cl, o.op = .call cl → ∃ b, cl.callee = .builtin b) : DidOp P I ρ H w (execOp a.eval o) v H' := by
  unfold evOp at h
  unfold execOp
  cases hop : o.op <;> simp only [hop] at h ⊢ <;> try (cases h; done)
  case move x => simp at h; obtain ⟨rfl, rfl⟩ := h; exact ⟨_, w, I, ρ, .inl rfl, Ext.refl _ _ _ _ _, hs, opv_rel hf x, Nat.le_refl _⟩
  case assign x => simp at h; obtain ⟨rfl, rfl⟩ := h; exact ⟨_, w, I, ρ, .inl rfl, Ext.refl _ _ _ _ _, hs, opv_rel hf x, Nat.le_refl _⟩
  case pick p x y =>
    obtain ⟨h1, rfl⟩ := okV_eq h
    have hp := opv_rel hf p
    unfold pickAV at h1
    split at h1
    · rename_i heq
      rw [heq] at hp
      generalize hpv : a.eval p = pv at hp
      cases hp
      simp at h1
      subst h1
      exact ⟨_, w, I, ρ, .inl (by simp [asBool]), Ext.refl _ _ _ _ _, hs, opv_rel hf x, Nat.le_refl _⟩
    · rename_i heq
      rw [heq] at hp
      generalize hpv : a.eval p = pv at hp
      cases hp
      simp at h1
      subst h1
      exact ⟨_, w, I, ρ, .inl (by simp [asBool]), Ext.refl _ _ _ _ _, hs, opv_rel hf y, Nat.le_refl _⟩
    · cases h1
  case alloc e => exact .of_did (alloc_did hc hs h)
  case box e x => exact .of_did (box_did hs h (opv_rel hf x))
  case build t parts =>
    obtain ⟨h1, rfl⟩ := okV_eq h
    refine .of_run hs (build_run hc h1 ?_)
    have := PRel.of hf parts.toList
    simpa using this
  case buildSlice t len parts =>
    refine .of_did (buildSlice_did hc hs h ?_)
    have := PRel.of hf parts.toList
    simpa using this
  case load t x => obtain ⟨h1, rfl⟩ := okV_eq h; exact .of_run hs (load_run hc hs h1 (opv_rel hf x))
  case store t x y =>
    unfold storeOp at h
    split at h
    · rename_i H1 hst
      simp at h
      obtain ⟨rfl, rfl⟩ := h
      obtain ⟨w', I', ρ', h1, h2, h3, h4⟩ := store_did hc hs hst (opv_rel hf x) (opv_rel hf y)
      exact ⟨undef, w', I', ρ', .inr ⟨by simp only [Sem.run_bind, h1, Result.andThen_ok, Sem.run_pure], rfl⟩, h2, h3, .tup _ _ _ rfl (fun j x u hx => by simp at hx), h4⟩
    · cases h
  case nilCheck x =>
    obtain ⟨h1, rfl⟩ := okV_eq h
    have hx := opv_rel hf x
    unfold nilCheckAV at h1
    split at h1
    case h_5 => cases h1
    all_goals
      rename_i heq
      rw [heq] at hx
      simp at h1
      subst h1
      generalize hxv : a.eval x = xv at hx ⊢
      cases hx
      exact ⟨_, w, I, ρ, .inl rfl, Ext.refl _ _ _ _ _, hs, by constructor <;> assumption, Nat.le_refl _⟩
  case binOp op t x y yt =>
    obtain ⟨h1, rfl⟩ := okV_eq h
    exact .of_run hs (binop_run hc h1 (opv_rel hf x) (opv_rel hf y))
  case unOp op t x => obtain ⟨h1, rfl⟩ := okV_eq h; exact .of_run hs (unop_run h1 (opv_rel hf x))
  case convert s t x => obtain ⟨h1, rfl⟩ := okV_eq h; exact .of_run hs (convert_run hc h1 (opv_rel hf x))
  case makeInterface t x =>
    obtain ⟨h1, rfl⟩ := okV_eq h
    have hx := opv_rel hf x
    unfold ifaceAV at h1
    refine .of_run hs ?_
    have hne : (c.ty t).d ≠ .other := by intro e; simp [e] at h1
    obtain ⟨i, d, z, ht⟩ := hc.ty t (known' hne)
    have hr := ht.rel
    split at h1
    · cases h1
    · cases h1
    · rename_i hni hno
      split at h1
      · rename_i hp
        simp at h1
        subst h1
        refine ⟨.iface t (a.eval x), ?_, .iface _ _ _ _ (isPureN_rel 8 _ _ hp hx)⟩
        unfold Instr.makeInterface
        rw [Sem.run_bind, run_underlying ht.und]
        revert hr hni
        generalize (c.ty t).d = td
        intro hr hni
        cases hr <;> first | rfl | exact absurd rfl hni
      · cases h1
  case makeFunc fn first caps =>
    obtain ⟨h1, rfl⟩ := okV_eq h
    unfold makeFuncAV at h1
    split at h1
    · rename_i f
      split at h1
      · rename_i hz
        simp at h1
        subst h1
        have hz := Nat.eq_of_beq_eq_true hz
        have e : first = #[] := Array.eq_empty_of_size_eq_zero hz
        subst e
        have hv := VRels.of_map hf caps
        exact ⟨.func (.func f) #[] (caps.map a.eval), w, I, ρ, .inl (by simp [Instr.makeFunc]), Ext.refl _ _ _ _ _, hs, .fn _ _ _ _ hv.len hv.at_, Nat.le_refl _⟩
      · cases h1
    · cases h1
  case makeMap t r => exact .of_did (makeMap_did hc hs h (ORel.of hf r))
  case makeSlice t l k => exact .of_did (makeSlice_did hc hs h (opv_rel hf l) (opv_rel hf k))
  case slice t x lo hi mx =>
    obtain ⟨h1, rfl⟩ := okV_eq h
    unfold sliceOp at h1
    cases mx with
    | none => exact .of_run hs (slice_run hc hs h1 (opv_rel hf x) (ORel.of hf lo) (ORel.of hf hi))
    | some m => simp at h1
  case fieldAddr s x f => obtain ⟨h1, rfl⟩ := okV_eq h; exact .of_run hs (fieldAddr_run hc h1 (opv_rel hf x))
  case field s x f => obtain ⟨h1, rfl⟩ := okV_eq h; exact .of_run hs (field_run hc h1 (opv_rel hf x))
  case indexAddr t x ix => obtain ⟨h1, rfl⟩ := okV_eq h; exact .of_run hs (indexAddr_run hc hs h1 (opv_rel hf x) (opv_rel hf ix))
  case index t x ix => obtain ⟨h1, rfl⟩ := okV_eq h; exact .of_run hs (index_run hc h1 (opv_rel hf x) (opv_rel hf ix))
  case lookup t x ix ok =>
    obtain ⟨h1, rfl⟩ := okV_eq h
    refine .of_run hs (lookup_run hc hs h1 (opv_rel hf x) ?_)
    unfold lookupAV at h1
    split at h1
    case h_2 => cases h1
    split at h1
    · cases h1
    split at h1
    · cases h1
    rename_i r hr
    split at hr
    case h_2 => cases hr
    rename_i hko
    exact key_pure hko (opv_rel hf ix)
  case mapUpdate t m k x =>
    obtain ⟨rfl, w', I', h1, h2, h3, h4⟩ := mapPut_did hc hs h (opv_rel hf m) (opv_rel hf k) (opv_rel hf x)
    exact ⟨undef, w', I', ρ, .inr ⟨by simp only [Sem.run_bind, h1, Result.andThen_ok, Sem.run_pure], rfl⟩, h2, h3, .tup _ _ _ rfl (fun j x u hx => by simp at hx), h4⟩
  case insert t m k x =>
    obtain ⟨rfl, w', I', h1, h2, h3, h4⟩ := mapPut_did hc hs h (opv_rel hf m) (opv_rel hf k) (opv_rel hf x)
    exact ⟨undef, w', I', ρ, .inr ⟨by simp only [Sem.run_bind, h1, Result.andThen_ok, Sem.run_pure], rfl⟩, h2, h3, .tup _ _ _ rfl (fun j x u hx => by simp at hx), h4⟩
  case extract t i =>
    obtain ⟨h1, rfl⟩ := okV_eq h
    have ht := opv_rel hf t
    unfold extractAV at h1
    split at h1
    · rename_i vs heq
      rw [heq] at ht
      generalize hxv : a.eval t = tv at ht ⊢
      cases ht with
      | tup _ _ cvs hl hv =>
        have hi : i < cvs.size := by have := (List.getElem?_eq_some_iff.1 h1).1; omega
        have hg : cvs[i]? = some cvs[i] := Array.getElem?_eq_getElem hi
        exact .of_run hs ⟨cvs[i], by simp [Instr.extract, hg], hv i v _ h1 hg⟩
    · cases h1
  case call cl =>
    obtain ⟨b, hb⟩ := hcall cl hop
    unfold callsOp at h
    simp only [hb] at h
    unfold resolve
    simp only [hb]
    have hargs := VRels.of_map hf cl.args
    revert h hargs
    generalize cl.args.toList.map (opv fr) = vs
    generalize hcv : cl.args.map a.eval = cvs
    intro h hargs
    have two : ∀ {x y : AV}, vs = [x, y] → ∃ u1 u2, cvs = #[u1, u2] ∧ VRel I ρ x u1 ∧ VRel I ρ y u2 := by
      rintro x y rfl
      have hl := hargs.len
      simp at hl
      refine ⟨cvs[0], cvs[1], ?_, hargs.at_ 0 _ _ rfl (Array.getElem?_eq_getElem (by omega)), hargs.at_ 1 _ _ rfl (Array.getElem?_eq_getElem (by omega))⟩
      apply Array.ext
      · simp; omega
      · intro i h1 h2
        have : i = 0 ∨ i = 1 := by omega
        rcases this with rfl | rfl <;> rfl
    have ats : ∀ {ts : Array TypeId}, Nat.beq ts.size 2 = true → ts = #[ts.getD 0 0, ts.getD 1 0] := by
      intro ts hts
      have hts := Nat.eq_of_beq_eq_true hts
      apply Array.ext
      · simp; omega
      · intro i h1 h2
        have : i = 0 ∨ i = 1 := by omega
        rcases this with rfl | rfl <;> simp [Array.getD, hts]
    unfold builtinAV at h
    split at h
    · rename_i x
      have hl := hargs.len
      simp at hl
      have e1 : cvs = #[cvs[0]] := by
        apply Array.ext
        · simp; omega
        · intro i h1 h2
          have : i = 0 := by omega
          subst this
          rfl
      have hx := hargs.at_ 0 _ _ rfl (Array.getElem?_eq_getElem (show 0 < cvs.size by omega))
      split at h
      · rename_i hts
        have hts := Nat.le_of_ble_eq_true hts
        unfold lenOp at h
        split at h
        · rename_i nn hlen
          simp at h
          obtain ⟨rfl, rfl⟩ := h
          have h0 : cl.argTypes[0]? = some (cl.argTypes.getD 0 0) := by
            rw [Array.getElem?_eq_getElem (by omega)]
            simp [Array.getD, show 0 < cl.argTypes.size by omega]
          have hrun := lenInt_run hc hs hlen hx cl.argTypes h0 o.type
          rw [e1]
          refine .of_run (s := Builtin.len_ cl.argTypes o.type #[cvs[0]]) hs ⟨_, hrun, .int _ _ _⟩
        · cases h
      · cases h
    · rename_i x
      have hl := hargs.len
      simp at hl
      have e1 : cvs = #[cvs[0]] := by
        apply Array.ext
        · simp; omega
        · intro i h1 h2
          have : i = 0 := by omega
          subst this
          rfl
      have hx := hargs.at_ 0 _ _ rfl (Array.getElem?_eq_getElem (show 0 < cvs.size by omega))
      split at h
      · rename_i hts
        have hts := Nat.le_of_ble_eq_true hts
        unfold capOp at h
        split at h
        · cases h
        · rename_i e he
          obtain ⟨hu, _⟩ := elem_of hc he
          have h0 : cl.argTypes[0]? = some (cl.argTypes.getD 0 0) := by
            rw [Array.getElem?_eq_getElem (by omega)]
            simp [Array.getD, show 0 < cl.argTypes.size by omega]
          rw [e1]
          have hcap : ∀ a, (Builtin.cap_ cl.argTypes o.type #[.slice a 0 0]).run P w = .ok (.int .i64 0) w := fun a => by
            unfold Builtin.cap_
            simp only [h0]
            rw [show (#[Value.slice a 0 0] : Array Value)[0]? = some (.slice a 0 0) from rfl]
            simp only [Sem.run_bind, run_underlying hu, Result.andThen_ok]
            rfl
          generalize hcv0 : cvs[0] = u0 at hx
          split at h
          · cases hx
            simp at h
            obtain ⟨rfl, rfl⟩ := h
            exact .of_run (s := Builtin.cap_ cl.argTypes o.type _) hs ⟨_, hcap _, .int _ _ _⟩
          · cases hx
            simp at h
            obtain ⟨rfl, rfl⟩ := h
            exact .of_run (s := Builtin.cap_ cl.argTypes o.type _) hs ⟨_, hcap _, .int _ _ _⟩
          · cases h
      · cases h
    · obtain ⟨u1, u2, rfl, hx, hy⟩ := two rfl
      split at h
      · rename_i hts
        have ha := append_did (tx := cl.argTypes.getD 1 0) (ty := o.type) hc hs h hx hy
        rw [← ats hts] at ha
        exact .of_did ha
      · cases h
    · obtain ⟨u1, u2, rfl, hx, hy⟩ := two rfl
      split at h
      · rename_i hts
        have ha := copy_did (tx := cl.argTypes.getD 1 0) (ty := o.type) hc hs h hx hy
        rw [← ats hts] at ha
        exact .of_did ha
      · cases h
    · cases h
end
end Go.Ev
