/- Regions whose order is drawn: what the plan finds is found in whatever order. Here within the evaluator. -/
import Derived.Test.YtkecfadnfnnfaaaEvCa
set_option linter.unusedVariables false
set_option linter.unusedSimpArgs false
namespace Go.Ev
open Go.RowKit

/-! ### Equality by computation -/
mutual
theorem AV.beq_sound : ∀ (a b : AV), AV.beq a b = true → a = b
  | .undef, b, h => by cases b <;> simp [AV.beq] at h; rfl
  | .bool x, b, h => by cases b <;> simp [AV.beq] at h; rw [h]
  | .int k n, b, h => by cases b <;> simp [AV.beq] at h; rw [h.1, h.2]
  | .str s, b, h => by cases b <;> simp [AV.beq] at h; rw [h]
  | .nilp, b, h => by cases b <;> simp [AV.beq] at h; rfl
  | .ptr x y z, b, h => by cases b <;> simp [AV.beq] at h; rw [h.1, h.2.1, h.2.2]
  | .iptr l, b, h => by
    cases b <;> simp [AV.beq] at h
    rw [AV.beqL_sound _ _ h]
  | .nils, b, h => by cases b <;> simp [AV.beq] at h; rfl
  | .emp, b, h => by cases b <;> simp [AV.beq] at h; rfl
  | .lst l, b, h => by
    cases b <;> simp [AV.beq] at h
    rw [AV.beqLL_sound _ _ h]
  | .sl x y z, b, h => by cases b <;> simp [AV.beq] at h; rw [h.1, h.2.1, h.2.2]
  | .nilm, b, h => by cases b <;> simp [AV.beq] at h; rfl
  | .map x, b, h => by cases b <;> simp [AV.beq] at h; rw [h]
  | .nilf, b, h => by cases b <;> simp [AV.beq] at h; rfl
  | .fn f l, b, h => by
    cases b <;> simp [AV.beq] at h
    rw [h.1, AV.beqL_sound _ _ h.2]
  | .nili, b, h => by cases b <;> simp [AV.beq] at h; rfl
  | .iface t v, b, h => by
    cases b <;> simp [AV.beq] at h
    rw [h.1, AV.beq_sound _ _ h.2]
  | .agg l, b, h => by
    cases b <;> simp [AV.beq] at h
    rw [AV.beqL_sound _ _ h]
  | .tup l, b, h => by
    cases b <;> simp [AV.beq] at h
    rw [AV.beqL_sound _ _ h]
theorem AV.beqL_sound : ∀ (a b : List AV), AV.beqL a b = true → a = b
  | [], b, h => by cases b <;> simp [AV.beqL] at h; rfl
  | x :: l, b, h => by
    cases b <;> simp [AV.beqL] at h
    rw [AV.beq_sound _ _ h.1, AV.beqL_sound _ _ h.2]
theorem AV.beqLL_sound : ∀ (a b : List (List AV)), AV.beqLL a b = true → a = b
  | [], b, h => by cases b <;> simp [AV.beqLL] at h; rfl
  | x :: l, b, h => by
    cases b <;> simp [AV.beqLL] at h
    rw [AV.beqL_sound _ _ h.1, AV.beqLL_sound _ _ h.2]
end
theorem sameBlk_sound {a b : Blk} (h : sameBlk a b = true) : a = b := by
  cases a <;> cases b <;> simp [sameBlk] at h
  · rw [h.1.1, h.1.2, AV.beqLL_sound _ _ h.2]
  · rw [h.1, AV.beqLL_sound _ _ h.2]
  · rename_i x y
    have h1 := AV.beqL_sound _ _ h.1
    have h2 := AV.beqL_sound _ _ h.2
    congr 1
    have : ∀ (x y : List (AV × AV)), x.map (·.1) = y.map (·.1) → x.map (·.2) = y.map (·.2) → x = y := by
      intro x
      induction x with
      | nil => intro y h1 _; cases y <;> simp at h1; rfl
      | cons a x ih =>
        intro y h1 h2
        cases y with
        | nil => simp at h1
        | cons b y =>
          simp at h1 h2
          rw [ih y h1.2 h2.2, show a = b from Prod.ext h1.1 h2.1]
    exact this x y h1 h2
  · rfl
theorem sameBlks_sound : ∀ {a b : List Blk}, sameBlks a b = true → a = b
  | [], [], _ => rfl
  | [], _ :: _, h => by simp [sameBlks] at h
  | _ :: _, [], h => by simp [sameBlks] at h
  | x :: a, y :: b, h => by
    simp [sameBlks] at h
    rw [sameBlk_sound h.1, sameBlks_sound h.2]
theorem sameNums_sound : ∀ {a b : List Nat}, sameNums a b = true → a = b
  | [], [], _ => rfl
  | [], _ :: _, h => by simp [sameNums] at h
  | _ :: _, [], h => by simp [sameNums] at h
  | x :: a, y :: b, h => by
    simp [sameNums] at h
    rw [h.1, sameNums_sound h.2]
theorem sameSt_sound {a b : St} (h : sameSt a b = true) : a = b := by
  unfold sameSt at h
  rw [Bool.and_eq_true, Bool.and_eq_true] at h
  obtain ⟨⟨h1, h2⟩, h3⟩ := h
  have h1 := AV.beqL_sound _ _ h1
  have h2 := sameNums_sound h2
  have h3 := sameBlks_sound h3
  cases a with | mk fa Ha => cases b with | mk fb Hb =>
  simp only at h1 h2 h3
  have : ∀ (x y : List (Nat × AV)), x.map (·.1) = y.map (·.1) → x.map (·.2) = y.map (·.2) → x = y := by
    intro x
    induction x with
    | nil => intro y h1 _; cases y <;> simp at h1; rfl
    | cons a x ih =>
      intro y h1 h2
      cases y with
      | nil => simp at h1
      | cons b y =>
        simp at h1 h2
        rw [ih y h1.2 h2.2, show a = b from Prod.ext h1.1 h2.1]
  rw [this fa fb h2 h1, h3]

/-! ### Frames that hold the same -/
structure Like (fr fr' : Fr) : Prop where
  get : ∀ t, fr.get t = fr'.get t
  left : Srt fr
  right : Srt fr'
theorem Fr.get_put (fr : Fr) (dst : Option Tmp) (v : AV) (t : Nat) : (fr.put dst v).get t = if dst = some t then v else fr.get t := by
  cases dst with
  | none => simp [Fr.put]
  | some d =>
    simp only [Fr.put, Fr.get_set]
    by_cases h : t = d
    · simp [h]
    · rw [if_neg h, if_neg (by simp; exact fun e => h e.symm)]
theorem Like.put {fr fr' : Fr} (h : Like fr fr') (dst : Option Tmp) (v : AV) : Like (fr.put dst v) (fr'.put dst v) :=
  ⟨fun t => by rw [Fr.get_put, Fr.get_put, h.get], h.left.put dst v, h.right.put dst v⟩
theorem Like.comm {fr : Fr} (h : Srt fr) {x y : Option Tmp} (hne : ∀ d, x = some d → y ≠ some d) (u v : AV) : Like ((fr.put x u).put y v) ((fr.put y v).put x u) := by
  refine ⟨fun t => ?_, (h.put _ _).put _ _, (h.put _ _).put _ _⟩
  rw [Fr.get_put, Fr.get_put, Fr.get_put, Fr.get_put]
  by_cases h1 : y = some t
  · rw [if_pos h1, if_neg (fun hx => hne t hx h1), if_pos h1]
  · rw [if_neg h1, if_neg h1]
theorem Like.refl {fr : Fr} (h : Srt fr) : Like fr fr := ⟨fun _ => rfl, h, h⟩

section
variable (c : Ctx) (rec : Task → Option Res)

theorem evOp_congr (o : Oper) {fr fr' : Fr} (H : Heap) (h : ∀ x ∈ o.op.operands, opv fr x = opv fr' x) : evOp c rec o fr H = evOp c rec o fr' H := by
  obtain ⟨dst, op, type, pos, after, guard⟩ := o
  have pairs : ∀ ps : Array (Nat × Operand), (∀ x ∈ ps.map (·.2), opv fr x = opv fr' x) → (ps.toList.map fun p => (p.1, opv fr p.2)) = (ps.toList.map fun p => (p.1, opv fr' p.2)) := fun ps hp =>
    List.map_congr_left fun p hm => by rw [hp p.2 (Array.mem_map.2 ⟨p, by simpa using hm, rfl⟩)]
  have lists : ∀ ps : Array Operand, (∀ x ∈ ps, opv fr x = opv fr' x) → ps.toList.map (opv fr) = ps.toList.map (opv fr') := fun ps hp => List.map_congr_left fun p hm => hp p (by simpa using hm)
  cases op <;> simp only [Op.operands] at h <;> simp only [evOp]
  case build t ps => rw [pairs ps fun x hx => h x (by simpa using hx)]
  case buildSlice t n ps => rw [pairs ps fun x hx => h x (by simpa using hx)]
  case makeFunc fn first captured => rw [lists captured fun x hx => h x (by simp [hx])]
  case call cl =>
    have ha := lists cl.args fun x hx => h x (by simp [Call.operands, hx])
    unfold callsOp
    rw [ha]
    cases hc : cl.callee with
    | value f => have hf : opv fr f = opv fr' f := h f (by simp [Call.operands, hc]); simp only [hf]
    | _ => rfl
  case makeMap t r => cases r <;> simp_all
  case slice t x lo hi mx => cases lo <;> cases hi <;> cases mx <;> simp_all
  case pick p x y => rw [h p (by simp), h x (by simp), h y (by simp)]
  case store t x y => rw [h x (by simp), h y (by simp)]
  case binOp op t x y yt => rw [h x (by simp), h y (by simp)]
  case makeSlice t x y => rw [h x (by simp), h y (by simp)]
  case indexAddr t x y => rw [h x (by simp), h y (by simp)]
  case index t x y => rw [h x (by simp), h y (by simp)]
  case lookup t x y ok => rw [h x (by simp), h y (by simp)]
  case mapUpdate t m k x => rw [h m (by simp), h k (by simp), h x (by simp)]
  case insert t m k x => rw [h m (by simp), h k (by simp), h x (by simp)]
  all_goals first | rfl | (rename_i x; rw [h x (by simp)]) | (rename_i x _; rw [h x (by simp)]) | (rename_i _ x; rw [h x (by simp)]) | (simp_all; done)

/-- What an operation leaves: its value and the heap. -/
def Outc (n : Nat) (ops : Array Oper) (o : Oper) (fr : Fr) (H : Heap) (v : AV) (H' : Heap) : Prop :=
  dstOk n o.dst = true ∧ ((wantedAV ops o fr = some false ∧ v = .tup [] ∧ H' = H) ∨ (wantedAV ops o fr = some true ∧ evOp c rec o fr H = some (v, H')))
theorem evStep_iff {n : Nat} {ops : Array Oper} {o : Oper} {st st' : St} : evStep c rec n ops o st = some st' ↔ ∃ v H', Outc c rec n ops o st.fr st.H v H' ∧ st' = ⟨st.fr.put o.dst v, H'⟩ := by
  unfold evStep Outc evDo
  cases hd : dstOk n o.dst with
  | false => simp
  | true =>
    simp only
    cases hw : wantedAV ops o st.fr with
    | none => simp
    | some b =>
      cases b with
      | false =>
        simp only
        constructor
        · intro h; simp at h; exact ⟨_, _, ⟨by trivial, .inl ⟨by trivial, rfl, rfl⟩⟩, h.symm⟩
        · rintro ⟨v, H', ⟨_, ⟨_, rfl, rfl⟩ | ⟨h, _⟩⟩, rfl⟩
          · rfl
          · cases h
      | true =>
        simp only
        cases he : evOp c rec o st.fr st.H with
        | none => simp
        | some r =>
          obtain ⟨v, H'⟩ := r
          simp only [hV_eq, Fr.putK_eq, Option.some.injEq]
          constructor
          · rintro rfl; exact ⟨v, H', ⟨by trivial, .inr ⟨by trivial, rfl⟩⟩, rfl⟩
          · rintro ⟨v', H1, ⟨_, ⟨h, _⟩ | ⟨_, h⟩⟩, rfl⟩
            · cases h
            · cases h; rfl

theorem looks_op {o : Oper} {ops : Array Oper} {fr fr' : Fr} (h : ∀ t ∈ o.looksAt ops, fr.get t = fr'.get t) : ∀ x ∈ o.op.operands, opv fr x = opv fr' x := fun x hx => by
  cases x with
  | tmp t =>
    refine h t ?_
    unfold Oper.looksAt
    refine List.mem_append.2 (.inl (List.mem_filterMap.2 ⟨.tmp t, by simpa using hx, rfl⟩))
  | _ => rfl
theorem wanted_congr {o : Oper} {ops : Array Oper} {fr fr' : Fr} (h : ∀ t ∈ o.looksAt ops, fr.get t = fr'.get t) : wantedAV ops o fr = wantedAV ops o fr' := by
  unfold wantedAV
  cases hg : o.guard with
  | none => rfl
  | some p =>
    obtain ⟨j, b⟩ := p
    simp only
    cases hd : (ops[j]?).bind (·.dst) with
    | none => rfl
    | some d =>
      have : fr.get d = fr'.get d := h d (by
        unfold Oper.looksAt
        exact List.mem_append.2 (.inr (by simp [hg, hd])))
      simp only [this]
theorem Outc.congr {n : Nat} {ops : Array Oper} {o : Oper} {fr fr' : Fr} {H H' : Heap} {v : AV} (h : Outc c rec n ops o fr H v H') (hl : ∀ t ∈ o.looksAt ops, fr.get t = fr'.get t) : Outc c rec n ops o fr' H v H' := by
  unfold Outc at *
  rw [← wanted_congr hl, ← evOp_congr c rec o H (looks_op hl)]
  exact h

/-! ### Any order -/
abbrev Pend := List (Nat × (Heap → Prop))
def HoldA (p : Pend) (H : Heap) : Prop := ∀ q ∈ p, q.2 H
def stay (bf : Array Nat) (i : Nat) (p : Pend) : Pend := p.filter fun q => !(bf.getD i 0).testBit q.1
def AnyA (n : Nat) (ops : Array Oper) (bf : Array Nat) (Q : Fr → Heap → Prop) : Nat → Array Bool → Pend → Fr → Heap → Prop
  | 0, listed, _, fr, H => Region.ready .any ops listed = [] ∧ Q fr H
  | k + 1, listed, p, fr, H => (Region.ready .any ops listed = [] → Q fr H) ∧
    ∀ i ∈ Region.ready .any ops listed, ∃ o v H', ops[i]? = some o ∧ Outc c rec n ops o fr H v H' ∧ HoldA (stay bf i p) H' ∧ AnyA n ops bf Q k (listed.setIfInBounds i true) (stay bf i p) (fr.put o.dst v) H'

variable {n : Nat} {ops : Array Oper} {bf : Array Nat} {Q : Fr → Heap → Prop}
theorem AnyA.like (hQ : ∀ fr fr' H, Like fr fr' → Q fr H → Q fr' H) : ∀ (k : Nat) (listed : Array Bool) (p : Pend) (fr fr' : Fr) (H : Heap), Like fr fr' → AnyA c rec n ops bf Q k listed p fr H → AnyA c rec n ops bf Q k listed p fr' H
  | 0, listed, p, fr, fr', H, hl, h => ⟨h.1, hQ _ _ _ hl h.2⟩
  | k + 1, listed, p, fr, fr', H, hl, h => ⟨fun h0 => hQ _ _ _ hl (h.1 h0), fun i hi => by
      obtain ⟨o, v, H', h1, h2, h3, h4⟩ := h.2 i hi
      exact ⟨o, v, H', h1, h2.congr c rec (fun t _ => hl.get t), h3, AnyA.like hQ k _ _ _ _ _ (hl.put _ _) h4⟩⟩
theorem AnyA.fewer : ∀ (k : Nat) (listed : Array Bool) (p p' : Pend) (fr : Fr) (H : Heap), (∀ q ∈ p', q ∈ p) → AnyA c rec n ops bf Q k listed p fr H → AnyA c rec n ops bf Q k listed p' fr H
  | 0, listed, p, p', fr, H, hp, h => h
  | k + 1, listed, p, p', fr, H, hp, h => ⟨h.1, fun i hi => by
      obtain ⟨o, v, H', h1, h2, h3, h4⟩ := h.2 i hi
      have hs : ∀ q ∈ stay bf i p', q ∈ stay bf i p := fun q hq => by
        obtain ⟨a, b⟩ := List.mem_filter.1 hq
        exact List.mem_filter.2 ⟨hp q a, b⟩
      exact ⟨o, v, H', h1, h2, fun q hq => h3 q (hs q hq), AnyA.fewer k _ _ _ _ _ hs h4⟩⟩
theorem AnyA.to {Q' : Fr → Heap → Prop} (hQ : ∀ fr H, Q fr H → Q' fr H) : ∀ (k : Nat) (listed : Array Bool) (p : Pend) (fr : Fr) (H : Heap), AnyA c rec n ops bf Q k listed p fr H → AnyA c rec n ops bf Q' k listed p fr H
  | 0, listed, p, fr, H, h => ⟨h.1, hQ _ _ h.2⟩
  | k + 1, listed, p, fr, H, h => ⟨fun h0 => hQ _ _ (h.1 h0), fun i hi => by
      obtain ⟨o, v, H', h1, h2, h3, h4⟩ := h.2 i hi
      exact ⟨o, v, H', h1, h2, h3, AnyA.to hQ k _ _ _ _ h4⟩⟩
theorem AnyA.done {listed : Array Bool} {p : Pend} {fr : Fr} {H : Heap} (hr : Region.ready .any ops listed = []) (h : Q fr H) : ∀ k, AnyA c rec n ops bf Q k listed p fr H
  | 0 => ⟨hr, h⟩
  | _ + 1 => ⟨fun _ => h, fun i hi => by rw [hr] at hi; cases hi⟩

/-! ### What comes ahead of what -/
/-- What is listed has all that it waits for listed. -/
def Closed (ops : Array Oper) (listed : Array Bool) : Prop := ∀ (j : Nat) (o : Oper), ops[j]? = some o → listed.getD j false = true → ∀ e ∈ o.after, Region.binds .any e = true → listed.getD e.on false = true
theorem before_spec (ops : Array Oper) : (Region.before ops).size = ops.size ∧ ∀ (j i : Nat), ((Region.before ops).getD j 0).testBit i = true → ∃ o, ops[j]? = some o ∧ ∃ e ∈ o.after, Region.binds .any e = true ∧ (e.on = i ∨ (e.on < j ∧ ((Region.before ops).getD e.on 0).testBit i = true)) := by
  have inner : ∀ (acc : Array Nat) (es : List Edge) (s i : Nat), (es.foldl (fun s e => if Region.binds .any e then s ||| 2 ^ e.on ||| acc.getD e.on 0 else s) s).testBit i = true →
      s.testBit i = true ∨ ∃ e ∈ es, Region.binds .any e = true ∧ (e.on = i ∨ (acc.getD e.on 0).testBit i = true) := by
    intro acc es
    induction es with
    | nil => exact fun s i h => .inl h
    | cons e es ih =>
      intro s i h
      rw [List.foldl_cons] at h
      rcases ih _ i h with h1 | ⟨e', h1, h2⟩
      · split at h1
        · rename_i hb
          rw [Nat.testBit_or, Nat.testBit_or, Bool.or_eq_true, Bool.or_eq_true] at h1
          rcases h1 with (h1 | h1) | h1
          · exact .inl h1
          · rw [Nat.testBit_two_pow] at h1
            exact .inr ⟨e, by simp, hb, .inl (by simpa using h1)⟩
          · exact .inr ⟨e, by simp, hb, .inr h1⟩
        · exact .inl h1
      · exact .inr ⟨e', by simp [h1], h2⟩
  have outer : ∀ (l done : List Oper) (acc : Array Nat), acc.size = done.length →
      (∀ (j i : Nat), (acc.getD j 0).testBit i = true → ∃ o, done[j]? = some o ∧ ∃ e ∈ o.after, Region.binds .any e = true ∧ (e.on = i ∨ (e.on < j ∧ (acc.getD e.on 0).testBit i = true))) →
      ∃ acc', l.foldl (fun acc o => acc.push (o.after.foldl (fun s e => if Region.binds .any e then s ||| 2 ^ e.on ||| acc.getD e.on 0 else s) 0)) acc = acc' ∧ acc'.size = (done ++ l).length ∧
      ∀ (j i : Nat), (acc'.getD j 0).testBit i = true → ∃ o, (done ++ l)[j]? = some o ∧ ∃ e ∈ o.after, Region.binds .any e = true ∧ (e.on = i ∨ (e.on < j ∧ (acc'.getD e.on 0).testBit i = true)) := by
    intro l
    induction l with
    | nil => exact fun done acc h1 h2 => ⟨acc, rfl, by simpa using h1, by simpa using h2⟩
    | cons o l ih =>
      intro done acc h1 h2
      rw [List.foldl_cons]
      have hpush : ∀ (x : Nat) (k : Nat), k < acc.size → (acc.push x).getD k 0 = acc.getD k 0 := fun x k hk => by
        simp [Array.getD_eq_getD_getElem?, Array.getElem?_push, Nat.ne_of_lt hk]
      have := ih (done ++ [o]) (acc.push (o.after.foldl (fun s e => if Region.binds .any e then s ||| 2 ^ e.on ||| acc.getD e.on 0 else s) 0)) (by simp [h1]) (fun j i hb => by
        rcases Nat.lt_trichotomy j acc.size with hj | hj | hj
        · rw [hpush _ j hj] at hb
          obtain ⟨o', e1, e, e2, e3, e4⟩ := h2 j i hb
          refine ⟨o', by rw [List.getElem?_append_left (by omega)]; exact e1, e, e2, e3, ?_⟩
          rcases e4 with e4 | ⟨e4, e5⟩
          · exact .inl e4
          · exact .inr ⟨e4, by rw [hpush _ _ (by omega)]; exact e5⟩
        · subst hj
          have hg : (acc.push (o.after.foldl (fun s e => if Region.binds .any e then s ||| 2 ^ e.on ||| acc.getD e.on 0 else s) 0)).getD acc.size 0 = o.after.foldl (fun s e => if Region.binds .any e then s ||| 2 ^ e.on ||| acc.getD e.on 0 else s) 0 := by
            simp [Array.getD_eq_getD_getElem?]
          rw [hg, ← Array.foldl_toList] at hb
          refine ⟨o, by rw [h1]; simp, ?_⟩
          rcases inner acc o.after.toList 0 i hb with h0 | ⟨e, e1, e2, e3⟩
          · simp at h0
          · refine ⟨e, by simpa using e1, e2, ?_⟩
            rcases e3 with e3 | e3
            · exact .inl e3
            · have hlt : e.on < acc.size := by
                rcases Nat.lt_or_ge e.on acc.size with h | h
                · exact h
                · simp [Array.getD_eq_getD_getElem?, Array.getElem?_eq_none h] at e3
              exact .inr ⟨hlt, by rw [hpush _ _ hlt]; exact e3⟩
        · exfalso
          have : (acc.push (o.after.foldl (fun s e => if Region.binds .any e then s ||| 2 ^ e.on ||| acc.getD e.on 0 else s) 0))[j]? = none := Array.getElem?_eq_none (by simp; omega)
          rw [Array.getD_eq_getD_getElem?, this] at hb
          simp at hb)
      obtain ⟨acc', a1, a2, a3⟩ := this
      exact ⟨acc', a1, by simpa using a2, by simpa using a3⟩
  obtain ⟨acc', a1, a2, a3⟩ := outer ops.toList [] #[] rfl (fun j i h => by simp [Array.getD_eq_getD_getElem?] at h)
  have e : Region.before ops = acc' := by unfold Region.before; rw [← Array.foldl_toList]; exact a1
  rw [e]
  refine ⟨by simpa using a2, fun j i h => ?_⟩
  obtain ⟨o, h1, h2⟩ := a3 j i h
  exact ⟨o, by simpa using h1, h2⟩

/-- What comes ahead of something listed is listed. -/
theorem closed_before {listed : Array Bool} (hcl : Closed ops listed) : ∀ (N j : Nat), j < N → ∀ i, ((Region.before ops).getD j 0).testBit i = true → listed.getD j false = true → listed.getD i false = true
  | 0, j, h, _, _, _ => by omega
  | N + 1, j, hj, i, hb, hl => by
    obtain ⟨o, h1, e, h2, h3, h4⟩ := (before_spec ops).2 j i hb
    have := hcl j o h1 hl e h2 h3
    rcases h4 with rfl | ⟨h4, h5⟩
    · exact this
    · exact closed_before hcl N e.on (by omega) i h5 this
theorem ready_not_behind {listed : Array Bool} (hcl : Closed ops listed) {j i : Nat} (hj : j ∈ Region.ready .any ops listed) (hi : listed.getD i false = false) : ((Region.before ops).getD j 0).testBit i = false := by
  cases hb : ((Region.before ops).getD j 0).testBit i with
  | false => rfl
  | true =>
    exfalso
    obtain ⟨o, h1, e, h2, h3, h4⟩ := (before_spec ops).2 j i hb
    obtain ⟨_, o', h5, h6⟩ := mem_ready.1 hj
    rw [h1] at h5
    cases h5
    have := h6 e h2 h3
    rcases h4 with rfl | ⟨h4, h5⟩
    · rw [this] at hi; cases hi
    · rw [closed_before hcl _ e.on (Nat.lt_succ_self _) i h5 this] at hi; cases hi
theorem getD_listed {listed : Array Bool} {j : Nat} (h : listed.getD j true = false) : listed.getD j false = false := by
  rcases Nat.lt_or_ge j listed.size with h' | h'
  · simpa [Array.getD, h'] using h
  · rw [Array.getD_eq_getD_getElem?, Array.getElem?_eq_none h']; rfl
theorem getD_set_false {listed : Array Bool} (i : Nat) {j : Nat} (h : listed.getD j false = true) : (listed.setIfInBounds i true).getD j false = true := by
  rw [Array.getD_eq_getD_getElem?, Array.getElem?_setIfInBounds]
  rw [Array.getD_eq_getD_getElem?] at h
  split
  · split
    · rfl
    · rename_i h1 h2; subst h1; rw [Array.getElem?_eq_none (by omega)] at h; cases h
  · exact h
theorem closed_set {listed : Array Bool} (hcl : Closed ops listed) {i : Nat} (hi : i ∈ Region.ready .any ops listed) : Closed ops (listed.setIfInBounds i true) := fun j o ho hl e he hb => by
  by_cases hj : listed.getD j false = true
  · exact getD_set_false i (hcl j o ho hj e he hb)
  · have : j = i := by
      apply Classical.byContradiction
      intro hne
      apply hj
      rw [Array.getD_eq_getD_getElem?, Array.getElem?_setIfInBounds_ne (fun h => hne h.symm)] at hl
      rw [Array.getD_eq_getD_getElem?]
      exact hl
    subst this
    obtain ⟨_, o', h5, h6⟩ := mem_ready.1 hi
    rw [ho] at h5
    cases h5
    exact getD_set_false _ (h6 e he hb)

/-- An operation that may come up may be taken first. -/
theorem AnyA.first (hbf : bf = Region.before ops) (hQ : ∀ fr fr' H, Like fr fr' → Q fr H → Q fr' H) {i : Nat} {oi : Oper} {v : AV} {S : Heap → Prop} (hi : ops[i]? = some oi) :
    ∀ (k : Nat) (listed : Array Bool) (p : Pend) (fr : Fr) (H : Heap),
      (∀ j oj, ops[j]? = some oj → j ≠ i → listed.getD j true = false → (∀ e ∈ oj.after, Region.binds .any e = true → e.on ≠ i) → oi.apart ops oj = true) →
      i ∈ Region.ready .any ops listed → (∀ H', S H' → Outc c rec n ops oi fr H' v H') → S H → HoldA p H → Srt fr → Closed ops listed →
      AnyA c rec n ops bf Q k (listed.setIfInBounds i true) ((i, S) :: p) (fr.put oi.dst v) H → AnyA c rec n ops bf Q (k + 1) listed p fr H := by
  intro k
  induction k with
  | zero =>
    intro listed p fr H _ hr hy hS hp hsr _ h
    refine ⟨fun h0 => (by rw [h0] at hr; cases hr), fun j hj => ?_⟩
    by_cases hji : j = i
    · subst hji
      exact ⟨oi, v, H, hi, hy H hS, fun q hq => hp q (List.mem_filter.1 hq).1, h⟩
    · have := ready_mono hj hji
      rw [h.1] at this
      cases this
  | succ k ih =>
    intro listed p fr H hfree hr hy hS hp hsr hcl h
    refine ⟨fun h0 => (by rw [h0] at hr; cases hr), fun j hj => ?_⟩
    by_cases hji : j = i
    · subst hji
      exact ⟨oi, v, H, hi, hy H hS, fun q hq => hp q (List.mem_filter.1 hq).1, AnyA.fewer c rec _ _ _ _ _ _ (fun q hq => List.mem_cons_of_mem _ (List.mem_filter.1 hq).1) h⟩
    · obtain ⟨oj, u, H', hoj, h1, h2, h3⟩ := h.2 j (ready_mono hj hji)
      obtain ⟨hjun, oj', hoj', hall⟩ := mem_ready.1 hj
      rw [hoj] at hoj'
      cases hoj'
      have hiun := (mem_ready.1 hr).1
      have hnot : ∀ e ∈ oj.after, Region.binds .any e = true → e.on ≠ i := fun e he hb heq => by
        have h1 := hall e he hb
        rw [heq, getD_listed hiun] at h1
        cases h1
      have hap := hfree j oj hoj hji hjun hnot
      obtain ⟨a1, a2, a3⟩ := Oper.apart_spec hap
      have hkeep : ∀ t ∈ oj.looksAt ops, (fr.put oi.dst v).get t = fr.get t := fun t ht => by
        rw [Fr.get_put, if_neg (fun e => a1 t e ht)]
      have hkeep' : ∀ t ∈ oi.looksAt ops, fr.get t = (fr.put oj.dst u).get t := fun t ht => by
        rw [Fr.get_put, if_neg (fun e => a3 t e ht)]
      have hbit : ((bf.getD j 0).testBit i) = false := by rw [hbf]; exact ready_not_behind hcl hj (getD_listed hiun)
      have hst : stay bf j ((i, S) :: p) = (i, S) :: stay bf j p := by unfold stay; rw [List.filter_cons_of_pos (by simp only [hbit]; rfl)]
      rw [hst] at h2 h3
      refine ⟨oj, u, H', hoj, h1.congr c rec hkeep, fun q hq => h2 q (List.mem_cons_of_mem _ hq), ?_⟩
      refine ih (listed.setIfInBounds j true) (stay bf j p) (fr.put oj.dst u) H' (fun k ok hk hki hun hno => ?_) (ready_mono hr (Ne.symm hji)) (fun H' hS' => (hy H' hS').congr c rec hkeep') (h2 (i, S) (by simp)) (fun q hq => h2 q (List.mem_cons_of_mem _ hq)) (hsr.put _ _) (closed_set hcl hj) ?_
      · refine hfree k ok hk hki ?_ hno
        by_cases hjk : j = k
        · subst hjk; exact hjun
        · rw [getD_set_ne true hjk] at hun; exact hun
      · rw [Array.setIfInBounds_comm _ _ hji]
        exact AnyA.like c rec hQ _ _ _ _ _ _ (Like.comm hsr a2 v u) h3
end
end Go.Ev
