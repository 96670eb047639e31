/- Proved: for every function that RenameSettles takes, the law answers true: the normal form of a normal form is itself, and its maps are the identity. Conditions: none beyond the statement's own. -/
import Derived.Test.YtkecfadnfnnfaaaLawA
import Derived.Test.YtkecfadnfnnfaaaPlA12
import Derived.Test.YtkecfadnfnnfaaaRows
import Derived.WalkKit
import Derived.ProofKit
import Derived.OpenShut
import Derived.ShutString
import Derived.ChangeOld
import Derived.Below
import Derived.SizedLaws
namespace Go.Proofs.Ytkecfadnfnnfaaa.LabA
open Go Go.Ev Go.Proofs Go.Proofs.Ytkecfadnfnnfaaa
open Go.ChangeShapes Go.WideShapes Go.ChangeAt Go.RowKit
set_option linter.unusedVariables false
theorem law (cs : List AV) (h : Typed tabs.ctx 10 26 cs) : R tabs.ctx (.pfn 3 [.agg cs]) = some (.val (.bool true) []) := by
  obtain ⟨x, rfl, g⟩ := Sy.typed_row h (show Sy.tyN ctx 10 26 = some tGFun by kernel_rfl)
  exact law_of x (plain x)
theorem own : ownKnob Try.prog.godebug = none := by kernel_rfl
theorem laidOut : laidOutB Try.prog = true := by kernel_rfl
theorem plain26 : plainTy tabs.ctx 10 26 = true := by kernel_rfl
theorem agg26 : (tabs.ctx.ty 26).isAgg = true := by kernel_rfl
theorem walk {H : Type} {enc : TypeId × Value → H} (v0 : Value) (d0 : DataW H) (p0 : List MemPlace) (W : World) (hv : ∃ cs, v0 = .agg cs) (h0 : DataW.Trod enc Try.prog W 0 (fun _ => true) true 26 v0 d0 p0) :
    Calls Try.prog 3 #[v0] W fun e w' => e = .returned (.bool true) ∧ Below W.heap.size W w' := by
  obtain ⟨x, cs, h1, h2, h3⟩ := trod_value tysOk plain26 h0 (fun _ => hv) (fun h => by rw [agg26] at h; cases h)
  rw [agg26, if_pos rfl] at h2
  subst h2
  obtain ⟨k, hk⟩ := R_run (k := 0) (law cs h1)
  obtain ⟨_, hc⟩ := (good k).pfn 3 [.agg cs] _ _ hk (allCells W) W #[v0] (allCells_agrees W) ⟨rfl, fun j x u hx hu => by
    cases j with
    | zero => simp at hx hu; rw [← hx, ← hu]; exact h3
    | succ j => simp at hx⟩
  refine Calls.mono hc fun e w' he => ?_
  obtain ⟨cv, I', rfl, _, _, _, hr, hb, _⟩ := he
  cases hr
  exact ⟨rfl, hb⟩
set_option maxRecDepth 100000 in
theorem lifted (os : Os) (started : os.Started) (H : Type) (enc : TypeId × Value → H) :
    ReturnsInHanded {} Try.checked os 3 .any (Rows.renameSettlesSpec.pre6 enc Try.prog Try.f3 Rows.renameSettlesRow.domain false) (Rows.renameSettlesSpec.post enc Try.prog Try.f3 false true false false) := by
  refine returnsInHanded_of_change_sized (C := Try.checked) own started (by kernel_rfl) Try.func3
    (ChangeSpec.witness6 (enc := enc) (C := Try.checked) false ⟨#[], #[.agg #[.string ByteArray.empty, .int .i64 0, .int .i64 0, .slice none 0 0, .slice none 0 0, .int .i64 0, .bool false]], []⟩ 8 (by kernel_rfl) (by kernel_rfl) (by kernel_rfl) (by kernel_rfl)) ?_
  intro W base args ds gs before hval0 hW hcnd hsz0 _
  have hval : ∀ (j : Nat) t v, Try.f3.params[j]? = some t → args[j]? = some v → Value.okWide Try.prog W .any base t v := hval0
  have hW' := hW
  obtain ⟨p, q, hA0, hV, rfl, hfz, hnd⟩ := hW
  have hA : DataW.TrodAll enc Try.prog W 0 (fun _ => true) true Try.f3.params.toList args.toList ds p := hA0
  rw [Try.params3] at hA hval
  obtain ⟨v0, vs0, d0, ds0, p0, q0, hargs, rfl, rfl, h0, r0⟩ := trodAll_cons hA
  obtain ⟨rfl, rfl, rfl⟩ := trodAll_nil r0
  obtain rfl : args = #[v0] := by cases args; simp_all
  obtain ⟨rfl, rfl⟩ := trodVars_none hV
  have k0 := h0
  have lt0 : ∀ x ∈ p0, x.block < W.heap.size := by obtain ⟨m, hm⟩ := k0; exact DataW.trod_lt m _ _ _ hm
  have hagg : ∃ cs, v0 = .agg cs := by
    have := hval 0 26 v0 rfl rfl
    unfold Value.okWide at this
    rw [Try.underlying26] at this
    obtain ⟨cs, h, _⟩ := this
    exact ⟨cs, h⟩
  clear hA0 hval0 hsz0
  refine (walk v0 d0 p0 W hagg h0).mono fun e W' ⟨he, bel⟩ => ?_
  subst he
  exact ⟨_, rfl, _, _, _, [], _, [], hW', trodAll_mk1 (shut_bool Try.underlying4 _), (trodAll_cons_mk (Below.trod laidOut (by kernel_rfl) (of_decide_eq_true (by kernel_rfl)) k0 bel lt0) trodAll_mk0), rfl, bel.frame _, fun h => by cases h⟩
theorem over : Rows.renameSettlesRow.holds Try.pinned (OpenSpec.ofChange Rows.renameSettlesSpec) :=
  OpenClaim.holds_of_wide 3 Try.f3 rfl rfl rfl rfl rfl rfl rfl ⟨rfl, rfl, rfl, rfl, rfl⟩ rfl rfl rfl rfl rfl (by kernel_rfl) Try.func3 (by kernel_rfl)
    (of_decide_eq_true (by kernel_rfl)) (by unfold Func.isWrapper; first | (rw [if_pos (by decide +kernel)]; kernel_rfl) | (rw [if_neg (by decide +kernel)]; exact ⟨rfl, rfl⟩))
    (fun os started H enc _ => lifted os started H enc)
theorem proved : Rows.RenameSettlesSaid := over
end Go.Proofs.Ytkecfadnfnnfaaa.LabA
