/- The tables are the program's. -/
import Derived.Test.YtkecfadnfnnfaaaTabA
import Derived.Test.YtkecfadnfnnfaaaEvCl
import Derived.Test.YtkecfadnfnnfaaaModA
import Derived.Test.YtkecfadnfnnfaaaSyT
noncomputable section
namespace Go.Proofs.Ytkecfadnfnnfaaa.LabA
open Go Go.Ev Go.Proofs
theorem tys_ok : (List.range tabs.nt).all (fun t => tyB Try.prog tabs.ctx t && flatB Try.prog tabs.ctx t) = true := by kernel_rfl
theorem fns_fit : tabs.fns.fit 0 tabs.nf = true := by kernel_rfl
theorem fns_are : tabs.fns.toL = selL used Try.prog.funcs.toList := by kernel_rfl
theorem codes_ok : (List.range tabs.nf).all (codeB tabs.ctx) = true := by kernel_rfl
theorem mixed : Try.prog.follows .mixedOrders = true := by kernel_rfl
theorem tysOk : TysOk Try.prog tabs.ctx := Tabs.tysOk tys_ok
def noPrim : Prim → Bool | .no => true | _ => false
theorem prims_no : (List.range tabs.nf).all (fun f => noPrim (tabs.ctx.prim f) || Nat.beq f 13 || Nat.beq f 18) = true := by kernel_rfl
theorem prim13 : tabs.ctx.prim 13 = .clone 51 := by kernel_rfl
theorem prim18 : tabs.ctx.prim 18 = .clone 3 := by kernel_rfl
theorem prim_ok (f : FuncId) : PrimOk Try.prog tabs.ctx f (tabs.ctx.prim f) := by
  by_cases hf : f < tabs.nf
  · have := List.all_eq_true.1 prims_no f (List.mem_range.2 hf)
    rw [Bool.or_eq_true, Bool.or_eq_true] at this
    rcases this with (h | h) | h
    · cases hp : tabs.ctx.prim f with
      | no => trivial
      | clone e => rw [hp] at h; cases h
      | pure p => rw [hp] at h; cases h
    · have := Nat.eq_of_beq_eq_true h
      subst this
      rw [prim13]
      exact clone_prim (F := Try.f13) (T := 23) tysOk (by kernel_rfl) rfl ⟨0, 1, 2, 3, _, _, _, _, 23, rfl, rfl, rfl, rfl, rfl⟩ rfl rfl (by kernel_rfl) (by decide)
    · have := Nat.eq_of_beq_eq_true h
      subst this
      rw [prim18]
      exact clone_prim (F := Try.f18) (T := 32) tysOk (by kernel_rfl) rfl ⟨0, 1, 2, 3, _, _, _, _, 32, rfl, rfl, rfl, rfl, rfl⟩ rfl rfl (by kernel_rfl) (by decide)
  · have e : tabs.ctx.prim f = .no := by
      show ifB (Nat.blt f tabs.nf) _ _ = _
      cases hb : Nat.blt f tabs.nf with
      | false => rfl
      | true => exact absurd ((blt_iff _ _).1 hb) hf
    rw [e]; trivial
theorem ctx_ok : CtxOk Try.prog tabs.ctx := Tabs.ok used tysOk fns_fit fns_are codes_ok mixed prim_ok
theorem good (k : Nat) : Go.Ev.Good Try.prog tabs.ctx (run tabs.ctx k) := run_good ctx_ok k
end Go.Proofs.Ytkecfadnfnnfaaa.LabA
end
noncomputable section
namespace Go.Proofs.Ytkecfadnfnnfaaa.LabA
open Go Go.Ev Go.Proofs
theorem awake_ev : run tabs.ctx 60 (.pfn 4 []) = some (.val (.bool true) []) := by kernel_rfl
end Go.Proofs.Ytkecfadnfnnfaaa.LabA
end
/- The models of this program are true of it. -/
set_option maxRecDepth 100000
set_option linter.all false
namespace Go.Proofs.Ytkecfadnfnnfaaa.LabA
open Go Go.Ev Go.Sy
theorem fams_ext : (List.range 49).all (fun i => (match (tb.fam i).ext with | true => Nat.beq i 1 | false => true)) = true := by kernel_rfl
theorem fam_over (i : Nat) (h : ¬ i < 49) : tb.fam i = default := by
  show (match Nat.blt i 49 with | true => fams.get i | false => default) = default
  have : Nat.blt i 49 = false := by
    cases hb : Nat.blt i 49 with
    | false => rfl
    | true => exact absurd (by simpa [Nat.blt_eq] using hb) h
  rw [this]
theorem ext_one (i : Nat) (h : (tb.fam i).ext = true) : i = 1 := by
  by_cases hi : i < 49
  · have := List.all_eq_true.mp fams_ext i (List.mem_range.mpr hi)
    rw [h] at this
    exact Nat.eq_of_beq_eq_true this
  · rw [fam_over i hi] at h
    cases h
theorem ext_ok : ExtOk ctx tb G := by
  intro i x z he hz env θ n j o hx hal ho
  have := ext_one i he
  subst this
  have hz' : some true = some z := hz
  have ho' : ([outOf [.bool]] : List Out)[j]? = some o := ho
  cases j with
  | succ j => simp at ho'
  | zero =>
    simp only [List.getElem?_cons_zero, Option.some.injEq] at ho'
    subst ho'
    have hz2 : true = z := Option.some.inj hz'
    subst hz2
    have hb : true = env n .bool := hal
    show ∃ H', R ctx (.pfn 4 []) = some (.val (.bool (env n .bool)) H')
    rw [← hb]
    exact ⟨[], R_of_run awake_ev⟩
theorem law_of (x : GFun) (h : law21_RenameSettles x = some true) : R ctx (.pfn 3 [.agg (row tGFun x)]) = some (.val (.bool true) []) := by
  have := M_pfn ext_ok (i := 0) (x := x) (z := true) h (by kernel_rfl) (by kernel_rfl) (env := (Env.none.set 0 tGFun x).set 1 .bool true) (θ := [.v 0]) (n := 1) (j := 0) (o := outOf [.bool]) (by kernel_rfl) (by show true = _; kernel_rfl) (by kernel_rfl)
  refine Eq.trans ?_ (this.trans ?_)
  · congr 2
  · rfl
end Go.Proofs.Ytkecfadnfnnfaaa.LabA
