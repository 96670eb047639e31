/- The models of this program's functions and loops, and their equations. -/
import Derived.Test.YtkecfadnfnnfaaaFamA
import Derived.Test.YtkecfadnfnnfaaaSyS
import Derived.KernelRfl
set_option maxRecDepth 100000
set_option linter.all false
namespace Go.Proofs.Ytkecfadnfnnfaaa.LabA
open Go Go.Ev Go.Sy
abbrev GerrorAddressString : Type := (List UInt8) × (Int)
abbrev GVar : Type := (Int) × (Bool)
abbrev GBranch : Type := (List (Int)) × (Int)
abbrev GCon : Type := (List UInt8) × (List (Int))
abbrev GboundsError : Type := (Int) × ((Int) × ((Bool) × (Int)))
abbrev GData : Type := (List UInt8) × (List (GCon))
abbrev Gform : Type := (Int) × ((Bool) × ((Bool) × ((Bool) × ((Bool) × ((Bool) × ((Bool) × ((Bool) × (Bool))))))))
abbrev GNode : Type := (Int) × ((Int) × ((List (Int)) × ((Int) × ((Int) × ((Int) × ((List (Int)) × ((Bool) × ((List (GBranch)) × (Int)))))))))
abbrev GFun : Type := (List UInt8) × ((Int) × ((Int) × ((List (GVar)) × ((List (GNode)) × (GVar)))))
abbrev Gwriter : Type := (GFun) × ((List (Int)) × (Bool))
abbrev GProgram : Type := (List (GData)) × (List (GFun))
noncomputable def G : Mod tb := fun i => if h : i = 1 then h ▸ fun _ => some true else fun _ => none
noncomputable def law21_RenameSettles (v0 : GFun) : Option (((Bool))) := M ctx tb G 0 v0
noncomputable def law21_awake : Option (((Bool))) := M ctx tb G 1 ()
noncomputable def law21_few (v0 : GFun) : Option (((Bool))) := M ctx tb G 2 v0
noncomputable def rename_Normal (v0 : GFun) : Option (((GFun) × (Int))) := M ctx tb G 3 v0
noncomputable def law20_Few (v0 : GProgram) : Option (((Bool))) := M ctx tb G 4 v0
noncomputable def rename_Maps (v0 : GFun) : Option (((List (Int)) × (List (Int)) × (Int))) := M ctx tb G 5 v0
noncomputable def rename_shaped (v0 : GFun) : Option (((List (Int)) × (List (Int)) × (Bool))) := M ctx tb G 6 v0
noncomputable def law20_Few_L0 (v0 : GProgram) (v1 : List (GData)) (v2 : Int) (v3 : Int) : Option ((Unit) ⊕ (Unit)) := M ctx tb G 7 (v0, v1, v2, v3)
noncomputable def ref21_SameFun (v0 : GFun) (v1 : GFun) : Option (((Bool))) := M ctx tb G 8 (v0, v1)
noncomputable def rename_Normal_L0 (v0 : List (GVar)) (v1 : List (GNode)) (v2 : List (GVar)) (v3 : List (GNode)) (v4 : GFun) (v5 : List UInt8) (v6 : Int) (v7 : Int) (v8 : Int) (v9 : Bool) (v10 : List UInt8) (v11 : Int) (v12 : Int) (v13 : Int) (v14 : Bool) (v15 : List (Int)) (v16 : List (Int)) (v17 : Int) (v18 : Int) : Option (((List (GVar)))) := M ctx tb G 9 (v0, v1, v2, v3, v4, v5, v6, v7, v8, v9, v10, v11, v12, v13, v14, v15, v16, v17, v18)
noncomputable def rename_Maps_L0 (v0 : List (Int)) (v1 : List (Int)) (v2 : GFun) (v3 : List (Int)) (v4 : List (Int)) (v5 : Int) (v6 : Int) : Option (((List (Int)))) := M ctx tb G 10 (v0, v1, v2, v3, v4, v5, v6)
noncomputable def rename_shaped_L0 (v0 : List (Int)) (v1 : List (Int)) (v2 : List (Bool)) (v3 : List (Bool)) (v4 : List (Bool)) (v5 : GFun) (v6 : Int) (v7 : Int) : Option (((List (Bool)) × (List (Bool)))) := M ctx tb G 11 (v0, v1, v2, v3, v4, v5, v6, v7)
noncomputable def law20_Few_L2 (v0 : GProgram) (v1 : List (GData)) (v2 : Int) (v3 : Int) (v4 : List (GCon)) (v5 : Int) (v6 : Int) : Option ((Unit) ⊕ (Unit)) := M ctx tb G 12 (v0, v1, v2, v3, v4, v5, v6)
noncomputable def law21_RenameSettles_L0 (v0 : List (Int)) (v1 : List (Int)) (v2 : Int) : Option ((Unit) ⊕ (Unit)) := M ctx tb G 13 (v0, v1, v2)
noncomputable def law20_Few_L4 (v0 : List (GFun)) (v1 : Int) (v2 : Int) : Option ((Unit) ⊕ (Unit)) := M ctx tb G 14 (v0, v1, v2)
noncomputable def ref21_SameFun_L0 (v0 : GFun) (v1 : GFun) (v2 : Int) : Option ((Unit) ⊕ (Unit)) := M ctx tb G 15 (v0, v1, v2)
noncomputable def rename_Normal_L2 (v0 : List (GVar)) (v1 : List (GNode)) (v2 : List (GVar)) (v3 : List (GNode)) (v4 : GFun) (v5 : List UInt8) (v6 : Int) (v7 : Int) (v8 : Int) (v9 : Bool) (v10 : List UInt8) (v11 : Int) (v12 : Int) (v13 : Int) (v14 : Bool) (v15 : List (Int)) (v16 : List (Int)) (v17 : List (Int)) (v18 : Int) (v19 : Int) : Option (((List (GNode)))) := M ctx tb G 16 (v0, v1, v2, v3, v4, v5, v6, v7, v8, v9, v10, v11, v12, v13, v14, v15, v16, v17, v18, v19)
noncomputable def rename_Maps_L2 (v0 : List (Int)) (v1 : List (Int)) (v2 : GFun) (v3 : List (Int)) (v4 : List (Int)) (v5 : Int) (v6 : Int) : Option (((List (Int)))) := M ctx tb G 17 (v0, v1, v2, v3, v4, v5, v6)
noncomputable def rename_shaped_1 (v0 : List (Bool)) (v1 : GFun) (v2 : Int) : Option (((List (Bool)) × (Bool))) := M ctx tb G 18 (v0, v1, v2)
noncomputable def law20_Few_L6 (v0 : List (GFun)) (v1 : Int) (v2 : Int) (v3 : List (GNode)) (v4 : Int) (v5 : Int) : Option ((Unit) ⊕ (Unit)) := M ctx tb G 19 (v0, v1, v2, v3, v4, v5)
noncomputable def law21_RenameSettles_L2 (v0 : List (Int)) (v1 : Int) : Option ((Unit) ⊕ (Unit)) := M ctx tb G 20 (v0, v1)
noncomputable def ref21_SameFun_L2 (v0 : GFun) (v1 : GFun) (v2 : Int) : Option ((Unit) ⊕ (Unit)) := M ctx tb G 21 (v0, v1, v2)
noncomputable def rename_scope_of (v0 : List (Int)) (v1 : List (Int)) : Option (((List (Int)))) := M ctx tb G 22 (v0, v1)
noncomputable def rename_Normal_L4 (v0 : List (GVar)) (v1 : List (GNode)) (v2 : List (GVar)) (v3 : List (GNode)) (v4 : List (GBranch)) (v5 : GFun) (v6 : List UInt8) (v7 : Int) (v8 : Int) (v9 : Int) (v10 : Bool) (v11 : List UInt8) (v12 : Int) (v13 : Int) (v14 : Int) (v15 : Bool) (v16 : Int) (v17 : Int) (v18 : List (Int)) (v19 : Int) (v20 : Int) (v21 : Int) (v22 : List (Int)) (v23 : Bool) (v24 : Int) (v25 : List (Int)) (v26 : List (Int)) (v27 : List (Int)) (v28 : Int) (v29 : Int) (v30 : List (GBranch)) (v31 : Int) (v32 : Int) : Option (((List (GBranch)))) := M ctx tb G 23 (v0, v1, v2, v3, v4, v5, v6, v7, v8, v9, v10, v11, v12, v13, v14, v15, v16, v17, v18, v19, v20, v21, v22, v23, v24, v25, v26, v27, v28, v29, v30, v31, v32)
noncomputable def core_Binds (v0 : GNode) : Option (((List (Int)))) := M ctx tb G 24 v0
noncomputable def law20_Few_L8 (v0 : List (GFun)) (v1 : Int) (v2 : Int) (v3 : List (GNode)) (v4 : Int) (v5 : Int) (v6 : List (GBranch)) (v7 : Int) (v8 : Int) : Option ((Unit) ⊕ (Unit)) := M ctx tb G 25 (v0, v1, v2, v3, v4, v5, v6, v7, v8)
noncomputable def rename_Maps_L4 (v0 : List (Int)) (v1 : List (Int)) (v2 : GFun) (v3 : List (Int)) (v4 : List (Int)) (v5 : Int) (v6 : Int) : Option (((List (Int)))) := M ctx tb G 26 (v0, v1, v2, v3, v4, v5, v6)
noncomputable def rename_shaped_4 (v0 : List (Int)) (v1 : List (Bool)) (v2 : List (Bool)) (v3 : List (Bool)) (v4 : List (Int)) (v5 : GFun) (v6 : Bool) (v7 : Int) : Option (((List (Int)) × (List (Bool)) × (List (Bool)) × (List (Bool)) × (List (Int)) × (Bool))) := M ctx tb G 27 (v0, v1, v2, v3, v4, v5, v6, v7)
noncomputable def core_Kids (v0 : GNode) : Option (((List (Int)))) := M ctx tb G 28 v0
noncomputable def ref21_sameNode (v0 : GNode) (v1 : GNode) : Option (((Bool))) := M ctx tb G 29 (v0, v1)
noncomputable def rename_scope_of_L0 (v0 : List (Int)) (v1 : List (Int)) (v2 : List (Int)) (v3 : Int) (v4 : Int) : Option (((List (Int)))) := M ctx tb G 30 (v0, v1, v2, v3, v4)
noncomputable def core_of (v0 : Int) : Option (((Gform) × (Bool))) := M ctx tb G 31 v0
noncomputable def rename_cloned (v0 : List (GBranch)) : Option (((List (GBranch)))) := M ctx tb G 32 v0
noncomputable def core_Binds_L0 (v0 : List (Int)) (v1 : List (GBranch)) (v2 : Int) (v3 : Int) : Option (((List (Int)))) := M ctx tb G 33 (v0, v1, v2, v3)
noncomputable def core_Uses (v0 : GNode) : Option (((List (Int)))) := M ctx tb G 34 v0
noncomputable def core_Kids_L0 (v0 : List (Int)) (v1 : List (GBranch)) (v2 : Int) (v3 : Int) : Option (((List (Int)))) := M ctx tb G 35 (v0, v1, v2, v3)
noncomputable def ref21_SameList (v0 : List (Int)) (v1 : List (Int)) : Option (((Bool))) := M ctx tb G 36 (v0, v1)
noncomputable def core_forms : Option ((Unit)) := M ctx tb G 37 ()
noncomputable def rename_Maps_L6 (v0 : List (Int)) (v1 : List (Int)) (v2 : GFun) (v3 : List (Int)) (v4 : Int) (v5 : Int) : Option (((List (Int)))) := M ctx tb G 38 (v0, v1, v2, v3, v4, v5)
noncomputable def rename_shaped_4_L0 (v0 : List (Int)) (v1 : List (Bool)) (v2 : List (Bool)) (v3 : List (Bool)) (v4 : List (Int)) (v5 : GFun) (v6 : Bool) (v7 : GNode) (v8 : List (Int)) (v9 : Int) (v10 : Int) : Option ((Unit) ⊕ (Unit)) := M ctx tb G 39 (v0, v1, v2, v3, v4, v5, v6, v7, v8, v9, v10)
noncomputable def ref21_sameNode_L0 (v0 : GNode) (v1 : GNode) (v2 : Int) : Option ((Unit) ⊕ (Unit)) := M ctx tb G 40 (v0, v1, v2)
noncomputable def rename_cloned_L0 (v0 : List (GBranch)) (v1 : List (GBranch)) (v2 : Int) (v3 : Int) : Option (((List (GBranch)))) := M ctx tb G 41 (v0, v1, v2, v3)
noncomputable def core_Uses_L0 (v0 : List (Int)) (v1 : List (Int)) (v2 : Int) (v3 : Int) : Option (((List (Int)))) := M ctx tb G 42 (v0, v1, v2, v3)
noncomputable def ref21_SameList_L0 (v0 : List (Int)) (v1 : List (Int)) (v2 : Int) : Option ((Unit) ⊕ (Unit)) := M ctx tb G 43 (v0, v1, v2)
noncomputable def rename_shaped_4_L2 (v0 : List (Int)) (v1 : List (Bool)) (v2 : List (Bool)) (v3 : List (Bool)) (v4 : List (Int)) (v5 : GFun) (v6 : Bool) (v7 : GNode) (v8 : List (Int)) (v9 : Int) (v10 : Int) : Option (((List (Int)) × (List (Bool)) × (List (Bool)) × (List (Bool)) × (List (Int)) × (Bool)) ⊕ ((List (Int)) × (List (Bool)) × (List (Bool)) × (List (Bool)) × (List (Int)) × (Bool))) := M ctx tb G 44 (v0, v1, v2, v3, v4, v5, v6, v7, v8, v9, v10)
noncomputable def rename_shaped_2 (v0 : List (Bool)) (v1 : List (Bool)) (v2 : List (Int)) (v3 : GFun) (v4 : List (Int)) : Option (((List (Bool)) × (List (Bool)) × (List (Int)) × (Bool))) := M ctx tb G 45 (v0, v1, v2, v3, v4)
noncomputable def rename_shaped_2_L0 (v0 : List (Bool)) (v1 : List (Bool)) (v2 : List (Int)) (v3 : GFun) (v4 : List (Int)) (v5 : Int) (v6 : Int) : Option (((List (Bool)) × (List (Bool)) × (List (Int))) ⊕ ((List (Bool)) × (List (Bool)) × (List (Int)))) := M ctx tb G 46 (v0, v1, v2, v3, v4, v5, v6)
noncomputable def rename_shaped_3 (v0 : List (Bool)) (v1 : List (Int)) : Option (((List (Bool)))) := M ctx tb G 47 (v0, v1)
noncomputable def rename_shaped_3_L0 (v0 : List (Bool)) (v1 : List (Int)) (v2 : Int) (v3 : Int) : Option (((List (Bool)))) := M ctx tb G 48 (v0, v1, v2, v3)
theorem law21_RenameSettles_eq (v0 : GFun) : law21_RenameSettles v0 =
  Option.bind (law21_awake) fun v1 =>
  bif v1 then
    Option.bind (law21_few v0) fun v2 =>
    bif v2 then
      Option.bind (rename_Normal v0) fun ⟨v3, v4⟩ =>
      bif (decide (v4 = (0 : Int))) then
        Option.bind (rename_Normal v3) fun ⟨v5, v6⟩ =>
        Option.bind (rename_Maps v3) fun ⟨v7, v8, v9⟩ =>
        bif (decide (v6 = (0 : Int))) then
          bif (decide (v9 = (0 : Int))) then
            Option.bind (ref21_SameFun v3 v5) fun v10 =>
            bif v10 then
              bif (decide ((v7.length : Int) = (v3.2.2.2.2.1.length : Int))) then
                bif (decide ((v8.length : Int) = (v3.2.2.2.1.length : Int))) then
                  Option.bind (law21_RenameSettles_L0 v7 v8 (0 : Int)) fun z => match z with
                  | (.inl _) =>
                    some false
                  | (.inr _) =>
                    Option.bind (law21_RenameSettles_L2 v8 (0 : Int)) fun z => match z with
                    | (.inl _) =>
                      some false
                    | (.inr _) =>
                      some true
                else
                  some false
              else
                some false
            else
              some false
          else
            some false
        else
          some false
      else
        bif (decide ((v3.2.2.2.2.1.length : Int) = (0 : Int))) then
          some (decide ((v3.2.2.2.1.length : Int) = (0 : Int)))
        else
          some false
    else
      some true
  else
    some false := (M_eq ctx tb G 0 (by kernel_rfl) v0).trans (by kernel_rfl)
theorem law21_few_eq (v0 : GFun) : law21_few v0 =
  Option.bind (law20_Few (([] : List (GData)), (v0 :: ([] : List (GFun))))) fun v1 =>
  some v1 := (M_eq ctx tb G 2 (by kernel_rfl) v0).trans (by kernel_rfl)
theorem rename_Normal_eq (v0 : GFun) : rename_Normal v0 =
  Option.bind (rename_shaped v0) fun ⟨v1, v2, v3⟩ =>
  bif v3 then
    bif (decide (v0.2.1 < (0 : Int))) then
      none
    else
      bif (decide ((v0.2.2.2.1.length : Int) < v0.2.1)) then
        none
      else
        bif (decide (((List.take v0.2.1.toNat v0.2.2.2.1).length * (16 : Nat)) ≤ (35184372088832 : Nat))) then
          Option.bind (rename_Normal_L0 ([] : List (GVar)) ([] : List (GNode)) (List.take v0.2.1.toNat v0.2.2.2.1) ([] : List (GNode)) v0 ([] : List UInt8) (0 : Int) (0 : Int) (0 : Int) (false) v0.1 v0.2.1 v0.2.2.1 (0 : Int) v0.2.2.2.2.2.2 v1 v2 (v2.length : Int) (0 : Int)) fun v4 =>
          Option.bind (rename_Maps v0) fun ⟨v5, v6, v7⟩ =>
          Option.bind (rename_Normal_L2 ([] : List (GVar)) ([] : List (GNode)) v4 ([] : List (GNode)) v0 ([] : List UInt8) (0 : Int) (0 : Int) (0 : Int) (false) v0.1 v0.2.1 v0.2.2.1 (0 : Int) v0.2.2.2.2.2.2 v5 v6 v1 (v1.length : Int) (0 : Int)) fun v8 =>
          some ((v0.1, (v0.2.1, (v0.2.2.1, (v4, (v8, ((0 : Int), v0.2.2.2.2.2.2)))))), (0 : Int))
        else
          none
  else
    some ((([] : List UInt8), ((0 : Int), ((0 : Int), (([] : List (GVar)), (([] : List (GNode)), ((0 : Int), false)))))), (3 : Int)) := (M_eq ctx tb G 3 (by kernel_rfl) v0).trans (by kernel_rfl)
theorem law20_Few_eq (v0 : GProgram) : law20_Few v0 =
  bif (decide ((12 : Int) < (v0.1.length : Int))) then
    some false
  else
    bif (decide ((6 : Int) < (v0.2.length : Int))) then
      some false
    else
      Option.bind (law20_Few_L0 v0 v0.1 (v0.1.length : Int) (0 : Int)) fun z => match z with
      | (.inl _) =>
        some false
      | (.inr _) =>
        Option.bind (law20_Few_L4 v0.2 (v0.2.length : Int) (0 : Int)) fun z => match z with
        | (.inl _) =>
          some false
        | (.inr _) =>
          some true := (M_eq ctx tb G 4 (by kernel_rfl) v0).trans (by kernel_rfl)
theorem rename_Maps_eq (v0 : GFun) : rename_Maps v0 =
  Option.bind (rename_shaped v0) fun ⟨v1, v2, v3⟩ =>
  bif v3 then
    bif (decide ((v0.2.2.2.2.1.length : Int) < (0 : Int))) then
      none
    else
      bif (decide (((v0.2.2.2.2.1.length : Int).toNat * (8 : Nat)) ≤ (140737488355328 : Nat))) then
        bif (decide ((v0.2.2.2.1.length : Int) < (0 : Int))) then
          none
        else
          bif (decide (((v0.2.2.2.1.length : Int).toNat * (8 : Nat)) ≤ (140737488355328 : Nat))) then
            Option.bind (rename_Maps_L0 (List.replicate (v0.2.2.2.2.1.length : Int).toNat (0 : Int)) (List.replicate (v0.2.2.2.1.length : Int).toNat (0 : Int)) v0 v1 v2 ((List.replicate (v0.2.2.2.2.1.length : Int).toNat (0 : Int)).length : Int) (0 : Int)) fun v4 =>
            Option.bind (rename_Maps_L2 v4 (List.replicate (v0.2.2.2.1.length : Int).toNat (0 : Int)) v0 v1 v2 ((List.replicate (v0.2.2.2.1.length : Int).toNat (0 : Int)).length : Int) (0 : Int)) fun v5 =>
            Option.bind (rename_Maps_L4 v4 v5 v0 v2 v1 (v1.length : Int) (0 : Int)) fun v6 =>
            Option.bind (rename_Maps_L6 v6 v5 v0 v2 (v2.length : Int) (0 : Int)) fun v7 =>
            some (v6, v7, (0 : Int))
          else
            none
      else
        none
  else
    some (([] : List (Int)), ([] : List (Int)), (3 : Int)) := (M_eq ctx tb G 5 (by kernel_rfl) v0).trans (by kernel_rfl)
theorem rename_shaped_eq (v0 : GFun) : rename_shaped v0 =
  bif (decide (v0.2.1 < (0 : Int))) then
    some (([] : List (Int)), ([] : List (Int)), false)
  else
    bif (decide ((v0.2.2.2.1.length : Int) < v0.2.1)) then
      some (([] : List (Int)), ([] : List (Int)), false)
    else
      bif v0.2.2.2.2.2.2 then
        some (([] : List (Int)), ([] : List (Int)), true)
      else
        bif (decide ((v0.2.2.2.2.1.length : Int) < (0 : Int))) then
          none
        else
          bif (decide (((v0.2.2.2.2.1.length : Int).toNat * (1 : Nat)) ≤ (140737488355328 : Nat))) then
            bif (decide ((v0.2.2.2.1.length : Int) < (0 : Int))) then
              none
            else
              bif (decide (((v0.2.2.2.1.length : Int).toNat * (1 : Nat)) ≤ (140737488355328 : Nat))) then
                Option.bind (rename_shaped_L0 ([] : List (Int)) ([] : List (Int)) (List.replicate (v0.2.2.2.2.1.length : Int).toNat false) (List.replicate (v0.2.2.2.1.length : Int).toNat false) (List.replicate (v0.2.2.2.1.length : Int).toNat false) v0 v0.2.1 (0 : Int)) fun ⟨v1, v2⟩ =>
                Option.bind (rename_shaped_1 (List.replicate (v0.2.2.2.2.1.length : Int).toNat false) v0 v0.2.2.2.2.2.1) fun ⟨v3, v4⟩ =>
                bif v4 then
                  Option.bind (rename_shaped_4 ([] : List (Int)) v2 v3 v1 ([] : List (Int)) v0 (true) v0.2.2.2.2.2.1) fun ⟨v5, v6, v7, v8, v9, v10⟩ =>
                  some (v5, v9, v10)
                else
                  some (([] : List (Int)), ([] : List (Int)), false)
              else
                none
          else
            none := (M_eq ctx tb G 6 (by kernel_rfl) v0).trans (by kernel_rfl)
theorem law20_Few_L0_eq (v0 : GProgram) (v1 : List (GData)) (v2 : Int) (v3 : Int) : law20_Few_L0 v0 v1 v2 v3 =
  bif (decide (v3 < v2)) then
    Option.bind (Sy.at' v1 v3) fun v4 =>
    bif (decide ((60 : Int) < (v4.1.length : Int))) then
      some (.inl ())
    else
      bif (decide ((20 : Int) < (v4.2.length : Int))) then
        some (.inl ())
      else
        Option.bind (law20_Few_L2 v0 v1 v2 v3 v4.2 (v4.2.length : Int) (0 : Int)) fun z => match z with
        | (.inl _) =>
          some (.inl ())
        | (.inr _) =>
          law20_Few_L0 v0 v1 v2 (Ev.wr .i64 (v3 + (1 : Int)))
  else
    some (.inr ()) := (M_eq ctx tb G 7 (by kernel_rfl) (v0, v1, v2, v3)).trans (by kernel_rfl)
theorem ref21_SameFun_eq (v0 : GFun) (v1 : GFun) : ref21_SameFun v0 v1 =
  bif (decide (v0.1 = v1.1)) then
    bif (decide (v0.2.1 = v1.2.1)) then
      bif (decide (v0.2.2.1 = v1.2.2.1)) then
        bif (decide (v0.2.2.2.2.2.1 = v1.2.2.2.2.2.1)) then
          bif (v0.2.2.2.2.2.2 == v1.2.2.2.2.2.2) then
            bif (decide ((v0.2.2.2.1.length : Int) = (v1.2.2.2.1.length : Int))) then
              bif (decide ((v0.2.2.2.2.1.length : Int) = (v1.2.2.2.2.1.length : Int))) then
                Option.bind (ref21_SameFun_L0 v0 v1 (0 : Int)) fun z => match z with
                | (.inl _) =>
                  some false
                | (.inr _) =>
                  Option.bind (ref21_SameFun_L2 v0 v1 (0 : Int)) fun z => match z with
                  | (.inl _) =>
                    some true
                  | (.inr _) =>
                    some false
              else
                some false
            else
              some false
          else
            some false
        else
          some false
      else
        some false
    else
      some false
  else
    some false := (M_eq ctx tb G 8 (by kernel_rfl) (v0, v1)).trans (by kernel_rfl)
theorem rename_Normal_L0_eq (v0 : List (GVar)) (v1 : List (GNode)) (v2 : List (GVar)) (v3 : List (GNode)) (v4 : GFun) (v5 : List UInt8) (v6 : Int) (v7 : Int) (v8 : Int) (v9 : Bool) (v10 : List UInt8) (v11 : Int) (v12 : Int) (v13 : Int) (v14 : Bool) (v15 : List (Int)) (v16 : List (Int)) (v17 : Int) (v18 : Int) : rename_Normal_L0 v0 v1 v2 v3 v4 v5 v6 v7 v8 v9 v10 v11 v12 v13 v14 v15 v16 v17 v18 =
  bif (decide (v18 < v17)) then
    Option.bind (Sy.at' v16 v18) fun v19 =>
    Option.bind (Sy.at' v4.2.2.2.1 v19) fun v20 =>
    bif (decide (((v2.length + (1 : Nat)) * (16 : Nat)) ≤ (35184372088832 : Nat))) then
      rename_Normal_L0 v0 v1 (v2 ++ (v20 :: ([] : List (GVar)))) v3 v4 v5 v6 v7 v8 v9 v10 v11 v12 v13 v14 v15 v16 v17 (Ev.wr .i64 (v18 + (1 : Int)))
    else
      none
  else
    some v2 := (M_eq ctx tb G 9 (by kernel_rfl) (v0, v1, v2, v3, v4, v5, v6, v7, v8, v9, v10, v11, v12, v13, v14, v15, v16, v17, v18)).trans (by kernel_rfl)
theorem rename_Maps_L0_eq (v0 : List (Int)) (v1 : List (Int)) (v2 : GFun) (v3 : List (Int)) (v4 : List (Int)) (v5 : Int) (v6 : Int) : rename_Maps_L0 v0 v1 v2 v3 v4 v5 v6 =
  bif (decide (v6 < v5)) then
    Option.bind (Sy.at' v0 v6) fun v7 =>
    rename_Maps_L0 (List.set v0 v6.toNat (-1 : Int)) v1 v2 v3 v4 v5 (Ev.wr .i64 (v6 + (1 : Int)))
  else
    some v0 := (M_eq ctx tb G 10 (by kernel_rfl) (v0, v1, v2, v3, v4, v5, v6)).trans (by kernel_rfl)
theorem rename_shaped_L0_eq (v0 : List (Int)) (v1 : List (Int)) (v2 : List (Bool)) (v3 : List (Bool)) (v4 : List (Bool)) (v5 : GFun) (v6 : Int) (v7 : Int) : rename_shaped_L0 v0 v1 v2 v3 v4 v5 v6 v7 =
  bif (decide (v7 < v6)) then
    Option.bind (Sy.at' v3 v7) fun v8 =>
    Option.bind (Sy.at' v4 v7) fun v9 =>
    rename_shaped_L0 v0 v1 v2 (List.set v3 v7.toNat true) (List.set v4 v7.toNat true) v5 v6 (Ev.wr .i64 (v7 + (1 : Int)))
  else
    some (v3, v4) := (M_eq ctx tb G 11 (by kernel_rfl) (v0, v1, v2, v3, v4, v5, v6, v7)).trans (by kernel_rfl)
theorem law20_Few_L2_eq (v0 : GProgram) (v1 : List (GData)) (v2 : Int) (v3 : Int) (v4 : List (GCon)) (v5 : Int) (v6 : Int) : law20_Few_L2 v0 v1 v2 v3 v4 v5 v6 =
  bif (decide (v6 < v5)) then
    Option.bind (Sy.at' v4 v6) fun v7 =>
    bif (decide ((60 : Int) < (v7.1.length : Int))) then
      some (.inl ())
    else
      bif (decide ((10 : Int) < (v7.2.length : Int))) then
        some (.inl ())
      else
        law20_Few_L2 v0 v1 v2 v3 v4 v5 (Ev.wr .i64 (v6 + (1 : Int)))
  else
    some (.inr ()) := (M_eq ctx tb G 12 (by kernel_rfl) (v0, v1, v2, v3, v4, v5, v6)).trans (by kernel_rfl)
theorem law21_RenameSettles_L0_eq (v0 : List (Int)) (v1 : List (Int)) (v2 : Int) : law21_RenameSettles_L0 v0 v1 v2 =
  bif (decide (v2 < (v0.length : Int))) then
    Option.bind (Sy.at' v0 v2) fun v3 =>
    bif (decide (v3 = v2)) then
      law21_RenameSettles_L0 v0 v1 (Ev.wr .i64 (v2 + (1 : Int)))
    else
      some (.inl ())
  else
    some (.inr ()) := (M_eq ctx tb G 13 (by kernel_rfl) (v0, v1, v2)).trans (by kernel_rfl)
theorem law20_Few_L4_eq (v0 : List (GFun)) (v1 : Int) (v2 : Int) : law20_Few_L4 v0 v1 v2 =
  bif (decide (v2 < v1)) then
    Option.bind (Sy.at' v0 v2) fun v3 =>
    bif (decide ((100 : Int) < (v3.1.length : Int))) then
      some (.inl ())
    else
      bif (decide ((120 : Int) < (v3.2.2.2.1.length : Int))) then
        some (.inl ())
      else
        bif (decide ((80 : Int) < (v3.2.2.2.2.1.length : Int))) then
          some (.inl ())
        else
          bif (decide ((200 : Int) < v3.2.1)) then
            some (.inl ())
          else
            Option.bind (law20_Few_L6 v0 v1 v2 v3.2.2.2.2.1 (v3.2.2.2.2.1.length : Int) (0 : Int)) fun z => match z with
            | (.inl _) =>
              some (.inl ())
            | (.inr _) =>
              law20_Few_L4 v0 v1 (Ev.wr .i64 (v2 + (1 : Int)))
  else
    some (.inr ()) := (M_eq ctx tb G 14 (by kernel_rfl) (v0, v1, v2)).trans (by kernel_rfl)
theorem ref21_SameFun_L0_eq (v0 : GFun) (v1 : GFun) (v2 : Int) : ref21_SameFun_L0 v0 v1 v2 =
  bif (decide (v2 < (v0.2.2.2.1.length : Int))) then
    Option.bind (Sy.at' v0.2.2.2.1 v2) fun v3 =>
    Option.bind (Sy.at' v1.2.2.2.1 v2) fun v4 =>
    bif ((decide (v3.1 = v4.1)) && (v3.2 == v4.2)) then
      ref21_SameFun_L0 v0 v1 (Ev.wr .i64 (v2 + (1 : Int)))
    else
      some (.inl ())
  else
    some (.inr ()) := (M_eq ctx tb G 15 (by kernel_rfl) (v0, v1, v2)).trans (by kernel_rfl)
theorem rename_Normal_L2_eq (v0 : List (GVar)) (v1 : List (GNode)) (v2 : List (GVar)) (v3 : List (GNode)) (v4 : GFun) (v5 : List UInt8) (v6 : Int) (v7 : Int) (v8 : Int) (v9 : Bool) (v10 : List UInt8) (v11 : Int) (v12 : Int) (v13 : Int) (v14 : Bool) (v15 : List (Int)) (v16 : List (Int)) (v17 : List (Int)) (v18 : Int) (v19 : Int) : rename_Normal_L2 v0 v1 v2 v3 v4 v5 v6 v7 v8 v9 v10 v11 v12 v13 v14 v15 v16 v17 v18 v19 =
  bif (decide (v19 < v18)) then
    Option.bind (Sy.at' v17 v19) fun v20 =>
    Option.bind (Sy.at' v4.2.2.2.2.1 v20) fun v21 =>
    Option.bind ((show Option (((GNode))) from
        bif (decide (v21.1 < (0 : Int))) then
          some v21
        else
          bif (decide ((9 : Int) < v21.1)) then
            some v21
          else
            bif (decide (v21.1 = (1 : Int))) then
              some v21
            else
              Option.bind (rename_scope_of v16 v21.2.2.1) fun v22 =>
              Option.bind (rename_scope_of v16 v21.2.2.2.2.2.2.1) fun v23 =>
              some (v21.1, (v21.2.1, (v22, (v21.2.2.2.1, (v21.2.2.2.2.1, (v21.2.2.2.2.2.1, (v23, v21.2.2.2.2.2.2.2))))))))) fun v22 =>
    Option.bind ((show Option (((GNode))) from
        bif (decide (v22.1 = (9 : Int))) then
          some v22
        else
          Option.bind (core_Binds v22) fun v23 =>
          bif (decide ((0 : Int) < (v23.length : Int))) then
            Option.bind (Sy.at' v16 v22.2.1) fun v24 =>
            some (v22.1, (v24, v22.2.2))
          else
            some v22)) fun v23 =>
    Option.bind ((show Option (((GNode))) from
        bif (decide (v23.1 = (9 : Int))) then
          some v23
        else
          Option.bind (core_Kids v23) fun v24 =>
          bif (decide ((0 : Int) < (v24.length : Int))) then
            Option.bind (Sy.at' v15 v23.2.2.2.2.2.2.2.2.2) fun v25 =>
            some (v23.1, (v23.2.1, (v23.2.2.1, (v23.2.2.2.1, (v23.2.2.2.2.1, (v23.2.2.2.2.2.1, (v23.2.2.2.2.2.2.1, (v23.2.2.2.2.2.2.2.1, (v23.2.2.2.2.2.2.2.2.1, v25)))))))))
          else
            some v23)) fun v24 =>
    Option.bind ((show Option (((List (GBranch))) ⊕ ((GNode))) from
        bif (decide (v24.1 = (9 : Int))) then
          Option.bind (rename_Normal_L4 v0 v1 v2 v3 ([] : List (GBranch)) v4 v5 v6 v7 v8 v9 v10 v11 v12 v13 v14 v24.1 v24.2.1 v24.2.2.1 v24.2.2.2.1 v24.2.2.2.2.1 v24.2.2.2.2.2.1 v24.2.2.2.2.2.2.1 v24.2.2.2.2.2.2.2.1 v24.2.2.2.2.2.2.2.2.2 v15 v16 v17 v18 v19 v24.2.2.2.2.2.2.2.2.1 (v24.2.2.2.2.2.2.2.2.1.length : Int) (0 : Int)) fun v25 =>
          some (.inl v25)
        else
          Option.bind (rename_cloned v24.2.2.2.2.2.2.2.2.1) fun v25 =>
          some (.inr (v24.1, (v24.2.1, (v24.2.2.1, (v24.2.2.2.1, (v24.2.2.2.2.1, (v24.2.2.2.2.2.1, (v24.2.2.2.2.2.2.1, (v24.2.2.2.2.2.2.2.1, (v25, v24.2.2.2.2.2.2.2.2.2)))))))))))) fun z => match z with
    | (.inl v25) =>
      Option.bind ((show Option ((Unit) ⊕ (Unit)) from
          bif (decide (v24.1 < (0 : Int))) then
            bif (decide ((v24.2.2.1.length * (8 : Nat)) ≤ (35184372088832 : Nat))) then
              bif (decide ((v24.2.2.2.2.2.2.1.length * (8 : Nat)) ≤ (35184372088832 : Nat))) then
                some (.inl ())
              else
                none
            else
              none
          else
            bif (decide ((9 : Int) < v24.1)) then
              bif (decide ((v24.2.2.1.length * (8 : Nat)) ≤ (35184372088832 : Nat))) then
                bif (decide ((v24.2.2.2.2.2.2.1.length * (8 : Nat)) ≤ (35184372088832 : Nat))) then
                  some (.inl ())
                else
                  none
              else
                none
            else
              bif (decide (v24.1 = (1 : Int))) then
                bif (decide ((v24.2.2.1.length * (8 : Nat)) ≤ (35184372088832 : Nat))) then
                  bif (decide ((v24.2.2.2.2.2.2.1.length * (8 : Nat)) ≤ (35184372088832 : Nat))) then
                    some (.inl ())
                  else
                    none
                else
                  none
              else
                some (.inr ()))) fun z => match z with
      | (.inl _) =>
        bif (decide (((v3.length + (1 : Nat)) * (128 : Nat)) ≤ (35184372088832 : Nat))) then
          rename_Normal_L2 v0 v1 v2 (v3 ++ ((v24.1, (v24.2.1, (v24.2.2.1, (v24.2.2.2.1, (v24.2.2.2.2.1, (v24.2.2.2.2.2.1, (v24.2.2.2.2.2.2.1, (v24.2.2.2.2.2.2.2.1, (v25, v24.2.2.2.2.2.2.2.2.2))))))))) :: ([] : List (GNode)))) v4 v5 v6 v7 v8 v9 v10 v11 v12 v13 v14 v15 v16 v17 v18 (Ev.wr .i64 (v19 + (1 : Int)))
        else
          none
      | (.inr _) =>
        bif (decide (((v3.length + (1 : Nat)) * (128 : Nat)) ≤ (35184372088832 : Nat))) then
          rename_Normal_L2 v0 v1 v2 (v3 ++ ((v24.1, (v24.2.1, (v24.2.2.1, (v24.2.2.2.1, (v24.2.2.2.2.1, (v24.2.2.2.2.2.1, (v24.2.2.2.2.2.2.1, (v24.2.2.2.2.2.2.2.1, (v25, v24.2.2.2.2.2.2.2.2.2))))))))) :: ([] : List (GNode)))) v4 v5 v6 v7 v8 v9 v10 v11 v12 v13 v14 v15 v16 v17 v18 (Ev.wr .i64 (v19 + (1 : Int)))
        else
          none
    | (.inr v25) =>
      Option.bind ((show Option ((Unit) ⊕ (Unit)) from
          bif (decide (v25.1 < (0 : Int))) then
            bif (decide ((v25.2.2.1.length * (8 : Nat)) ≤ (35184372088832 : Nat))) then
              bif (decide ((v25.2.2.2.2.2.2.1.length * (8 : Nat)) ≤ (35184372088832 : Nat))) then
                some (.inl ())
              else
                none
            else
              none
          else
            bif (decide ((9 : Int) < v25.1)) then
              bif (decide ((v25.2.2.1.length * (8 : Nat)) ≤ (35184372088832 : Nat))) then
                bif (decide ((v25.2.2.2.2.2.2.1.length * (8 : Nat)) ≤ (35184372088832 : Nat))) then
                  some (.inl ())
                else
                  none
              else
                none
            else
              bif (decide (v25.1 = (1 : Int))) then
                bif (decide ((v25.2.2.1.length * (8 : Nat)) ≤ (35184372088832 : Nat))) then
                  bif (decide ((v25.2.2.2.2.2.2.1.length * (8 : Nat)) ≤ (35184372088832 : Nat))) then
                    some (.inl ())
                  else
                    none
                else
                  none
              else
                some (.inr ()))) fun z => match z with
      | (.inl _) =>
        bif (decide (((v3.length + (1 : Nat)) * (128 : Nat)) ≤ (35184372088832 : Nat))) then
          rename_Normal_L2 v0 v1 v2 (v3 ++ (v25 :: ([] : List (GNode)))) v4 v5 v6 v7 v8 v9 v10 v11 v12 v13 v14 v15 v16 v17 v18 (Ev.wr .i64 (v19 + (1 : Int)))
        else
          none
      | (.inr _) =>
        bif (decide (((v3.length + (1 : Nat)) * (128 : Nat)) ≤ (35184372088832 : Nat))) then
          rename_Normal_L2 v0 v1 v2 (v3 ++ (v25 :: ([] : List (GNode)))) v4 v5 v6 v7 v8 v9 v10 v11 v12 v13 v14 v15 v16 v17 v18 (Ev.wr .i64 (v19 + (1 : Int)))
        else
          none
  else
    some v3 := (M_eq ctx tb G 16 (by kernel_rfl) (v0, v1, v2, v3, v4, v5, v6, v7, v8, v9, v10, v11, v12, v13, v14, v15, v16, v17, v18, v19)).trans (by kernel_rfl)
theorem rename_Maps_L2_eq (v0 : List (Int)) (v1 : List (Int)) (v2 : GFun) (v3 : List (Int)) (v4 : List (Int)) (v5 : Int) (v6 : Int) : rename_Maps_L2 v0 v1 v2 v3 v4 v5 v6 =
  bif (decide (v6 < v5)) then
    Option.bind (Sy.at' v1 v6) fun v7 =>
    bif (decide (v6 < v2.2.1)) then
      rename_Maps_L2 v0 (List.set (List.set v1 v6.toNat (-1 : Int)) v6.toNat v6) v2 v3 v4 v5 (Ev.wr .i64 (v6 + (1 : Int)))
    else
      rename_Maps_L2 v0 (List.set v1 v6.toNat (-1 : Int)) v2 v3 v4 v5 (Ev.wr .i64 (v6 + (1 : Int)))
  else
    some v1 := (M_eq ctx tb G 17 (by kernel_rfl) (v0, v1, v2, v3, v4, v5, v6)).trans (by kernel_rfl)
theorem rename_shaped_1_eq (v0 : List (Bool)) (v1 : GFun) (v2 : Int) : rename_shaped_1 v0 v1 v2 =
  bif (decide (v2 < (0 : Int))) then
    some (v0, false)
  else
    bif (decide (v2 < (v1.2.2.2.2.1.length : Int))) then
      Option.bind (Sy.at' v0 v2) fun v3 =>
      bif v3 then
        some (v0, false)
      else
        some ((List.set v0 v2.toNat true), true)
    else
      some (v0, false) := (M_eq ctx tb G 18 (by kernel_rfl) (v0, v1, v2)).trans (by kernel_rfl)
theorem law20_Few_L6_eq (v0 : List (GFun)) (v1 : Int) (v2 : Int) (v3 : List (GNode)) (v4 : Int) (v5 : Int) : law20_Few_L6 v0 v1 v2 v3 v4 v5 =
  bif (decide (v5 < v4)) then
    Option.bind (Sy.at' v3 v5) fun v6 =>
    bif (decide ((12 : Int) < (v6.2.2.1.length : Int))) then
      some (.inl ())
    else
      bif (decide ((12 : Int) < (v6.2.2.2.2.2.2.1.length : Int))) then
        some (.inl ())
      else
        bif (decide ((20 : Int) < (v6.2.2.2.2.2.2.2.2.1.length : Int))) then
          some (.inl ())
        else
          Option.bind (law20_Few_L8 v0 v1 v2 v3 v4 v5 v6.2.2.2.2.2.2.2.2.1 (v6.2.2.2.2.2.2.2.2.1.length : Int) (0 : Int)) fun z => match z with
          | (.inl _) =>
            some (.inl ())
          | (.inr _) =>
            law20_Few_L6 v0 v1 v2 v3 v4 (Ev.wr .i64 (v5 + (1 : Int)))
  else
    some (.inr ()) := (M_eq ctx tb G 19 (by kernel_rfl) (v0, v1, v2, v3, v4, v5)).trans (by kernel_rfl)
theorem law21_RenameSettles_L2_eq (v0 : List (Int)) (v1 : Int) : law21_RenameSettles_L2 v0 v1 =
  bif (decide (v1 < (v0.length : Int))) then
    Option.bind (Sy.at' v0 v1) fun v2 =>
    bif (decide (v2 = v1)) then
      law21_RenameSettles_L2 v0 (Ev.wr .i64 (v1 + (1 : Int)))
    else
      some (.inl ())
  else
    some (.inr ()) := (M_eq ctx tb G 20 (by kernel_rfl) (v0, v1)).trans (by kernel_rfl)
theorem ref21_SameFun_L2_eq (v0 : GFun) (v1 : GFun) (v2 : Int) : ref21_SameFun_L2 v0 v1 v2 =
  bif (decide (v2 < (v0.2.2.2.2.1.length : Int))) then
    Option.bind (Sy.at' v0.2.2.2.2.1 v2) fun v3 =>
    Option.bind (Sy.at' v1.2.2.2.2.1 v2) fun v4 =>
    Option.bind (ref21_sameNode v3 v4) fun v5 =>
    bif v5 then
      ref21_SameFun_L2 v0 v1 (Ev.wr .i64 (v2 + (1 : Int)))
    else
      some (.inr ())
  else
    some (.inl ()) := (M_eq ctx tb G 21 (by kernel_rfl) (v0, v1, v2)).trans (by kernel_rfl)
theorem rename_scope_of_eq (v0 : List (Int)) (v1 : List (Int)) : rename_scope_of v0 v1 =
  Option.bind (rename_scope_of_L0 ([] : List (Int)) v0 v1 (v1.length : Int) (0 : Int)) fun v2 =>
  some v2 := (M_eq ctx tb G 22 (by kernel_rfl) (v0, v1)).trans (by kernel_rfl)
theorem rename_Normal_L4_eq (v0 : List (GVar)) (v1 : List (GNode)) (v2 : List (GVar)) (v3 : List (GNode)) (v4 : List (GBranch)) (v5 : GFun) (v6 : List UInt8) (v7 : Int) (v8 : Int) (v9 : Int) (v10 : Bool) (v11 : List UInt8) (v12 : Int) (v13 : Int) (v14 : Int) (v15 : Bool) (v16 : Int) (v17 : Int) (v18 : List (Int)) (v19 : Int) (v20 : Int) (v21 : Int) (v22 : List (Int)) (v23 : Bool) (v24 : Int) (v25 : List (Int)) (v26 : List (Int)) (v27 : List (Int)) (v28 : Int) (v29 : Int) (v30 : List (GBranch)) (v31 : Int) (v32 : Int) : rename_Normal_L4 v0 v1 v2 v3 v4 v5 v6 v7 v8 v9 v10 v11 v12 v13 v14 v15 v16 v17 v18 v19 v20 v21 v22 v23 v24 v25 v26 v27 v28 v29 v30 v31 v32 =
  bif (decide (v32 < v31)) then
    Option.bind (Sy.at' v30 v32) fun v33 =>
    Option.bind (Sy.at' v25 v33.2) fun v34 =>
    Option.bind (rename_scope_of v26 v33.1) fun v35 =>
    bif (decide (((v4.length + (1 : Nat)) * (32 : Nat)) ≤ (35184372088832 : Nat))) then
      rename_Normal_L4 v0 v1 v2 v3 (v4 ++ ((v35, v34) :: ([] : List (GBranch)))) v5 v6 v7 v8 v9 v10 v11 v12 v13 v14 v15 v16 v17 v18 v19 v20 v21 v22 v23 v24 v25 v26 v27 v28 v29 v30 v31 (Ev.wr .i64 (v32 + (1 : Int)))
    else
      none
  else
    some v4 := (M_eq ctx tb G 23 (by kernel_rfl) (v0, v1, v2, v3, v4, v5, v6, v7, v8, v9, v10, v11, v12, v13, v14, v15, v16, v17, v18, v19, v20, v21, v22, v23, v24, v25, v26, v27, v28, v29, v30, v31, v32)).trans (by kernel_rfl)
theorem core_Binds_eq (v0 : GNode) : core_Binds v0 =
  Option.bind (core_of v0.1) fun ⟨v1, v2⟩ =>
  Option.bind ((show Option (((List (Int)))) from
      bif v1.2.1 then
        some (v0.2.1 :: ([] : List (Int)))
      else
        some ([] : List (Int)))) fun v3 =>
  Option.bind ((show Option (((List (Int)))) from
      bif v1.2.2.2.2.2.2.2.2 then
        Option.bind (core_Binds_L0 v3 v0.2.2.2.2.2.2.2.2.1 (v0.2.2.2.2.2.2.2.2.1.length : Int) (0 : Int)) fun v4 =>
        some v4
      else
        some v3)) fun v4 =>
  some v4 := (M_eq ctx tb G 24 (by kernel_rfl) v0).trans (by kernel_rfl)
theorem law20_Few_L8_eq (v0 : List (GFun)) (v1 : Int) (v2 : Int) (v3 : List (GNode)) (v4 : Int) (v5 : Int) (v6 : List (GBranch)) (v7 : Int) (v8 : Int) : law20_Few_L8 v0 v1 v2 v3 v4 v5 v6 v7 v8 =
  bif (decide (v8 < v7)) then
    Option.bind (Sy.at' v6 v8) fun v9 =>
    bif (decide ((12 : Int) < (v9.1.length : Int))) then
      some (.inl ())
    else
      law20_Few_L8 v0 v1 v2 v3 v4 v5 v6 v7 (Ev.wr .i64 (v8 + (1 : Int)))
  else
    some (.inr ()) := (M_eq ctx tb G 25 (by kernel_rfl) (v0, v1, v2, v3, v4, v5, v6, v7, v8)).trans (by kernel_rfl)
theorem rename_Maps_L4_eq (v0 : List (Int)) (v1 : List (Int)) (v2 : GFun) (v3 : List (Int)) (v4 : List (Int)) (v5 : Int) (v6 : Int) : rename_Maps_L4 v0 v1 v2 v3 v4 v5 v6 =
  bif (decide (v6 < v5)) then
    Option.bind (Sy.at' v4 v6) fun v7 =>
    Option.bind (Sy.at' v0 v7) fun v8 =>
    rename_Maps_L4 (List.set v0 v7.toNat v6) v1 v2 v3 v4 v5 (Ev.wr .i64 (v6 + (1 : Int)))
  else
    some v0 := (M_eq ctx tb G 26 (by kernel_rfl) (v0, v1, v2, v3, v4, v5, v6)).trans (by kernel_rfl)
theorem rename_shaped_4_eq (v0 : List (Int)) (v1 : List (Bool)) (v2 : List (Bool)) (v3 : List (Bool)) (v4 : List (Int)) (v5 : GFun) (v6 : Bool) (v7 : Int) : rename_shaped_4 v0 v1 v2 v3 v4 v5 v6 v7 =
  Option.bind (Sy.at' v5.2.2.2.2.1 v7) fun v8 =>
  bif (decide (((v0.length + (1 : Nat)) * (8 : Nat)) ≤ (35184372088832 : Nat))) then
    Option.bind (core_Uses v8) fun v9 =>
    Option.bind (rename_shaped_4_L0 (v0 ++ (v7 :: ([] : List (Int)))) v1 v2 v3 v4 v5 v6 v8 v9 (v9.length : Int) (0 : Int)) fun z => match z with
    | (.inl _) =>
      some ((v0 ++ (v7 :: ([] : List (Int)))), v1, v2, v3, v4, false)
    | (.inr _) =>
      Option.bind (core_Kids v8) fun v10 =>
      Option.bind (rename_shaped_4_L2 (v0 ++ (v7 :: ([] : List (Int)))) v1 v2 v3 v4 v5 v6 v8 v10 (v10.length : Int) (0 : Int)) fun z => match z with
      | (.inl ⟨v11, v12, v13, v14, v15, v16⟩) =>
        some (v11, v12, v13, v14, v15, v16)
      | (.inr ⟨v11, v12, v13, v14, v15, v16⟩) =>
        some (v11, v12, v13, v14, v15, v16)
  else
    none := (M_eq ctx tb G 27 (by kernel_rfl) (v0, v1, v2, v3, v4, v5, v6, v7)).trans (by kernel_rfl)
theorem core_Kids_eq (v0 : GNode) : core_Kids v0 =
  Option.bind (core_of v0.1) fun ⟨v1, v2⟩ =>
  Option.bind ((show Option (((List (Int)))) from
      bif v1.2.2.2.2.2.2.2.1 then
        some (v0.2.2.2.2.2.2.2.2.2 :: ([] : List (Int)))
      else
        some ([] : List (Int)))) fun v3 =>
  Option.bind ((show Option (((List (Int)))) from
      bif v1.2.2.2.2.2.2.2.2 then
        Option.bind (core_Kids_L0 v3 v0.2.2.2.2.2.2.2.2.1 (v0.2.2.2.2.2.2.2.2.1.length : Int) (0 : Int)) fun v4 =>
        some v4
      else
        some v3)) fun v4 =>
  some v4 := (M_eq ctx tb G 28 (by kernel_rfl) v0).trans (by kernel_rfl)
theorem ref21_sameNode_eq (v0 : GNode) (v1 : GNode) : ref21_sameNode v0 v1 =
  bif (decide (v0.1 = v1.1)) then
    bif (decide (v0.2.1 = v1.2.1)) then
      bif (decide (v0.2.2.2.1 = v1.2.2.2.1)) then
        bif (decide (v0.2.2.2.2.1 = v1.2.2.2.2.1)) then
          bif (decide (v0.2.2.2.2.2.1 = v1.2.2.2.2.2.1)) then
            bif (v0.2.2.2.2.2.2.2.1 == v1.2.2.2.2.2.2.2.1) then
              bif (decide (v0.2.2.2.2.2.2.2.2.2 = v1.2.2.2.2.2.2.2.2.2)) then
                Option.bind (ref21_SameList v0.2.2.1 v1.2.2.1) fun v2 =>
                bif v2 then
                  Option.bind (ref21_SameList v0.2.2.2.2.2.2.1 v1.2.2.2.2.2.2.1) fun v3 =>
                  bif v3 then
                    bif (decide ((v0.2.2.2.2.2.2.2.2.1.length : Int) = (v1.2.2.2.2.2.2.2.2.1.length : Int))) then
                      Option.bind (ref21_sameNode_L0 v0 v1 (0 : Int)) fun z => match z with
                      | (.inl _) =>
                        some false
                      | (.inr _) =>
                        some true
                    else
                      some false
                  else
                    some false
                else
                  some false
              else
                some false
            else
              some false
          else
            some false
        else
          some false
      else
        some false
    else
      some false
  else
    some false := (M_eq ctx tb G 29 (by kernel_rfl) (v0, v1)).trans (by kernel_rfl)
theorem rename_scope_of_L0_eq (v0 : List (Int)) (v1 : List (Int)) (v2 : List (Int)) (v3 : Int) (v4 : Int) : rename_scope_of_L0 v0 v1 v2 v3 v4 =
  bif (decide (v4 < v3)) then
    Option.bind (Sy.at' v2 v4) fun v5 =>
    Option.bind ((show Option (((Int))) from
        bif (decide (v5 < (0 : Int))) then
          some v5
        else
          bif (decide (v5 < (v1.length : Int))) then
            Option.bind (Sy.at' v1 v5) fun v6 =>
            some v6
          else
            some v5)) fun v6 =>
    bif (decide (((v0.length + (1 : Nat)) * (8 : Nat)) ≤ (35184372088832 : Nat))) then
      rename_scope_of_L0 (v0 ++ (v6 :: ([] : List (Int)))) v1 v2 v3 (Ev.wr .i64 (v4 + (1 : Int)))
    else
      none
  else
    some v0 := (M_eq ctx tb G 30 (by kernel_rfl) (v0, v1, v2, v3, v4)).trans (by kernel_rfl)
theorem core_of_eq (v0 : Int) : core_of v0 =
  bif (decide (v0 < (0 : Int))) then
    some (((0 : Int), (false, (false, (false, (false, (false, (false, (false, false)))))))), false)
  else
    bif (decide (v0 < (10 : Int))) then
      Option.bind (core_forms) fun _ =>
      Option.bind (Sy.at' (((1 : Int), (false, (false, (false, (false, (false, (false, (false, false)))))))) :: (((0 : Int), (true, (false, (true, (false, (false, (false, (true, false)))))))) :: (((2 : Int), (true, (false, (true, (false, (false, (false, (true, false)))))))) :: (((-1 : Int), (true, (true, (false, (false, (false, (false, (true, false)))))))) :: (((1 : Int), (true, (false, (false, (false, (false, (false, (true, false)))))))) :: (((1 : Int), (false, (false, (false, (false, (false, (false, (true, false)))))))) :: (((-1 : Int), (true, (false, (false, (true, (false, (false, (true, false)))))))) :: (((-1 : Int), (false, (false, (false, (true, (false, (false, (false, false)))))))) :: (((-1 : Int), (false, (true, (true, (true, (true, (false, (false, false)))))))) :: (((1 : Int), (false, (false, (false, (false, (false, (true, (false, true)))))))) :: ([] : List (Gform)))))))))))) v0) fun v1 =>
      some (v1, true)
    else
      some (((0 : Int), (false, (false, (false, (false, (false, (false, (false, false)))))))), false) := (M_eq ctx tb G 31 (by kernel_rfl) v0).trans (by kernel_rfl)
theorem rename_cloned_eq (v0 : List (GBranch)) : rename_cloned v0 =
  Option.bind (rename_cloned_L0 ([] : List (GBranch)) v0 (v0.length : Int) (0 : Int)) fun v1 =>
  some v1 := (M_eq ctx tb G 32 (by kernel_rfl) v0).trans (by kernel_rfl)
theorem core_Binds_L0_eq (v0 : List (Int)) (v1 : List (GBranch)) (v2 : Int) (v3 : Int) : core_Binds_L0 v0 v1 v2 v3 =
  bif (decide (v3 < v2)) then
    Option.bind (Sy.at' v1 v3) fun v4 =>
    bif (decide (((v0.length + v4.1.length) * (8 : Nat)) ≤ (35184372088832 : Nat))) then
      core_Binds_L0 (v0 ++ v4.1) v1 v2 (Ev.wr .i64 (v3 + (1 : Int)))
    else
      none
  else
    some v0 := (M_eq ctx tb G 33 (by kernel_rfl) (v0, v1, v2, v3)).trans (by kernel_rfl)
theorem core_Uses_eq (v0 : GNode) : core_Uses v0 =
  Option.bind (core_of v0.1) fun ⟨v1, v2⟩ =>
  bif v2 then
    bif (decide (v1.1 = (0 : Int))) then
      some ([] : List (Int))
    else
      bif v1.2.2.2.2.2.1 then
        bif (decide ((v0.2.2.1.length * (8 : Nat)) ≤ (35184372088832 : Nat))) then
          bif (decide (((v0.2.2.1.length + v0.2.2.2.2.2.2.1.length) * (8 : Nat)) ≤ (35184372088832 : Nat))) then
            Option.bind (core_Uses_L0 ([] : List (Int)) (v0.2.2.1 ++ v0.2.2.2.2.2.2.1) ((v0.2.2.1 ++ v0.2.2.2.2.2.2.1).length : Int) (0 : Int)) fun v3 =>
            some v3
          else
            none
        else
          none
      else
        bif (decide ((v0.2.2.1.length * (8 : Nat)) ≤ (35184372088832 : Nat))) then
          some v0.2.2.1
        else
          none
  else
    some ([] : List (Int)) := (M_eq ctx tb G 34 (by kernel_rfl) v0).trans (by kernel_rfl)
theorem core_Kids_L0_eq (v0 : List (Int)) (v1 : List (GBranch)) (v2 : Int) (v3 : Int) : core_Kids_L0 v0 v1 v2 v3 =
  bif (decide (v3 < v2)) then
    Option.bind (Sy.at' v1 v3) fun v4 =>
    bif (decide (((v0.length + (1 : Nat)) * (8 : Nat)) ≤ (35184372088832 : Nat))) then
      core_Kids_L0 (v0 ++ (v4.2 :: ([] : List (Int)))) v1 v2 (Ev.wr .i64 (v3 + (1 : Int)))
    else
      none
  else
    some v0 := (M_eq ctx tb G 35 (by kernel_rfl) (v0, v1, v2, v3)).trans (by kernel_rfl)
theorem ref21_SameList_eq (v0 : List (Int)) (v1 : List (Int)) : ref21_SameList v0 v1 =
  bif (decide ((v0.length : Int) = (v1.length : Int))) then
    Option.bind (ref21_SameList_L0 v0 v1 (0 : Int)) fun z => match z with
    | (.inl _) =>
      some false
    | (.inr _) =>
      some true
  else
    some false := (M_eq ctx tb G 36 (by kernel_rfl) (v0, v1)).trans (by kernel_rfl)
theorem core_forms_eq : core_forms =
  some () := (M_eq ctx tb G 37 (by kernel_rfl) ()).trans (by kernel_rfl)
theorem rename_Maps_L6_eq (v0 : List (Int)) (v1 : List (Int)) (v2 : GFun) (v3 : List (Int)) (v4 : Int) (v5 : Int) : rename_Maps_L6 v0 v1 v2 v3 v4 v5 =
  bif (decide (v5 < v4)) then
    Option.bind (Sy.at' v3 v5) fun v6 =>
    Option.bind (Sy.at' v1 v6) fun v7 =>
    rename_Maps_L6 v0 (List.set v1 v6.toNat (Ev.wr .i64 (v2.2.1 + v5))) v2 v3 v4 (Ev.wr .i64 (v5 + (1 : Int)))
  else
    some v1 := (M_eq ctx tb G 38 (by kernel_rfl) (v0, v1, v2, v3, v4, v5)).trans (by kernel_rfl)
theorem rename_shaped_4_L0_eq (v0 : List (Int)) (v1 : List (Bool)) (v2 : List (Bool)) (v3 : List (Bool)) (v4 : List (Int)) (v5 : GFun) (v6 : Bool) (v7 : GNode) (v8 : List (Int)) (v9 : Int) (v10 : Int) : rename_shaped_4_L0 v0 v1 v2 v3 v4 v5 v6 v7 v8 v9 v10 =
  bif (decide (v10 < v9)) then
    Option.bind (Sy.at' v8 v10) fun v11 =>
    bif (decide (v11 < (0 : Int))) then
      some (.inl ())
    else
      bif (decide (v11 < (v5.2.2.2.1.length : Int))) then
        Option.bind (Sy.at' v1 v11) fun v12 =>
        bif v12 then
          rename_shaped_4_L0 v0 v1 v2 v3 v4 v5 v6 v7 v8 v9 (Ev.wr .i64 (v10 + (1 : Int)))
        else
          some (.inl ())
      else
        some (.inl ())
  else
    some (.inr ()) := (M_eq ctx tb G 39 (by kernel_rfl) (v0, v1, v2, v3, v4, v5, v6, v7, v8, v9, v10)).trans (by kernel_rfl)
theorem ref21_sameNode_L0_eq (v0 : GNode) (v1 : GNode) (v2 : Int) : ref21_sameNode_L0 v0 v1 v2 =
  bif (decide (v2 < (v0.2.2.2.2.2.2.2.2.1.length : Int))) then
    Option.bind (Sy.at' v0.2.2.2.2.2.2.2.2.1 v2) fun v3 =>
    Option.bind (Sy.at' v1.2.2.2.2.2.2.2.2.1 v2) fun v4 =>
    bif (decide (v3.2 = v4.2)) then
      Option.bind (ref21_SameList v3.1 v4.1) fun v5 =>
      bif v5 then
        ref21_sameNode_L0 v0 v1 (Ev.wr .i64 (v2 + (1 : Int)))
      else
        some (.inl ())
    else
      some (.inl ())
  else
    some (.inr ()) := (M_eq ctx tb G 40 (by kernel_rfl) (v0, v1, v2)).trans (by kernel_rfl)
theorem rename_cloned_L0_eq (v0 : List (GBranch)) (v1 : List (GBranch)) (v2 : Int) (v3 : Int) : rename_cloned_L0 v0 v1 v2 v3 =
  bif (decide (v3 < v2)) then
    Option.bind (Sy.at' v1 v3) fun v4 =>
    bif (decide ((v4.1.length * (8 : Nat)) ≤ (35184372088832 : Nat))) then
      bif (decide (((v0.length + (1 : Nat)) * (32 : Nat)) ≤ (35184372088832 : Nat))) then
        rename_cloned_L0 (v0 ++ (v4 :: ([] : List (GBranch)))) v1 v2 (Ev.wr .i64 (v3 + (1 : Int)))
      else
        none
    else
      none
  else
    some v0 := (M_eq ctx tb G 41 (by kernel_rfl) (v0, v1, v2, v3)).trans (by kernel_rfl)
theorem core_Uses_L0_eq (v0 : List (Int)) (v1 : List (Int)) (v2 : Int) (v3 : Int) : core_Uses_L0 v0 v1 v2 v3 =
  bif (decide (v3 < v2)) then
    Option.bind (Sy.at' v1 v3) fun v4 =>
    bif (decide (v4 < (0 : Int))) then
      core_Uses_L0 v0 v1 v2 (Ev.wr .i64 (v3 + (1 : Int)))
    else
      bif (decide (((v0.length + (1 : Nat)) * (8 : Nat)) ≤ (35184372088832 : Nat))) then
        core_Uses_L0 (v0 ++ (v4 :: ([] : List (Int)))) v1 v2 (Ev.wr .i64 (v3 + (1 : Int)))
      else
        none
  else
    some v0 := (M_eq ctx tb G 42 (by kernel_rfl) (v0, v1, v2, v3)).trans (by kernel_rfl)
theorem ref21_SameList_L0_eq (v0 : List (Int)) (v1 : List (Int)) (v2 : Int) : ref21_SameList_L0 v0 v1 v2 =
  bif (decide (v2 < (v0.length : Int))) then
    Option.bind (Sy.at' v0 v2) fun v3 =>
    Option.bind (Sy.at' v1 v2) fun v4 =>
    bif (decide (v3 = v4)) then
      ref21_SameList_L0 v0 v1 (Ev.wr .i64 (v2 + (1 : Int)))
    else
      some (.inl ())
  else
    some (.inr ()) := (M_eq ctx tb G 43 (by kernel_rfl) (v0, v1, v2)).trans (by kernel_rfl)
theorem rename_shaped_4_L2_eq (v0 : List (Int)) (v1 : List (Bool)) (v2 : List (Bool)) (v3 : List (Bool)) (v4 : List (Int)) (v5 : GFun) (v6 : Bool) (v7 : GNode) (v8 : List (Int)) (v9 : Int) (v10 : Int) : rename_shaped_4_L2 v0 v1 v2 v3 v4 v5 v6 v7 v8 v9 v10 =
  bif (decide (v10 < v9)) then
    Option.bind (Sy.at' v8 v10) fun v11 =>
    Option.bind (core_Binds v7) fun v12 =>
    Option.bind ((show Option (((List (Int)))) from
        bif (decide (v7.1 = (9 : Int))) then
          Option.bind (Sy.at' v7.2.2.2.2.2.2.2.2.1 v10) fun v13 =>
          some v13.1
        else
          some v12)) fun v13 =>
    Option.bind (rename_shaped_1 v2 v5 v11) fun ⟨v14, v15⟩ =>
    bif v15 then
      Option.bind (rename_shaped_2 v3 v1 v4 v5 v13) fun ⟨v16, v17, v18, v19⟩ =>
      bif v19 then
        Option.bind (rename_shaped_4 v0 v17 v14 v16 v18 v5 v6 v11) fun ⟨v20, v21, v22, v23, v24, v25⟩ =>
        bif v25 then
          Option.bind (rename_shaped_3 v21 v13) fun v26 =>
          rename_shaped_4_L2 v20 v26 v22 v23 v24 v5 v25 v7 v8 v9 (Ev.wr .i64 (v10 + (1 : Int)))
        else
          some (.inl (v20, v21, v22, v23, v24, v25))
      else
        some (.inl (v0, v17, v14, v16, v18, false))
    else
      some (.inl (v0, v1, v14, v3, v4, false))
  else
    some (.inr (v0, v1, v2, v3, v4, v6)) := (M_eq ctx tb G 44 (by kernel_rfl) (v0, v1, v2, v3, v4, v5, v6, v7, v8, v9, v10)).trans (by kernel_rfl)
theorem rename_shaped_2_eq (v0 : List (Bool)) (v1 : List (Bool)) (v2 : List (Int)) (v3 : GFun) (v4 : List (Int)) : rename_shaped_2 v0 v1 v2 v3 v4 =
  Option.bind (rename_shaped_2_L0 v0 v1 v2 v3 v4 (v4.length : Int) (0 : Int)) fun z => match z with
  | (.inl ⟨v5, v6, v7⟩) =>
    some (v5, v6, v7, false)
  | (.inr ⟨v5, v6, v7⟩) =>
    some (v5, v6, v7, true) := (M_eq ctx tb G 45 (by kernel_rfl) (v0, v1, v2, v3, v4)).trans (by kernel_rfl)
theorem rename_shaped_2_L0_eq (v0 : List (Bool)) (v1 : List (Bool)) (v2 : List (Int)) (v3 : GFun) (v4 : List (Int)) (v5 : Int) (v6 : Int) : rename_shaped_2_L0 v0 v1 v2 v3 v4 v5 v6 =
  bif (decide (v6 < v5)) then
    Option.bind (Sy.at' v4 v6) fun v7 =>
    bif (decide (v7 < (0 : Int))) then
      some (.inl (v0, v1, v2))
    else
      bif (decide (v7 < (v3.2.2.2.1.length : Int))) then
        Option.bind (Sy.at' v0 v7) fun v8 =>
        bif v8 then
          some (.inl (v0, v1, v2))
        else
          Option.bind (Sy.at' v1 v7) fun v9 =>
          bif (decide (((v2.length + (1 : Nat)) * (8 : Nat)) ≤ (35184372088832 : Nat))) then
            rename_shaped_2_L0 (List.set v0 v7.toNat true) (List.set v1 v7.toNat true) (v2 ++ (v7 :: ([] : List (Int)))) v3 v4 v5 (Ev.wr .i64 (v6 + (1 : Int)))
          else
            none
      else
        some (.inl (v0, v1, v2))
  else
    some (.inr (v0, v1, v2)) := (M_eq ctx tb G 46 (by kernel_rfl) (v0, v1, v2, v3, v4, v5, v6)).trans (by kernel_rfl)
theorem rename_shaped_3_eq (v0 : List (Bool)) (v1 : List (Int)) : rename_shaped_3 v0 v1 =
  Option.bind (rename_shaped_3_L0 v0 v1 (v1.length : Int) (0 : Int)) fun v2 =>
  some v2 := (M_eq ctx tb G 47 (by kernel_rfl) (v0, v1)).trans (by kernel_rfl)
theorem rename_shaped_3_L0_eq (v0 : List (Bool)) (v1 : List (Int)) (v2 : Int) (v3 : Int) : rename_shaped_3_L0 v0 v1 v2 v3 =
  bif (decide (v3 < v2)) then
    Option.bind (Sy.at' v1 v3) fun v4 =>
    Option.bind (Sy.at' v0 v4) fun v5 =>
    rename_shaped_3_L0 (List.set v0 v4.toNat false) v1 v2 (Ev.wr .i64 (v3 + (1 : Int)))
  else
    some v0 := (M_eq ctx tb G 48 (by kernel_rfl) (v0, v1, v2, v3)).trans (by kernel_rfl)
end Go.Proofs.Ytkecfadnfnnfaaa.LabA
