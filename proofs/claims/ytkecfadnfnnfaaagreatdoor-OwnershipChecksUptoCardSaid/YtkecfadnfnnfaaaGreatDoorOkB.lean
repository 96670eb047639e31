/- The tables are the program's. -/
import Derived.Test.YtkecfadnfnnfaaaGreatDoorTabB
import Derived.Test.YtkecfadnfnnfaaaGreatDoorEvCl
noncomputable section
namespace Go.Proofs.YtkecfadnfnnfaaaGreatDoor.LabB
open Go Go.Ev Go.Proofs
theorem QAr:run tabs.ctx 60 (.pfn 12 [])=some (.val (.bool true) []):=by kernel_rfl
end Go.Proofs.YtkecfadnfnnfaaaGreatDoor.LabB
end
noncomputable section
namespace Go.Proofs.YtkecfadnfnnfaaaGreatDoor.LabB
open Go Go.Ev Go.Proofs
theorem QHl:(List.range tabs.nt).all (fun t=>tyB Tryz.prog tabs.ctx t&&QFD Tryz.prog tabs.ctx t)=true:=by kernel_rfl
theorem QGb:tabs.fns.fit 0 tabs.nf=true:=by kernel_rfl
theorem QGc:tabs.fns.toL=selL used Tryz.prog.funcs.toList:=by kernel_rfl
theorem QHm:(List.range' 0 40).all (QsK tabs.ctx)=true:=by kernel_rfl
theorem QHn:(List.range' 40 40).all (QsK tabs.ctx)=true:=by kernel_rfl
theorem QHo:(List.range' 80 40).all (QsK tabs.ctx)=true:=by kernel_rfl
theorem QHp:(List.range' 120 40).all (QsK tabs.ctx)=true:=by kernel_rfl
theorem QHq:(List.range' 160 40).all (QsK tabs.ctx)=true:=by kernel_rfl
theorem QHr:(List.range' 200 40).all (QsK tabs.ctx)=true:=by kernel_rfl
theorem QHs:(List.range' 240 24).all (QsK tabs.ctx)=true:=by kernel_rfl
theorem QIA:tabs.nf=264:=by kernel_rfl
theorem QEH:(List.range tabs.nf).all (QsK tabs.ctx)=true:=by
 have e:List.range 264=List.range' 0 40++(List.range' 40 40++(List.range' 80 40++(List.range' 120 40++(List.range' 160 40++(List.range' 200 40++List.range' 240 24))))):=by decide +kernel
 rw [QIA,e]
 simp only [List.all_append,QHm,QHn,QHo,QHp,QHq,QHr,QHs,Bool.and_self]
theorem mixed:Tryz.prog.follows .mixedOrders=true:=by kernel_rfl
theorem QsL:TysOk Tryz.prog tabs.ctx:=Tabs.QsL QHl
end Go.Proofs.YtkecfadnfnnfaaaGreatDoor.LabB
end
