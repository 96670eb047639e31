/- The tables are the program's. -/
import Derived.Test.YtkecfadnfnnfaaaGreatDoorTabB
import Derived.Test.YtkecfadnfnnfaaaGreatDoorEvCl
noncomputable section
namespace Go.Proofs.YtkecfadnfnnfaaaGreatDoor.LabB
open Go Go.Ev Go.Proofs
theorem QC3:run tabs.ctx 60 (.pfn 24 [])=some (.val (.bool true) []):=by kernel_rfl
end Go.Proofs.YtkecfadnfnnfaaaGreatDoor.LabB
end
noncomputable section
namespace Go.Proofs.YtkecfadnfnnfaaaGreatDoor.LabB
open Go Go.Ev Go.Proofs
theorem QFK:(List.range tabs.nt).all (fun t=>tyB Tryz.prog tabs.ctx t&&QD4 Tryz.prog tabs.ctx t)=true:=by kernel_rfl
theorem QEF:tabs.fns.fit 0 tabs.nf=true:=by kernel_rfl
theorem QEG:tabs.fns.toL=selL used Tryz.prog.funcs.toList:=by kernel_rfl
theorem QFL:(List.range' 0 40).all (Qqo tabs.ctx)=true:=by kernel_rfl
theorem QFM:(List.range' 40 40).all (Qqo tabs.ctx)=true:=by kernel_rfl
theorem QFN:(List.range' 80 40).all (Qqo tabs.ctx)=true:=by kernel_rfl
theorem QFO:(List.range' 120 40).all (Qqo tabs.ctx)=true:=by kernel_rfl
theorem QFP:(List.range' 160 40).all (Qqo tabs.ctx)=true:=by kernel_rfl
theorem QFQ:(List.range' 200 40).all (Qqo tabs.ctx)=true:=by kernel_rfl
theorem QFR:(List.range' 240 24).all (Qqo tabs.ctx)=true:=by kernel_rfl
theorem QGY:tabs.nf=264:=by kernel_rfl
theorem QC5:(List.range tabs.nf).all (Qqo tabs.ctx)=true:=by
 have e:List.range 264=List.range' 0 40++(List.range' 40 40++(List.range' 80 40++(List.range' 120 40++(List.range' 160 40++(List.range' 200 40++List.range' 240 24))))):=by decide +kernel
 rw [QGY,e]
 simp only [List.all_append,QFL,QFM,QFN,QFO,QFP,QFQ,QFR,Bool.and_self]
theorem mixed:Tryz.prog.follows .mixedOrders=true:=by kernel_rfl
theorem QxK:TysOk Tryz.prog tabs.ctx:=Tabs.QxK QFK
end Go.Proofs.YtkecfadnfnnfaaaGreatDoor.LabB
end
