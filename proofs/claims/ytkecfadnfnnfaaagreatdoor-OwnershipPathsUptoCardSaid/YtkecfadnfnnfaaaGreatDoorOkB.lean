/- The tables are the program's. -/
import Derived.Test.YtkecfadnfnnfaaaGreatDoorTabB
import Derived.Test.YtkecfadnfnnfaaaGreatDoorEvCl
noncomputable section
namespace Go.Proofs.YtkecfadnfnnfaaaGreatDoor.LabB
open Go Go.Ev Go.Proofs
theorem QxV:run tabs.ctx 60 (.pfn 12 [])=some (.val (.bool true) []):=by kernel_rfl
end Go.Proofs.YtkecfadnfnnfaaaGreatDoor.LabB
end
noncomputable section
namespace Go.Proofs.YtkecfadnfnnfaaaGreatDoor.LabB
open Go Go.Ev Go.Proofs
theorem QEx:(List.range tabs.nt).all (fun t=>tyB Tryz.prog tabs.ctx t&&QCX Tryz.prog tabs.ctx t)=true:=by kernel_rfl
theorem QDv:tabs.fns.fit 0 tabs.nf=true:=by kernel_rfl
theorem QDw:tabs.fns.toL=selL used Tryz.prog.funcs.toList:=by kernel_rfl
theorem QEy:(List.range' 0 40).all (Qqx tabs.ctx)=true:=by kernel_rfl
theorem QEz:(List.range' 40 40).all (Qqx tabs.ctx)=true:=by kernel_rfl
theorem QEA:(List.range' 80 40).all (Qqx tabs.ctx)=true:=by kernel_rfl
theorem QEB:(List.range' 120 40).all (Qqx tabs.ctx)=true:=by kernel_rfl
theorem QEC:(List.range' 160 40).all (Qqx tabs.ctx)=true:=by kernel_rfl
theorem QED:(List.range' 200 40).all (Qqx tabs.ctx)=true:=by kernel_rfl
theorem QEE:(List.range' 240 24).all (Qqx tabs.ctx)=true:=by kernel_rfl
theorem QFC:tabs.nf=264:=by kernel_rfl
theorem QB1:(List.range tabs.nf).all (Qqx tabs.ctx)=true:=by
 have e:List.range 264=List.range' 0 40++(List.range' 40 40++(List.range' 80 40++(List.range' 120 40++(List.range' 160 40++(List.range' 200 40++List.range' 240 24))))):=by decide +kernel
 rw [QFC,e]
 simp only [List.all_append,QEy,QEz,QEA,QEB,QEC,QED,QEE,Bool.and_self]
theorem mixed:Tryz.prog.follows .mixedOrders=true:=by kernel_rfl
theorem Qqy:TysOk Tryz.prog tabs.ctx:=Tabs.Qqy QEx
end Go.Proofs.YtkecfadnfnnfaaaGreatDoor.LabB
end
