/- The tables are the program's. -/
import Derived.Test.YtkecfadnfnnfaaaGreatDoorTabB
import Derived.Test.YtkecfadnfnnfaaaGreatDoorEvCl
noncomputable section
namespace Go.Proofs.YtkecfadnfnnfaaaGreatDoor.LabB
open Go Go.Ev Go.Proofs
theorem Qzu:run tabs.ctx 60 (.pfn 12 [])=some (.val (.bool true) []):=by kernel_rfl
end Go.Proofs.YtkecfadnfnnfaaaGreatDoor.LabB
end
noncomputable section
namespace Go.Proofs.YtkecfadnfnnfaaaGreatDoor.LabB
open Go Go.Ev Go.Proofs
theorem QGk:(List.range tabs.nt).all (fun t=>tyB Tryz.prog tabs.ctx t&&QEA Tryz.prog tabs.ctx t)=true:=by kernel_rfl
theorem QE8:tabs.fns.fit 0 tabs.nf=true:=by kernel_rfl
theorem QE9:tabs.fns.toL=selL used Tryz.prog.funcs.toList:=by kernel_rfl
theorem QGl:(List.range' 0 40).all (QrG tabs.ctx)=true:=by kernel_rfl
theorem QGm:(List.range' 40 40).all (QrG tabs.ctx)=true:=by kernel_rfl
theorem QGn:(List.range' 80 40).all (QrG tabs.ctx)=true:=by kernel_rfl
theorem QGo:(List.range' 120 40).all (QrG tabs.ctx)=true:=by kernel_rfl
theorem QGp:(List.range' 160 40).all (QrG tabs.ctx)=true:=by kernel_rfl
theorem QGq:(List.range' 200 40).all (QrG tabs.ctx)=true:=by kernel_rfl
theorem QGr:(List.range' 240 24).all (QrG tabs.ctx)=true:=by kernel_rfl
theorem QHv:tabs.nf=264:=by kernel_rfl
theorem QDE:(List.range tabs.nf).all (QrG tabs.ctx)=true:=by
 have e:List.range 264=List.range' 0 40++(List.range' 40 40++(List.range' 80 40++(List.range' 120 40++(List.range' 160 40++(List.range' 200 40++List.range' 240 24))))):=by decide +kernel
 rw [QHv,e]
 simp only [List.all_append,QGl,QGm,QGn,QGo,QGp,QGq,QGr,Bool.and_self]
theorem mixed:Tryz.prog.follows .mixedOrders=true:=by kernel_rfl
theorem QrH:TysOk Tryz.prog tabs.ctx:=Tabs.QrH QGk
end Go.Proofs.YtkecfadnfnnfaaaGreatDoor.LabB
end
