/- Closed facts of the program and of the statement's row. -/
import Derived.Test.YtkecfadnfnnfaaaGreatDoorRows
import Derived.JoinedOf
import Derived.KernelRfl
set_option maxRecDepth 100000
namespace Go.Proofs.YtkecfadnfnnfaaaGreatDoor.LabB
open Go Go.Proofs Go.Proofs.YtkecfadnfnnfaaaGreatDoor
theorem ba {a b:Bool}(h:a=true)(k:b=true):(a&&b)=true:=by rw [h,k]; rfl
theorem j1:Rows.renameComparesRow.wf (OpenSpec.ofChange Rows.renameComparesSpec)=true:=by kernel_rfl
theorem j2:laidOutB Tryz.prog=true:=by kernel_rfl
theorem j3:mapsRowed Tryz.prog=true:=by kernel_rfl
theorem j4:Tryz.f10.params.all (Tryz.prog.readableRec ·)=true:=by kernel_rfl
theorem j5:namedTie Tryz.prog Rows.renameComparesRow.named Rows.renameComparesSpec.vars=true:=by kernel_rfl
theorem j6:(Rows.renameComparesRow.stops==[])=true:=by kernel_rfl
theorem j7:(Tryz.prog.stops==[])=true:=by kernel_rfl
theorem j8:(Rows.renameComparesRow.knobs==[])=true:=by kernel_rfl
theorem j9:(Tryz.prog.stopKnobs==[])=true:=by kernel_rfl
theorem j10:(Rows.renameComparesRow.inPlace==Tryz.prog.inPlace 10)=true:=by kernel_rfl
theorem j11:(Rows.renameComparesRow.unfollowed==Tryz.prog.unfollowed 10)=true:=by kernel_rfl
theorem j12:(Rows.renameComparesRow.recurses==Tryz.prog.recurses 10)=true:=by kernel_rfl
theorem j13:(Rows.renameComparesRow.named==Tryz.prog.varsNamed 10)=true:=by kernel_rfl
theorem j14:(Rows.renameComparesRow.maps==(Tryz.f10.params.toList++Rows.renameComparesSpec.plain.varTypes Tryz.prog).any (Tryz.prog.mapsRec ·))=true:=by kernel_rfl
theorem j15:(Rows.renameComparesRow.ifaces==(Tryz.f10.params.toList++Rows.renameComparesSpec.plain.varTypes Tryz.prog).any (Tryz.prog.ifacesRec ·))=true:=by kernel_rfl
theorem j16:(Rows.renameComparesRow.mapsOut==Tryz.prog.mapsAmong Tryz.f10.resultTypes.toList)=true:=by kernel_rfl
theorem j17:(Rows.renameComparesRow.loops==(Tryz.f10.params.toList++Rows.renameComparesSpec.plain.varTypes Tryz.prog).any (Tryz.prog.loopsFrom ·))=true:=by kernel_rfl
theorem j18:(Rows.renameComparesRow.wideKeys==(Tryz.f10.params.toList++Rows.renameComparesSpec.plain.varTypes Tryz.prog++Tryz.f10.resultTypes.toList).any (Tryz.prog.wideKeysFrom ·))=true:=by kernel_rfl
theorem j19:Rows.renameComparesSpec.vars.all (Tryz.prog.varReadable ·)=true:=by kernel_rfl
theorem j20:Tryz.f10.resultTypes.all (fun t=>Tryz.prog.readableRec t&&decide (t<Tryz.prog.types.size))=true:=by kernel_rfl
theorem j21:(Rows.renameComparesRow.ifacesOut==Tryz.f10.resultTypes.toList.any (Tryz.prog.ifacesRec ·))=true:=by kernel_rfl
theorem j22:(Rows.renameComparesRow.loopsOut==Tryz.f10.resultTypes.toList.any (Tryz.prog.loopsFrom ·))=true:=by kernel_rfl
theorem j23:(Rows.renameComparesRow.plainKeys==Tryz.prog.plainKeys)=true:=by kernel_rfl
theorem j24:Rows.renameComparesRow.shortTexts.isNone=true:=by kernel_rfl
theorem j25:Tryz.prog.stopsHeard=true:=by kernel_rfl
theorem j26:Tryz.prog.mayEnter=true:=by kernel_rfl
theorem j27:(Rows.renameComparesRow.lifted==Tryz.prog.liftsFinal)=true:=by kernel_rfl
theorem j28:(Tryz.prog.make==some Rows.renameComparesRow.make)=true:=by kernel_rfl
theorem j29:(Rows.renameComparesRow.kinds==(if Rows.renameComparesRow.domain.isEmpty then [] else Tryz.f10.params.toList.map fun t=>match Tryz.prog.underlying t with |some (.int k)=>some k |_=>none))=true:=by kernel_rfl
theorem j30:(Rows.renameComparesRow.pinned==Rows.renameComparesRow.pinnedBy)=true:=by kernel_rfl
theorem j31:(Rows.renameComparesRow.veiled==(Tryz.f10.params.toList++Rows.renameComparesSpec.plain.varTypes Tryz.prog++Tryz.f10.resultTypes.toList).any (Tryz.prog.veiledRec ·))=true:=by kernel_rfl
theorem j32:Rows.renameComparesRow.veiledFits Tryz.prog Tryz.f10.params.toList (Tryz.f10.params.toList++Rows.renameComparesSpec.plain.varTypes Tryz.prog++Tryz.f10.resultTypes.toList)=true:=by kernel_rfl
theorem QGw:joinedFacts Tryz.prog 10 Tryz.f10 Rows.renameComparesSpec Rows.renameComparesRow=true:=(ba (ba (ba (ba (ba (ba (ba (ba (ba (ba (ba (ba (ba (ba (ba (ba (ba (ba (ba (ba (ba (ba (ba (ba (ba (ba (ba (ba (ba (ba (ba j1 j2) j3) j4) j5) j6) j7) j8) j9) j10) j11) j12) j13) j14) j15) j16) j17) j18) j19) j20) j21) j22) j23) j24) j25) j26) j27) j28) j29) j30) j31) j32)
theorem QDY:Tryz.prog.funcNamed "cellarer/cellarerlaw21.RenameCompares" = some 10:=by kernel_rfl
end Go.Proofs.YtkecfadnfnnfaaaGreatDoor.LabB
