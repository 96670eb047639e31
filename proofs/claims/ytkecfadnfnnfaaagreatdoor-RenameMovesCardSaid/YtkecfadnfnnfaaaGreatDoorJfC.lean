/- Closed facts of the program and of the statement's row. -/
import Derived.Test.YtkecfadnfnnfaaaGreatDoorRows
import Derived.JoinedOf
import Derived.KernelRfl
set_option maxRecDepth 100000
namespace Go.Proofs.YtkecfadnfnnfaaaGreatDoor.LabB
open Go Go.Proofs Go.Proofs.YtkecfadnfnnfaaaGreatDoor
theorem ba {a b:Bool}(h:a=true)(k:b=true):(a&&b)=true:=by rw [h,k]; rfl
theorem j1:Rows.renameMovesRow.wf (OpenSpec.ofChange Rows.renameMovesSpec)=true:=by kernel_rfl
theorem j2:laidOutB Tryz.prog=true:=by kernel_rfl
theorem j3:mapsRowed Tryz.prog=true:=by kernel_rfl
theorem j4:Tryz.f11.params.all (Tryz.prog.readableRec ·)=true:=by kernel_rfl
theorem j5:namedTie Tryz.prog Rows.renameMovesRow.named Rows.renameMovesSpec.vars=true:=by kernel_rfl
theorem j6:(Rows.renameMovesRow.stops==[])=true:=by kernel_rfl
theorem j7:(Tryz.prog.stops==[])=true:=by kernel_rfl
theorem j8:(Rows.renameMovesRow.knobs==[])=true:=by kernel_rfl
theorem j9:(Tryz.prog.stopKnobs==[])=true:=by kernel_rfl
theorem j10:(Rows.renameMovesRow.inPlace==Tryz.prog.inPlace 11)=true:=by kernel_rfl
theorem j11:(Rows.renameMovesRow.unfollowed==Tryz.prog.unfollowed 11)=true:=by kernel_rfl
theorem j12:(Rows.renameMovesRow.recurses==Tryz.prog.recurses 11)=true:=by kernel_rfl
theorem j13:(Rows.renameMovesRow.named==Tryz.prog.varsNamed 11)=true:=by kernel_rfl
theorem j14:(Rows.renameMovesRow.maps==(Tryz.f11.params.toList++Rows.renameMovesSpec.plain.varTypes Tryz.prog).any (Tryz.prog.mapsRec ·))=true:=by kernel_rfl
theorem j15:(Rows.renameMovesRow.ifaces==(Tryz.f11.params.toList++Rows.renameMovesSpec.plain.varTypes Tryz.prog).any (Tryz.prog.ifacesRec ·))=true:=by kernel_rfl
theorem j16:(Rows.renameMovesRow.mapsOut==Tryz.prog.mapsAmong Tryz.f11.resultTypes.toList)=true:=by kernel_rfl
theorem j17:(Rows.renameMovesRow.loops==(Tryz.f11.params.toList++Rows.renameMovesSpec.plain.varTypes Tryz.prog).any (Tryz.prog.loopsFrom ·))=true:=by kernel_rfl
theorem j18:(Rows.renameMovesRow.wideKeys==(Tryz.f11.params.toList++Rows.renameMovesSpec.plain.varTypes Tryz.prog++Tryz.f11.resultTypes.toList).any (Tryz.prog.wideKeysFrom ·))=true:=by kernel_rfl
theorem j19:Rows.renameMovesSpec.vars.all (Tryz.prog.varReadable ·)=true:=by kernel_rfl
theorem j20:Tryz.f11.resultTypes.all (fun t=>Tryz.prog.readableRec t&&decide (t<Tryz.prog.types.size))=true:=by kernel_rfl
theorem j21:(Rows.renameMovesRow.ifacesOut==Tryz.f11.resultTypes.toList.any (Tryz.prog.ifacesRec ·))=true:=by kernel_rfl
theorem j22:(Rows.renameMovesRow.loopsOut==Tryz.f11.resultTypes.toList.any (Tryz.prog.loopsFrom ·))=true:=by kernel_rfl
theorem j23:(Rows.renameMovesRow.plainKeys==Tryz.prog.plainKeys)=true:=by kernel_rfl
theorem j24:Rows.renameMovesRow.shortTexts.isNone=true:=by kernel_rfl
theorem j25:Tryz.prog.stopsHeard=true:=by kernel_rfl
theorem j26:Tryz.prog.mayEnter=true:=by kernel_rfl
theorem j27:(Rows.renameMovesRow.lifted==Tryz.prog.liftsFinal)=true:=by kernel_rfl
theorem j28:(Tryz.prog.make==some Rows.renameMovesRow.make)=true:=by kernel_rfl
theorem j29:(Rows.renameMovesRow.kinds==(if Rows.renameMovesRow.domain.isEmpty then [] else Tryz.f11.params.toList.map fun t=>match Tryz.prog.underlying t with |some (.int k)=>some k |_=>none))=true:=by kernel_rfl
theorem j30:(Rows.renameMovesRow.pinned==Rows.renameMovesRow.pinnedBy)=true:=by kernel_rfl
theorem j31:(Rows.renameMovesRow.veiled==(Tryz.f11.params.toList++Rows.renameMovesSpec.plain.varTypes Tryz.prog++Tryz.f11.resultTypes.toList).any (Tryz.prog.veiledRec ·))=true:=by kernel_rfl
theorem j32:Rows.renameMovesRow.veiledFits Tryz.prog Tryz.f11.params.toList (Tryz.f11.params.toList++Rows.renameMovesSpec.plain.varTypes Tryz.prog++Tryz.f11.resultTypes.toList)=true:=by kernel_rfl
theorem QGx:joinedFacts Tryz.prog 11 Tryz.f11 Rows.renameMovesSpec Rows.renameMovesRow=true:=(ba (ba (ba (ba (ba (ba (ba (ba (ba (ba (ba (ba (ba (ba (ba (ba (ba (ba (ba (ba (ba (ba (ba (ba (ba (ba (ba (ba (ba (ba (ba j1 j2) j3) j4) j5) j6) j7) j8) j9) j10) j11) j12) j13) j14) j15) j16) j17) j18) j19) j20) j21) j22) j23) j24) j25) j26) j27) j28) j29) j30) j31) j32)
theorem QDW:Tryz.prog.funcNamed "cellarer/cellarerlaw21.RenameMoves" = some 11:=by kernel_rfl
end Go.Proofs.YtkecfadnfnnfaaaGreatDoor.LabB
