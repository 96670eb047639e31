/- Closed facts of the program and of the statement's row. -/
import Derived.Test.YtkecfadnfnnfaaaGreatDoorRows
import Derived.JoinedOf
import Derived.KernelRfl
set_option maxRecDepth 100000
namespace Go.Proofs.YtkecfadnfnnfaaaGreatDoor.LabB
open Go Go.Proofs Go.Proofs.YtkecfadnfnnfaaaGreatDoor
theorem ba {a b:Bool}(h:a=true)(k:b=true):(a&&b)=true:=by rw [h,k]; rfl
theorem j1:Rows.ownershipLivesUptoRow.wf (OpenSpec.ofChange (Rows.OpenSpec.upto Rows.ownershipLivesSpec).bare)=true:=by kernel_rfl
theorem j2:laidOutB Tryz.prog=true:=by kernel_rfl
theorem j3:mapsRowed Tryz.prog=true:=by kernel_rfl
theorem j4:Tryz.f9.params.all (Tryz.prog.readableRec ·)=true:=by kernel_rfl
theorem j5:namedTie Tryz.prog Rows.ownershipLivesUptoRow.named (Rows.OpenSpec.upto Rows.ownershipLivesSpec).bare.vars=true:=by kernel_rfl
theorem j6:(Rows.ownershipLivesUptoRow.stops==[])=true:=by kernel_rfl
theorem j7:(Tryz.prog.stops==[])=true:=by kernel_rfl
theorem j8:(Rows.ownershipLivesUptoRow.knobs==[])=true:=by kernel_rfl
theorem j9:(Tryz.prog.stopKnobs==[])=true:=by kernel_rfl
theorem j10:(Rows.ownershipLivesUptoRow.inPlace==Tryz.prog.inPlace 9)=true:=by kernel_rfl
theorem j11:(Rows.ownershipLivesUptoRow.unfollowed==Tryz.prog.unfollowed 9)=true:=by kernel_rfl
theorem j12:(Rows.ownershipLivesUptoRow.recurses==Tryz.prog.recurses 9)=true:=by kernel_rfl
theorem j13:(Rows.ownershipLivesUptoRow.named==Tryz.prog.varsNamed 9)=true:=by kernel_rfl
theorem j14:(Rows.ownershipLivesUptoRow.maps==(Tryz.f9.params.toList++(Rows.OpenSpec.upto Rows.ownershipLivesSpec).bare.plain.varTypes Tryz.prog).any (Tryz.prog.mapsRec ·))=true:=by kernel_rfl
theorem j15:(Rows.ownershipLivesUptoRow.ifaces==(Tryz.f9.params.toList++(Rows.OpenSpec.upto Rows.ownershipLivesSpec).bare.plain.varTypes Tryz.prog).any (Tryz.prog.ifacesRec ·))=true:=by kernel_rfl
theorem j16:(Rows.ownershipLivesUptoRow.mapsOut==Tryz.prog.mapsAmong Tryz.f9.resultTypes.toList)=true:=by kernel_rfl
theorem j17:(Rows.ownershipLivesUptoRow.loops==(Tryz.f9.params.toList++(Rows.OpenSpec.upto Rows.ownershipLivesSpec).bare.plain.varTypes Tryz.prog).any (Tryz.prog.loopsFrom ·))=true:=by kernel_rfl
theorem j18:(Rows.ownershipLivesUptoRow.wideKeys==(Tryz.f9.params.toList++(Rows.OpenSpec.upto Rows.ownershipLivesSpec).bare.plain.varTypes Tryz.prog++Tryz.f9.resultTypes.toList).any (Tryz.prog.wideKeysFrom ·))=true:=by kernel_rfl
theorem j19:(Rows.OpenSpec.upto Rows.ownershipLivesSpec).bare.vars.all (Tryz.prog.varReadable ·)=true:=by kernel_rfl
theorem j20:Tryz.f9.resultTypes.all (fun t=>Tryz.prog.readableRec t&&decide (t<Tryz.prog.types.size))=true:=by kernel_rfl
theorem j21:(Rows.ownershipLivesUptoRow.ifacesOut==Tryz.f9.resultTypes.toList.any (Tryz.prog.ifacesRec ·))=true:=by kernel_rfl
theorem j22:(Rows.ownershipLivesUptoRow.loopsOut==Tryz.f9.resultTypes.toList.any (Tryz.prog.loopsFrom ·))=true:=by kernel_rfl
theorem j23:(Rows.ownershipLivesUptoRow.plainKeys==Tryz.prog.plainKeys)=true:=by kernel_rfl
theorem j24:Rows.ownershipLivesUptoRow.shortTexts.isNone=true:=by kernel_rfl
theorem j25:Tryz.prog.stopsHeard=true:=by kernel_rfl
theorem j26:Tryz.prog.mayEnter=true:=by kernel_rfl
theorem j27:(Rows.ownershipLivesUptoRow.lifted==Tryz.prog.liftsFinal)=true:=by kernel_rfl
theorem j28:(Tryz.prog.make==some Rows.ownershipLivesUptoRow.make)=true:=by kernel_rfl
theorem j29:(Rows.ownershipLivesUptoRow.kinds==(if Rows.ownershipLivesUptoRow.domain.isEmpty then [] else Tryz.f9.params.toList.map fun t=>match Tryz.prog.underlying t with |some (.int k)=>some k |_=>none))=true:=by kernel_rfl
theorem j30:(Rows.ownershipLivesUptoRow.pinned==Rows.ownershipLivesUptoRow.pinnedBy)=true:=by kernel_rfl
theorem j31:(Rows.ownershipLivesUptoRow.veiled==(Tryz.f9.params.toList++(Rows.OpenSpec.upto Rows.ownershipLivesSpec).bare.plain.varTypes Tryz.prog++Tryz.f9.resultTypes.toList).any (Tryz.prog.veiledRec ·))=true:=by kernel_rfl
theorem j32:Rows.ownershipLivesUptoRow.veiledFits Tryz.prog Tryz.f9.params.toList (Tryz.f9.params.toList++(Rows.OpenSpec.upto Rows.ownershipLivesSpec).bare.plain.varTypes Tryz.prog++Tryz.f9.resultTypes.toList)=true:=by kernel_rfl
theorem QG2:joinedFacts Tryz.prog 9 Tryz.f9 (Rows.OpenSpec.upto Rows.ownershipLivesSpec).bare Rows.ownershipLivesUptoRow=true:=(ba (ba (ba (ba (ba (ba (ba (ba (ba (ba (ba (ba (ba (ba (ba (ba (ba (ba (ba (ba (ba (ba (ba (ba (ba (ba (ba (ba (ba (ba (ba j1 j2) j3) j4) j5) j6) j7) j8) j9) j10) j11) j12) j13) j14) j15) j16) j17) j18) j19) j20) j21) j22) j23) j24) j25) j26) j27) j28) j29) j30) j31) j32)
theorem QEs:Tryz.prog.funcNamed "cellarer/cellarerlaw22.OwnershipLives" = some 9:=by kernel_rfl
end Go.Proofs.YtkecfadnfnnfaaaGreatDoor.LabB
