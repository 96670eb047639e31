/- Proved: for every two programs that RenameCompares takes, the law answers true: Same compares the programs as the reference does. Conditions: the statement's own (the listed library tables are laid as the program's text lays them, which the card ties). -/
import Derived.Test.YtkecfadnfnnfaaaGreatDoorLawB
import Derived.Test.YtkecfadnfnnfaaaGreatDoorPlB19
import Derived.Test.YtkecfadnfnnfaaaGreatDoorJfB
import Derived.Test.YtkecfadnfnnfaaaGreatDoorRows
import Derived.Test.YtkecfadnfnnfaaaGreatDoorTie
import Derived.Test.YtkecfadnfnnfaaaGreatDoorCards
import Derived.SevenTiedAt
import Derived.WalkKit
import Derived.ProofKit
import Derived.OpenShut
import Derived.ShutString
import Derived.ChangeOld
import Derived.ChangeSame
import Derived.ChangeVars
import Derived.Below
import Derived.SizedLaws
import Derived.LaidLaws
import Derived.JoinedOf
import Derived.RowKitTokens
import Derived.LaidHandle
import Derived.Stop.Joined
namespace Go.Proofs.YtkecfadnfnnfaaaGreatDoor.LabB
open Go Go.Ev Go.Proofs Go.Proofs.YtkecfadnfnnfaaaGreatDoor
open Go.ChangeShapes Go.WideShapes Go.ChangeAt Go.RowKit
set_option linter.unusedVariables false
theorem QGx (x y:Qag)(h:Qdx x y=some true):R tabs.ctx (.pfn 10 [.agg (Sy.row QcY x),.agg (Sy.row QcY y)])=some (.val (.bool true) []):=by
 have:=Sy.QGV QFU (i:=0) (x:=(x,y)) (z:=true) h (by kernel_rfl) (by kernel_rfl) (env:=((Sy.Env.none.set 0 QcY x).set 1 QcY y).set 2 .bool true) (θ:=[.v 0,.v 1]) (n:=2) (j:=0) (o:=Sy.Qz8 [.bool]) (by kernel_rfl) (by show true=_; kernel_rfl) (by kernel_rfl)
 refine Eq.trans ?_ (this.trans ?_)
 ·congr 2
 ·rfl
theorem law (cs cs2:List AV)(h:Typed tabs.ctx 10 25 cs)(h2:Typed tabs.ctx 10 25 cs2):R tabs.ctx (.pfn 10 [.agg cs,.agg cs2])=some (.val (.bool true) []):=by
 obtain ⟨x,rfl,g⟩:=Sy.Qnm h (show Sy.tyN ctx 10 25=some QcY by kernel_rfl)
 obtain ⟨y,rfl,g2⟩:=Sy.Qnm h2 (show Sy.tyN ctx 10 25=some QcY by kernel_rfl)
 exact QGx x y (V.QDu QDd x y)
theorem own:ownKnob Tryz.prog.godebug=none:=by kernel_rfl
theorem laidOut:laidOutB Tryz.prog=true:=by kernel_rfl
theorem QBY:QkW tabs.ctx 10 25=true:=by kernel_rfl
theorem QDv:(tabs.ctx.ty 25).isAgg=true:=by kernel_rfl
theorem runs {H:Type}{enc:TypeId×Value→H}(v0 v1:Value)(d0 d1:DataW H)(p0 p1:List MemPlace)(W:World)(hv:∃ cs,v0=.agg cs)(hv1:∃ cs,v1=.agg cs)
  (h0:DataW.Trod enc Tryz.prog W 0 (fun _=>true) true 25 v0 d0 p0) (h1:DataW.Trod enc Tryz.prog W 0 (fun _=>true) true 25 v1 d1 p1):
  Calls Tryz.prog 10 #[v0,v1] W fun e w'=>e=.returned (.bool true)∧Below W.heap.size W w':=by
 obtain ⟨x,cs,a1,a2,a3⟩:=QsE QvK QBY h0 (fun _=>hv) (fun h=>by rw [QDv] at h; cases h)
 rw [QDv,if_pos rfl] at a2
 subst a2
 obtain ⟨y,cs2,b1,b2,b3⟩:=QsE QvK QBY h1 (fun _=>hv1) (fun h=>by rw [QDv] at h; cases h)
 rw [QDv,if_pos rfl] at b2
 subst b2
 obtain ⟨k,hk⟩:=QFt (k:=0) (law cs cs2 a1 b1)
 obtain ⟨_,hc⟩:=(good k).pfn 10 [.agg cs,.agg cs2] _ _ hk (Qgo W) W #[v0,v1] (Qq8 W) ⟨rfl,fun j x u hx hu=>by
  match j with
  | 0=>simp at hx hu; rw [← hx,← hu]; exact a3
  | 1=>simp at hx hu; rw [← hx,← hu]; exact b3
  | j+2=>simp at hx⟩
 refine Calls.mono hc fun e w' he=>?_
 obtain ⟨cv,I',rfl,_,_,_,hr,hb,_⟩:=he
 cases hr
 exact ⟨rfl,hb⟩
def QFa:List Nat:=[128,191,160,191,128,159,144,191,128,143]++List.replicate 22 0
noncomputable def Qvw (os:Os):World:=
 let w0:=World.holding Tryz.prog os ⟨#[],#[],[]⟩
 { w0 with heap:=(w0.heap.modify 1 fun
   | .cells _ t frozen=>.cells (Go.Pinned.utf8FirstZ.map fun n:Nat=>Value.int .u8 (n:Int)).toArray t frozen
   | o=>o).modify 2 fun
   | .cells _ t frozen=>.cells (QFa.map fun n:Nat=>Value.int .u8 (n:Int)).toArray t frozen
   | o=>o }
theorem Qzg:(Rows.renameComparesRow.laid.filter fun x=>x.2.handleName?.isSome)=[]:=by kernel_rfl
theorem QHd (w:World)(h:laidMet Tryz.prog Rows.renameComparesRow.laid w):laidMetH Tryz.prog Rows.renameComparesRow.laid w:=by
 unfold laidMetH
 rw [Qzg]
 exact h
theorem QDw (os:Os)(args:Array Value):laidMetH Tryz.prog Rows.renameComparesRow.laid ((Qvw os).forCall (fun _ _=>0) ⟨#[],args,[]⟩).memory:=
 QHd _ (laidMet_of_run' 12 (by kernel_rfl) (by kernel_rfl))
set_option maxRecDepth 100000 in
theorem lifted (os:Os)(started:os.Started)(H:Type)(enc:TypeId×Value→H):
  ReturnsInHanded {} Tryz.checked os 10 .any (fun w args=>(Rows.renameComparesSpec.pre enc Tryz.prog Tryz.f10 [] false w args∧laidMetH Tryz.prog Rows.renameComparesRow.laid w)∧sizedMet enc Tryz.prog Tryz.f10 (OpenSpec.ofChange Rows.renameComparesSpec) false w args)
   (Rows.renameComparesSpec.post enc Tryz.prog Tryz.f10 false true false false):=by
 refine returnsInHanded_of_change_and (C:=Tryz.checked) (X:=fun w _=>laidMetH Tryz.prog Rows.renameComparesRow.laid w) (fun _ _ _ hh h=>h.of_heap hh) own started (by kernel_rfl) Tryz.func10
  (ChangeSpec.witness_at (enc:=enc) (C:=Tryz.checked) (os:=os) (X:=fun w _=>laidMetH Tryz.prog Rows.renameComparesRow.laid w) false (Qvw os) #[.agg #[.slice none 0 0,.slice none 0 0],.agg #[.slice none 0 0,.slice none 0 0]] 8 rfl (by kernel_rfl) (by kernel_rfl) (by kernel_rfl) (by kernel_rfl) (by kernel_rfl) (QDw os _)) ?_
 intro W base args ds gs before hval0 hW _ _ hL _
 have hval:∀ (j:Nat) t v,Tryz.f10.params[j]?=some t→args[j]?=some v→Value.okWide Tryz.prog W .any base t v:=hval0
 have hW':=hW
 obtain ⟨p,q,hA0,hV,rfl,hfz,hnd⟩:=hW
 have hA:DataW.TrodAll enc Tryz.prog W 0 (fun _=>true) true Tryz.f10.params.toList args.toList ds p:=hA0
 rw [Tryz.params10] at hA hval
 obtain ⟨v0,vs0,d0,ds0,p0,q0,hargs,rfl,rfl,h0,r0⟩:=trodAll_cons hA
 obtain ⟨v1,vs1,d1,ds1,p1,q1,rfl,rfl,rfl,h1,r1⟩:=trodAll_cons r0
 obtain ⟨rfl,rfl,rfl⟩:=trodAll_nil r1
 obtain rfl:args=#[v0,v1]:=by cases args; simp_all
 obtain ⟨rfl,rfl⟩:=trodVars_none hV
 have k0:=h0
 have k1:=h1
 have lt0:∀ x∈p0,x.block<W.heap.size:=by obtain ⟨m,hm⟩:=k0; exact DataW.trod_lt m _ _ _ hm
 have lt1:∀ x∈p1,x.block<W.heap.size:=by obtain ⟨m,hm⟩:=k1; exact DataW.trod_lt m _ _ _ hm
 have isa:∀ v,Value.okWide Tryz.prog W .any base 25 v→∃ cs,v=.agg cs:=fun v this=>by
  unfold Value.okWide at this
  rw [Tryz.underlying25] at this
  obtain ⟨cs,h,_⟩:=this
  exact ⟨cs,h⟩
 have hagg0:=isa v0 (hval 0 25 v0 rfl rfl)
 have hagg1:=isa v1 (hval 1 25 v1 rfl rfl)
 clear hA0 hval0
 refine (runs v0 v1 d0 d1 p0 p1 W hagg0 hagg1 h0 h1).mono fun e W' ⟨he,bel⟩=>?_
 subst he
 exact ⟨_,rfl,_,_,_,[],_,[],hW',trodAll_mk1 (shut_bool Tryz.underlying4 _),(trodAll_cons_mk (Below.trod laidOut (by kernel_rfl) (of_decide_eq_true (by kernel_rfl)) k0 bel lt0) (trodAll_cons_mk (Below.trod laidOut (by kernel_rfl) (of_decide_eq_true (by kernel_rfl)) k1 bel lt1) trodAll_mk0)),rfl,bel.frame _,fun h=>by cases h⟩
theorem over:Rows.RenameComparesSaid:=
 OpenClaim.holds_of_wide 10 Tryz.f10 rfl rfl rfl rfl rfl rfl rfl ⟨rfl,rfl,rfl,rfl,rfl⟩ rfl rfl rfl rfl rfl QDY Tryz.func10 QGw
  (of_decide_eq_true (by kernel_rfl)) (by unfold Func.isWrapper; first |(rw [if_pos (by decide +kernel)]; kernel_rfl) |(rw [if_neg (by decide +kernel)]; exact ⟨rfl,rfl⟩))
  (fun os started H enc _=>lifted os started H enc)
theorem proved:Rows.RenameComparesCardSaid:=
 Claim7.holds_tied_plain_at .later [] [.data,.pinned] true (true, "98072779bcb222dd4e5ccf16eb900229f3b3bede65a24e9cd73c73baf145d65b") false
  over (fun _ h=>by cases h) (by kernel_rfl) (fun _ h=>by cases h) renameCompares_row_tie rfl ⟨rfl,rfl⟩ (by kernel_rfl) rfl
  (fun f fn hf hfn=>by
   obtain rfl:f=10:=Option.some.inj (QDY.symm.trans hf) |>.symm
   obtain rfl:fn=Tryz.f10:=(Option.some.inj (Tryz.func10.symm.trans hfn)).symm
   exact ⟨by kernel_rfl,fun j t ht=>by
    rw [Tryz.params10] at ht
    have h3:t=25:=by
     match j with
     | 0=>simpa using ht.symm
     | 1=>simpa using ht.symm
     | j+2=>simp at ht
    subst h3
    exact (show Tryz.prog.wantsStandIn 25=false by kernel_rfl)⟩)
  (by kernel_rfl)
end Go.Proofs.YtkecfadnfnnfaaaGreatDoor.LabB
