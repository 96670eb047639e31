/- Proved: for every program that RenameMoves takes, the law answers true: a valid program is the same as that with renumbered nodes, and as that with normal forms in the place of its functions, which are valid, too. Conditions: the statement's own (the listed library tables are laid as the program's text lays them, which the card ties). -/
import Derived.Test.YtkecfadnfnnfaaaGreatDoorLawB
import Derived.Test.YtkecfadnfnnfaaaGreatDoorPlM6
import Derived.Test.YtkecfadnfnnfaaaGreatDoorJfC
import Derived.Test.YtkecfadnfnnfaaaGreatDoorRows
import Derived.Test.YtkecfadnfnnfaaaGreatDoorTie
import Derived.Test.YtkecfadnfnnfaaaGreatDoorCards
import Derived.SevenTiedAt
import Derived.WalkKit
import Derived.ProofKit
import Derived.OpenShut
import Derived.ShutString
import Derived.ChangeOld
import Derived.ChangeSame
import Derived.ChangeVars
import Derived.Below
import Derived.SizedLaws
import Derived.LaidLaws
import Derived.JoinedOf
import Derived.RowKitTokens
import Derived.LaidHandle
import Derived.Stop.Joined
namespace Go.Proofs.YtkecfadnfnnfaaaGreatDoor.LabB
open Go Go.Ev Go.Proofs Go.Proofs.YtkecfadnfnnfaaaGreatDoor
open Go.ChangeShapes Go.WideShapes Go.ChangeAt Go.RowKit
set_option linter.unusedVariables false
theorem QGy (x:Qae)(h:Qe1 x=some true):R tabs.ctx (.pfn 11 [.agg (Sy.row Qfc x)])=some (.val (.bool true) []):=by
 have:=Sy.QGX QFW (i:=249) (x:=x) (z:=true) h (by kernel_rfl) (by kernel_rfl) (env:=(Sy.Env.none.set 0 Qfc x).set 1 .bool true) (θ:=[.v 0]) (n:=1) (j:=0) (o:=Sy.QzJ [.bool]) (by kernel_rfl) (by show true=_; kernel_rfl) (by kernel_rfl)
 refine Eq.trans ?_ (this.trans ?_)
 ·congr 2
 ·rfl
theorem law (cs:List AV)(h:Typed tabs.ctx 10 25 cs):R tabs.ctx (.pfn 11 [.agg cs])=some (.val (.bool true) []):=by
 obtain ⟨x,rfl,g⟩:=Sy.Qp0 h (show Sy.tyN ctx 10 25=some Qfc by kernel_rfl)
 exact QGy x (V.QHg QDa x)
theorem own:ownKnob Tryz.prog.godebug=none:=by kernel_rfl
theorem laidOut:laidOutB Tryz.prog=true:=by kernel_rfl
theorem QFa:Qj2 tabs.ctx 10 25=true:=by kernel_rfl
theorem QGz:(tabs.ctx.ty 25).isAgg=true:=by kernel_rfl
theorem runs {H:Type}{enc:TypeId×Value→H}(v0:Value)(d0:DataW H)(p0:List MemPlace)(W:World)(hv:∃ cs,v0=.agg cs)
  (h0:DataW.Trod enc Tryz.prog W 0 (fun _=>true) true 25 v0 d0 p0):
  Calls Tryz.prog 11 #[v0] W fun e w'=>e=.returned (.bool true)∧Below W.heap.size W w':=by
 obtain ⟨x,cs,a1,a2,a3⟩:=Qyw QxK QFa h0 (fun _=>hv) (fun h=>by rw [QGz] at h; cases h)
 rw [QGz,if_pos rfl] at a2
 subst a2
 obtain ⟨k,hk⟩:=QFu (k:=0) (law cs a1)
 obtain ⟨_,hc⟩:=(good k).pfn 11 [.agg cs] _ _ hk (QfM W) W #[v0] (QpX W) ⟨rfl,fun j x u hx hu=>by
  match j with
  | 0=>simp at hx hu; rw [← hx,← hu]; exact a3
  | j+1=>simp at hx⟩
 refine Calls.mono hc fun e w' he=>?_
 obtain ⟨cv,I',rfl,_,_,_,hr,hb,_⟩:=he
 cases hr
 exact ⟨rfl,hb⟩
def QFb:List Nat:=[128,191,160,191,128,159,144,191,128,143]++List.replicate 22 0
noncomputable def Quv (os:Os):World:=
 let w0:=World.holding Tryz.prog os ⟨#[],#[],[]⟩
 { w0 with heap:=(w0.heap.modify 1 fun
   | .cells _ t frozen=>.cells (Go.Pinned.utf8FirstZ.map fun n:Nat=>Value.int .u8 (n:Int)).toArray t frozen
   | o=>o).modify 2 fun
   | .cells _ t frozen=>.cells (QFb.map fun n:Nat=>Value.int .u8 (n:Int)).toArray t frozen
   | o=>o }
theorem QyJ:(Rows.renameMovesRow.laid.filter fun x=>x.2.handleName?.isSome)=[]:=by kernel_rfl
theorem QHh (w:World)(h:laidMet Tryz.prog Rows.renameMovesRow.laid w):laidMetH Tryz.prog Rows.renameMovesRow.laid w:=by
 unfold laidMetH
 rw [QyJ]
 exact h
theorem QDv (os:Os)(args:Array Value):laidMetH Tryz.prog Rows.renameMovesRow.laid ((Quv os).forCall (fun _ _=>0) ⟨#[],args,[]⟩).memory:=
 QHh _ (laidMet_of_run' 12 (by kernel_rfl) (by kernel_rfl))
set_option maxRecDepth 100000 in
theorem lifted (os:Os)(started:os.Started)(H:Type)(enc:TypeId×Value→H):
  ReturnsInHanded {} Tryz.checked os 11 .any (fun w args=>(Rows.renameMovesSpec.pre enc Tryz.prog Tryz.f11 [] false w args∧laidMetH Tryz.prog Rows.renameMovesRow.laid w)∧sizedMet enc Tryz.prog Tryz.f11 (OpenSpec.ofChange Rows.renameMovesSpec) false w args)
   (Rows.renameMovesSpec.post enc Tryz.prog Tryz.f11 false true false false):=by
 refine returnsInHanded_of_change_and (C:=Tryz.checked) (X:=fun w _=>laidMetH Tryz.prog Rows.renameMovesRow.laid w) (fun _ _ _ hh h=>h.of_heap hh) own started (by kernel_rfl) Tryz.func11
  (ChangeSpec.witness_at (enc:=enc) (C:=Tryz.checked) (os:=os) (X:=fun w _=>laidMetH Tryz.prog Rows.renameMovesRow.laid w) false (Quv os) #[.agg #[.slice none 0 0,.slice none 0 0]] 8 rfl (by kernel_rfl) (by kernel_rfl) (by kernel_rfl) (by kernel_rfl) (by kernel_rfl) (QDv os _)) ?_
 intro W base args ds gs before hval0 hW _ _ hL _
 have hval:∀ (j:Nat) t v,Tryz.f11.params[j]?=some t→args[j]?=some v→Value.okWide Tryz.prog W .any base t v:=hval0
 have hW':=hW
 obtain ⟨p,q,hA0,hV,rfl,hfz,hnd⟩:=hW
 have hA:DataW.TrodAll enc Tryz.prog W 0 (fun _=>true) true Tryz.f11.params.toList args.toList ds p:=hA0
 rw [Tryz.params11] at hA hval
 obtain ⟨v0,vs0,d0,ds0,p0,q0,hargs,rfl,rfl,h0,r0⟩:=trodAll_cons hA
 obtain ⟨rfl,rfl,rfl⟩:=trodAll_nil r0
 obtain rfl:args=#[v0]:=by cases args; simp_all
 obtain ⟨rfl,rfl⟩:=trodVars_none hV
 have k0:=h0
 have lt0:∀ x∈p0,x.block<W.heap.size:=by obtain ⟨m,hm⟩:=k0; exact DataW.trod_lt m _ _ _ hm
 have isa:∀ v,Value.okWide Tryz.prog W .any base 25 v→∃ cs,v=.agg cs:=fun v this=>by
  unfold Value.okWide at this
  rw [Tryz.underlying25] at this
  obtain ⟨cs,h,_⟩:=this
  exact ⟨cs,h⟩
 have hagg0:=isa v0 (hval 0 25 v0 rfl rfl)
 clear hA0 hval0
 refine (runs v0 d0 p0 W hagg0 h0).mono fun e W' ⟨he,bel⟩=>?_
 subst he
 exact ⟨_,rfl,_,_,_,[],_,[],hW',trodAll_mk1 (shut_bool Tryz.underlying4 _),(trodAll_cons_mk (Below.trod laidOut (by kernel_rfl) (of_decide_eq_true (by kernel_rfl)) k0 bel lt0) trodAll_mk0),rfl,bel.frame _,fun h=>by cases h⟩
theorem over:Rows.RenameMovesSaid:=
 OpenClaim.holds_of_wide 11 Tryz.f11 rfl rfl rfl rfl rfl rfl rfl ⟨rfl,rfl,rfl,rfl,rfl⟩ rfl rfl rfl rfl rfl QDW Tryz.func11 QGx
  (of_decide_eq_true (by kernel_rfl)) (by unfold Func.isWrapper; first |(rw [if_pos (by decide +kernel)]; kernel_rfl) |(rw [if_neg (by decide +kernel)]; exact ⟨rfl,rfl⟩))
  (fun os started H enc _=>lifted os started H enc)
theorem proved:Rows.RenameMovesCardSaid:=
 Claim7.holds_tied_plain_at .later [] [.data,.pinned] true (true, "98072779bcb222dd4e5ccf16eb900229f3b3bede65a24e9cd73c73baf145d65b") false
  over (fun _ h=>by cases h) (by kernel_rfl) (fun _ h=>by cases h) renameMoves_row_tie rfl ⟨rfl,rfl⟩ (by kernel_rfl) rfl
  (fun f fn hf hfn=>by
   obtain rfl:f=11:=Option.some.inj (QDW.symm.trans hf) |>.symm
   obtain rfl:fn=Tryz.f11:=(Option.some.inj (Tryz.func11.symm.trans hfn)).symm
   exact ⟨by kernel_rfl,fun j t ht=>by
    rw [Tryz.params11] at ht
    have h3:t=25:=by
     match j with
     | 0=>simpa using ht.symm
     | j+1=>simp at ht
    subst h3
    exact (show Tryz.prog.wantsStandIn 25=false by kernel_rfl)⟩)
  (by kernel_rfl)
end Go.Proofs.YtkecfadnfnnfaaaGreatDoor.LabB
