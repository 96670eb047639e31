/- Proved: for every program of bulk at most 1048576 that OwnershipPaths takes, the law answers true: in a function that satisfies the rules, every path consumes each owned variable in scope exactly once, and no other variable. Conditions: the statement's own (the bulk of what is read; the listed library tables are laid as the program's text lays them, which the card ties). -/
import Derived.Test.YtkecfadnfnnfaaaGreatDoorLawB
import Derived.Test.YtkecfadnfnnfaaaGreatDoorPlO8
import Derived.Test.YtkecfadnfnnfaaaGreatDoorSyY
import Derived.Test.YtkecfadnfnnfaaaGreatDoorJfE
import Derived.Test.YtkecfadnfnnfaaaGreatDoorRows
import Derived.Test.YtkecfadnfnnfaaaGreatDoorTie
import Derived.Test.YtkecfadnfnnfaaaGreatDoorCards
import Derived.SevenTiedAt
import Derived.WalkKit
import Derived.ProofKit
import Derived.OpenShut
import Derived.ShutString
import Derived.ChangeOld
import Derived.ChangeSame
import Derived.ChangeVars
import Derived.Below
import Derived.SizedLaws
import Derived.LaidLaws
import Derived.JoinedOf
import Derived.JoinedCond
import Derived.RowKitTokens
import Derived.LaidHandle
import Derived.Stop.Joined
import Derived.Deep.DeepHandedRow
namespace Go.Proofs.YtkecfadnfnnfaaaGreatDoor.LabB
open Go Go.Ev Go.Proofs Go.Proofs.YtkecfadnfnnfaaaGreatDoor
open Go.ChangeShapes Go.WideShapes Go.ChangeAt Go.RowKit
set_option linter.unusedVariables false
theorem QFa (x:Qae)(h:Qeh x=some true):R tabs.ctx (.pfn 4 [.agg (Sy.row Qfq x)])=some (.val (.bool true) []):=by
 have:=Sy.QFB QEK (i:=377) (x:=x) (z:=true) h (by kernel_rfl) (by kernel_rfl) (env:=(Sy.Env.none.set 0 Qfq x).set 1 .bool true) (θ:=[.v 0]) (n:=1) (j:=0) (o:=Sy.Qzd [.bool]) (by kernel_rfl) (by show true=_; kernel_rfl) (by kernel_rfl)
 refine Eq.trans ?_ (this.trans ?_)
 ·congr 2
 ·rfl
theorem QDS {x:Qae}(g:Sy.Qs1 1048576 Qfq x):O.QDR x:=by
 obtain ⟨⟨g1,g2⟩,g3,g4⟩:=g
 refine ⟨fun a ha c hc=>?_,fun f hf n hn b hb=>?_,g1,fun a ha=>?_,g3,fun f hf=>?_⟩
 ·obtain ⟨_,_,h2⟩:=g2 a ha
  obtain ⟨h3,h4,_⟩:=h2 c hc
  exact ⟨h3,h4⟩
 ·obtain ⟨_,_,_,_,⟨_,h2⟩,_⟩:=g4 f hf
  obtain ⟨_,_,_,_,_,_,_,_,⟨_,h3⟩,_⟩:=h2 n hn
  obtain ⟨⟨h4,_⟩,_⟩:=h3 b hb
  exact h4
 ·obtain ⟨_,h1,_⟩:=g2 a ha
  exact h1
 ·obtain ⟨_,_,_,_,⟨h1,_⟩,_⟩:=g4 f hf
  exact h1
theorem law (cs:List AV)(h:Qgy 1048576 tabs.ctx 10 25 cs):R tabs.ctx (.pfn 4 [.agg cs])=some (.val (.bool true) []):=by
 obtain ⟨x,rfl,g⟩:=Sy.QnB h (show Sy.tyN ctx 10 25=some Qfq by kernel_rfl)
 exact QFa x (O.paths QxW x (QDS g))
theorem own:ownKnob Tryz.prog.godebug=none:=by kernel_rfl
theorem laidOut:laidOutB Tryz.prog=true:=by kernel_rfl
theorem QDT:QkD tabs.ctx 10 25=true:=by kernel_rfl
theorem QFb:(tabs.ctx.ty 25).isAgg=true:=by kernel_rfl
theorem QCq {H:Type}(d:DataW H):1≤Rows.uptoBulk d:=by
 cases d with
 | lit l=>cases l<;>simp [Rows.uptoBulk]
 | nil=>simp [Rows.uptoBulk]
 | ptr d=>simp [Rows.uptoBulk]
 | slice elems spare=>simp [Rows.uptoBulk]
 | agg parts=>simp [Rows.uptoBulk]
 | iface t d=>simp [Rows.uptoBulk]
 | map entries=>simp [Rows.uptoBulk]
 | held h=>simp [Rows.uptoBulk]
theorem Qqs {H:Type}{d:DataW H}{l:List (DataW H)}(h:d∈l):Rows.uptoBulk d≤Rows.uptoBulkAll l:=by
 induction l with
 | nil=>cases h
 | cons x r ih=>
  simp only [Rows.uptoBulkAll]
  cases List.mem_cons.1 h with
  | inl e=>subst e; omega
  | inr e=>have:=ih e; omega
theorem QCr {H:Type}(l:List (DataW H)):l.length≤Rows.uptoBulkAll l:=by
 induction l with
 | nil=>simp [Rows.uptoBulkAll]
 | cons x r ih=>have:=QCq x; simp only [Rows.uptoBulkAll,List.length_cons]; omega
theorem QAS {H:Type}:Bulk (Rows.uptoBulk (H:=H)):=by
 refine ⟨fun s=>?_,fun l m=>?_,fun l m d hd=>?_,fun l d hd=>?_⟩
 ·simp only [Rows.uptoBulk]; omega
 ·have:=QCr l
  simp only [Rows.uptoBulk]; omega
 ·have:=Qqs hd
  simp only [Rows.uptoBulk]; omega
 ·have:=Qqs hd
  simp only [Rows.uptoBulk]; omega
theorem Qyj {H:Type}{d:DataW H}{l:List (DataW H)}(hk:Rows.uptoSmall H (d::l)=true):Rows.uptoBulk d≤1048576:=by
 have h:Rows.uptoBulkAll (d::l)≤1048576:=of_decide_eq_true hk
 exact Nat.le_trans (Qqs (by simp)) h
theorem runs {H:Type}{enc:TypeId×Value→H}(v0:Value)(d0:DataW H)(p0:List MemPlace)(W:World)(hv:∃ cs,v0=.agg cs)(hb:Rows.uptoBulk d0≤1048576)
  (h0:DataW.Trod enc Tryz.prog W 0 (fun _=>true) true 25 v0 d0 p0):
  Calls Tryz.prog 4 #[v0] W fun e w'=>e=.returned (.bool true)∧Below W.heap.size W w':=by
 obtain ⟨x,cs,a1,a2,a3⟩:=Qv2 QAS Qqy QDT h0 hb (fun _=>hv) (fun h=>by rw [QFb] at h; cases h)
 rw [QFb,if_pos rfl] at a2
 subst a2
 obtain ⟨m,hm⟩:=QEh (k:=0) (law cs a1)
 obtain ⟨_,hc⟩:=(good m).pfn 4 [.agg cs] _ _ hm (Qf8 W) W #[v0] (Qqa W) ⟨rfl,fun j x u hx hu=>by
  match j with
  | 0=>simp at hx hu; rw [← hx,← hu]; exact a3
  | j+1=>simp at hx⟩
 refine Calls.mono hc fun e w' he=>?_
 obtain ⟨cv,I',rfl,_,_,_,hr,hb,_⟩:=he
 cases hr
 exact ⟨rfl,hb⟩
def QDU:List Nat:=[128,191,160,191,128,159,144,191,128,143]++List.replicate 22 0
noncomputable def Qqt (os:Os):World:=
 let w0:=World.holding Tryz.prog os ⟨#[],#[],[]⟩
 { w0 with heap:=(w0.heap.modify 1 fun
   | .cells _ t frozen=>.cells (Go.Pinned.utf8FirstZ.map fun n:Nat=>Value.int .u8 (n:Int)).toArray t frozen
   | o=>o).modify 2 fun
   | .cells _ t frozen=>.cells (QDU.map fun n:Nat=>Value.int .u8 (n:Int)).toArray t frozen
   | o=>o }
noncomputable def QDV:Array Value:=#[.agg #[.slice none 0 0,.slice none 0 0]]
theorem Qyk:(Rows.ownershipPathsUptoRow.laid.filter fun x=>x.2.handleName?.isSome)=[]:=by kernel_rfl
theorem QF0 (w:World)(h:laidMet Tryz.prog Rows.ownershipPathsUptoRow.laid w):laidMetH Tryz.prog Rows.ownershipPathsUptoRow.laid w:=by
 unfold laidMetH
 rw [Qyk]
 exact h
theorem QCs (os:Os)(args:Array Value):laidMetH Tryz.prog Rows.ownershipPathsUptoRow.laid ((Qqt os).forCall (fun _ _=>0) ⟨#[],args,[]⟩).memory:=
 QF0 _ (laidMet_of_run' 12 (by kernel_rfl) (by kernel_rfl))
theorem reads (os:Os){H:Type}(enc:TypeId×Value→H):∃ places,DataW.whole enc Tryz.prog ((Qqt os).forCall (fun _ _=>0) ⟨#[],QDV,[]⟩).memory Tryz.f4.params.toList (Rows.OpenSpec.upto Rows.ownershipPathsSpec).vars false QDV.toList 8=some ([.agg [.nil,.nil]],[],places):=
 ⟨[],by kernel_rfl⟩
set_option maxRecDepth 100000 in
theorem QCt (H:Type)(enc:TypeId×Value→H)(W:World)(base:Nat)(args:Array Value)(ds gs:List (DataW H))(before:List MemPlace)
  (hval0:∀ (j:Nat) t v,Tryz.f4.params[j]?=some t→args[j]?=some v→Value.okWide Tryz.prog W .any base t v)
  (hW:DataW.Whole enc Tryz.prog Tryz.f4.params.toList Rows.ownershipPathsSpec.vars false W args.toList ds gs before) (hk:Rows.uptoSmall H (ds++gs)=true):
  Calls Tryz.prog 4 args W fun e W'=>∃ v,e=.returned v∧Rows.ownershipPathsSpec.post enc Tryz.prog Tryz.f4 false true false false W args v W':=by
 have hval:∀ (j:Nat) t v,Tryz.f4.params[j]?=some t→args[j]?=some v→Value.okWide Tryz.prog W .any base t v:=hval0
 have hW':=hW
 obtain ⟨p,q,hA0,hV,rfl,hfz,hnd⟩:=hW
 have hA:DataW.TrodAll enc Tryz.prog W 0 (fun _=>true) true Tryz.f4.params.toList args.toList ds p:=hA0
 rw [Tryz.params4] at hA hval
 obtain ⟨v0,vs0,d0,ds0,p0,q0,hargs,rfl,rfl,h0,r0⟩:=trodAll_cons hA
 obtain ⟨rfl,rfl,rfl⟩:=trodAll_nil r0
 obtain rfl:args=#[v0]:=by cases args; simp_all
 obtain ⟨rfl,rfl⟩:=trodVars_none hV
 have k0:=h0
 have lt0:∀ x∈p0,x.block<W.heap.size:=by obtain ⟨m,hm⟩:=k0; exact DataW.trod_lt m _ _ _ hm
 have isa:∀ v,Value.okWide Tryz.prog W .any base 25 v→∃ cs,v=.agg cs:=fun v this=>by
  unfold Value.okWide at this
  rw [Tryz.underlying25] at this
  obtain ⟨cs,h,_⟩:=this
  exact ⟨cs,h⟩
 have hagg0:=isa v0 (hval 0 25 v0 rfl rfl)
 have hb:=Qyj hk
 clear hA0 hval0
 refine (runs v0 d0 p0 W hagg0 hb h0).mono fun e W' ⟨he,bel⟩=>?_
 subst he
 exact ⟨_,rfl,_,_,_,[],_,[],hW',trodAll_mk1 (shut_bool Tryz.underlying4 _),(trodAll_cons_mk (Below.trod laidOut (by kernel_rfl) (of_decide_eq_true (by kernel_rfl)) k0 bel lt0) trodAll_mk0),rfl,bel.frame _,fun h=>by cases h⟩
set_option maxRecDepth 100000 in
theorem lifted (os:Os)(started:os.Started)(H:Type)(enc:TypeId×Value→H)(F:Stop.Interp):
  ReturnsInHanded {} Tryz.checked os 4 .any ((Rows.OpenSpec.upto Rows.ownershipPathsSpec).preRow enc Tryz.prog Tryz.f4 Rows.ownershipPathsUptoRow.domain false Rows.ownershipPathsUptoRow.laid) (((Rows.OpenSpec.upto Rows.ownershipPathsSpec).at F).post enc Tryz.prog Tryz.f4 false true false false):=by
 obtain ⟨places,hx⟩:=reads os enc
 refine returnsInHanded_of_row (C:=Tryz.checked) (s:=Rows.OpenSpec.upto Rows.ownershipPathsSpec) own started (by kernel_rfl) Tryz.func4
  (witness_row_at (enc:=enc) (C:=Tryz.checked) false (Qqt os) QDV rfl (by kernel_rfl) (by kernel_rfl) (by kernel_rfl)
   (OpenSpec.preRow_of_cond 8 hx (by kernel_rfl) (fun k hk=>by cases hk; kernel_rfl) (by kernel_rfl) (QCs os _))) ?_
 intro W base args ds gs before hval hW _ hk _ hL _ _
 exact QCt H enc W base args ds gs before hval hW (hk _ rfl)
theorem over:Rows.OwnershipPathsUptoSaid:=
 OpenClaim.holds_of_cond 4 Tryz.f4 rfl rfl rfl rfl rfl rfl rfl ⟨rfl,rfl,rfl,rfl,rfl⟩ rfl rfl rfl rfl rfl QCP Tryz.func4 QE9
  (of_decide_eq_true (by kernel_rfl)) (by unfold Func.isWrapper; first |(rw [if_pos (by decide +kernel)]; kernel_rfl) |(rw [if_neg (by decide +kernel)]; exact ⟨rfl,rfl⟩))
  (fun os started H enc _ F=>by rw [OpenClaim.pre_eq_preRow]; exact lifted os started H enc F)
theorem proved:Rows.OwnershipPathsUptoCardSaid:=
 Claim7.holds_tied_plain_at .later [] [.data,.pinned] true (true, "98072779bcb222dd4e5ccf16eb900229f3b3bede65a24e9cd73c73baf145d65b") false
  over (fun _ h=>by cases h) (by kernel_rfl) (fun _ h=>by cases h) ownershipPathsUpto_row_tie rfl ⟨rfl,rfl⟩ (by kernel_rfl) rfl
  (fun f fn hf hfn=>by
   obtain rfl:f=4:=Option.some.inj (QCP.symm.trans hf) |>.symm
   obtain rfl:fn=Tryz.f4:=(Option.some.inj (Tryz.func4.symm.trans hfn)).symm
   exact ⟨by kernel_rfl,fun j t ht=>by
    rw [Tryz.params4] at ht
    have h3:t=25:=by
     match j with
     | 0=>simpa using ht.symm
     | j+1=>simp at ht
    subst h3
    exact (show Tryz.prog.wantsStandIn 25=false by kernel_rfl)⟩)
  (by kernel_rfl)
end Go.Proofs.YtkecfadnfnnfaaaGreatDoor.LabB
