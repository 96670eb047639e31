/- Proved: for every program, function number and node number of bulk at most 1048576 that OwnershipLives takes, the law answers true: Roots and Live agree with the reference. Conditions: the statement's own (the bulk of what is read; the listed library tables are laid as the program's text lays them, which the card ties). -/
import Derived.Test.YtkecfadnfnnfaaaGreatDoorLawB
import Derived.Test.YtkecfadnfnnfaaaGreatDoorPlO10
import Derived.Test.YtkecfadnfnnfaaaGreatDoorSyY
import Derived.Test.YtkecfadnfnnfaaaGreatDoorJfF
import Derived.Test.YtkecfadnfnnfaaaGreatDoorRows
import Derived.Test.YtkecfadnfnnfaaaGreatDoorTie
import Derived.Test.YtkecfadnfnnfaaaGreatDoorCards
import Derived.SevenTiedAt
import Derived.WalkKit
import Derived.ProofKit
import Derived.OpenShut
import Derived.ShutString
import Derived.ChangeOld
import Derived.ChangeSame
import Derived.ChangeVars
import Derived.Below
import Derived.SizedLaws
import Derived.LaidLaws
import Derived.JoinedOf
import Derived.JoinedCond
import Derived.RowKitTokens
import Derived.LaidHandle
import Derived.Stop.Joined
import Derived.Deep.DeepHandedRow
namespace Go.Proofs.YtkecfadnfnnfaaaGreatDoor.LabB
open Go Go.Ev Go.Proofs Go.Proofs.YtkecfadnfnnfaaaGreatDoor
open Go.ChangeShapes Go.WideShapes Go.ChangeAt Go.RowKit
set_option linter.unusedVariables false
theorem QG3 (x:Qae)(k n:Int)(h:Qd0 x k n=some true):R tabs.ctx (.pfn 9 [.agg (Sy.row QeZ x),.int .i64 k,.int .i64 n])=some (.val (.bool true) []):=by
 have:=Sy.QHu QGx (i:=384) (x:=(x,k,n)) (z:=true) h (by kernel_rfl) (by kernel_rfl) (env:=(((Sy.Env.none.set 0 QeZ x).set 1 (.int .i64) k).set 2 (.int .i64) n).set 3 .bool true) (θ:=[.v 0,.v 1,.v 2]) (n:=3) (j:=0) (o:=Sy.QAQ [.bool]) (by kernel_rfl) (by show true=_; kernel_rfl) (by kernel_rfl)
 refine Eq.trans ?_ (this.trans ?_)
 ·congr 2
 ·rfl
theorem QFH {x:Qae}(g:Sy.Qus 1048576 QeZ x):O.QFB x:=by
 obtain ⟨⟨g1,g2⟩,g3,g4⟩:=g
 refine ⟨fun a ha c hc=>?_,fun f hf n hn b hb=>?_,g1,fun a ha=>?_,g3,fun f hf=>?_⟩
 ·obtain ⟨_,_,h2⟩:=g2 a ha
  obtain ⟨h3,h4,_⟩:=h2 c hc
  exact ⟨h3,h4⟩
 ·obtain ⟨_,_,_,_,⟨_,h2⟩,_⟩:=g4 f hf
  obtain ⟨_,_,_,_,_,_,_,_,⟨_,h3⟩,_⟩:=h2 n hn
  obtain ⟨⟨h4,_⟩,_⟩:=h3 b hb
  exact h4
 ·obtain ⟨_,h1,_⟩:=g2 a ha
  exact h1
 ·obtain ⟨_,_,_,_,⟨h1,_⟩,_⟩:=g4 f hf
  exact h1
theorem law (cs:List AV)(k n:Int)(h:Qgq 1048576 tabs.ctx 10 25 cs):R tabs.ctx (.pfn 9 [.agg cs,.int .i64 k,.int .i64 n])=some (.val (.bool true) []):=by
 obtain ⟨x,rfl,g⟩:=Sy.Qoz h (show Sy.tyN ctx 10 25=some QeZ by kernel_rfl)
 exact QG3 x k n (O.QyT Qzv x (QFH g) k n)
theorem own:ownKnob Tryz.prog.godebug=none:=by kernel_rfl
theorem laidOut:laidOutB Tryz.prog=true:=by kernel_rfl
theorem QFI:Qlk tabs.ctx 10 25=true:=by kernel_rfl
theorem QG4:(tabs.ctx.ty 25).isAgg=true:=by kernel_rfl
theorem QD0 {H:Type}(d:DataW H):1≤Rows.uptoBulk d:=by
 cases d with
 | lit l=>cases l<;>simp [Rows.uptoBulk]
 | nil=>simp [Rows.uptoBulk]
 | ptr d=>simp [Rows.uptoBulk]
 | slice elems spare=>simp [Rows.uptoBulk]
 | agg parts=>simp [Rows.uptoBulk]
 | iface t d=>simp [Rows.uptoBulk]
 | map entries=>simp [Rows.uptoBulk]
 | held h=>simp [Rows.uptoBulk]
theorem QrB {H:Type}{d:DataW H}{l:List (DataW H)}(h:d∈l):Rows.uptoBulk d≤Rows.uptoBulkAll l:=by
 induction l with
 | nil=>cases h
 | cons x r ih=>
  simp only [Rows.uptoBulkAll]
  cases List.mem_cons.1 h with
  | inl e=>subst e; omega
  | inr e=>have:=ih e; omega
theorem QD1 {H:Type}(l:List (DataW H)):l.length≤Rows.uptoBulkAll l:=by
 induction l with
 | nil=>simp [Rows.uptoBulkAll]
 | cons x r ih=>have:=QD0 x; simp only [Rows.uptoBulkAll,List.length_cons]; omega
theorem QCy {H:Type}:Bulk (Rows.uptoBulk (H:=H)):=by
 refine ⟨fun s=>?_,fun l m=>?_,fun l m d hd=>?_,fun l d hd=>?_⟩
 ·simp only [Rows.uptoBulk]; omega
 ·have:=QD1 l
  simp only [Rows.uptoBulk]; omega
 ·have:=QrB hd
  simp only [Rows.uptoBulk]; omega
 ·have:=QrB hd
  simp only [Rows.uptoBulk]; omega
theorem QzW {H:Type}{d:DataW H}{l:List (DataW H)}(hk:Rows.uptoSmall H (d::l)=true):Rows.uptoBulk d≤1048576:=by
 have h:Rows.uptoBulkAll (d::l)≤1048576:=of_decide_eq_true hk
 exact Nat.le_trans (QrB (by simp)) h
theorem runs {H:Type}{enc:TypeId×Value→H}(v0:Value)(k n:Int)(d0:DataW H)(p0:List MemPlace)(W:World)(hv:∃ cs,v0=.agg cs)(hb:Rows.uptoBulk d0≤1048576)
  (h0:DataW.Trod enc Tryz.prog W 0 (fun _=>true) true 25 v0 d0 p0):
  Calls Tryz.prog 9 #[v0,.int .i64 k,.int .i64 n] W fun e w'=>e=.returned (.bool true)∧Below W.heap.size W w':=by
 obtain ⟨x,cs,a1,a2,a3⟩:=Qxx QCy QrH QFI h0 hb (fun _=>hv) (fun h=>by rw [QG4] at h; cases h)
 rw [QG4,if_pos rfl] at a2
 subst a2
 obtain ⟨m,hm⟩:=QF5 (k:=0) (law cs k n a1)
 obtain ⟨_,hc⟩:=(good m).pfn 9 [.agg cs,.int .i64 k,.int .i64 n] _ _ hm (QfV W) W #[v0,.int .i64 k,.int .i64 n] (Qrl W) ⟨rfl,fun j x u hx hu=>by
  match j with
  | 0=>simp at hx hu; rw [← hx,← hu]; exact a3
  | 1=>simp at hx hu; rw [← hx,← hu]; exact .int _ _ _
  | 2=>simp at hx hu; rw [← hx,← hu]; exact .int _ _ _
  | j+3=>simp at hx⟩
 refine Calls.mono hc fun e w' he=>?_
 obtain ⟨cv,I',rfl,_,_,_,hr,hb,_⟩:=he
 cases hr
 exact ⟨rfl,hb⟩
def QFJ:List Nat:=[128,191,160,191,128,159,144,191,128,143]++List.replicate 22 0
noncomputable def QrC (os:Os):World:=
 let w0:=World.holding Tryz.prog os ⟨#[],#[],[]⟩
 { w0 with heap:=(w0.heap.modify 1 fun
   | .cells _ t frozen=>.cells (Go.Pinned.utf8FirstZ.map fun n:Nat=>Value.int .u8 (n:Int)).toArray t frozen
   | o=>o).modify 2 fun
   | .cells _ t frozen=>.cells (QFJ.map fun n:Nat=>Value.int .u8 (n:Int)).toArray t frozen
   | o=>o }
noncomputable def QFK:Array Value:=#[.agg #[.slice none 0 0,.slice none 0 0],.int .i64 0,.int .i64 0]
theorem QzX:(Rows.ownershipLivesUptoRow.laid.filter fun x=>x.2.handleName?.isSome)=[]:=by kernel_rfl
theorem QHD (w:World)(h:laidMet Tryz.prog Rows.ownershipLivesUptoRow.laid w):laidMetH Tryz.prog Rows.ownershipLivesUptoRow.laid w:=by
 unfold laidMetH
 rw [QzX]
 exact h
theorem QD2 (os:Os)(args:Array Value):laidMetH Tryz.prog Rows.ownershipLivesUptoRow.laid ((QrC os).forCall (fun _ _=>0) ⟨#[],args,[]⟩).memory:=
 QHD _ (laidMet_of_run' 12 (by kernel_rfl) (by kernel_rfl))
theorem reads (os:Os){H:Type}(enc:TypeId×Value→H):∃ places,DataW.whole enc Tryz.prog ((QrC os).forCall (fun _ _=>0) ⟨#[],QFK,[]⟩).memory Tryz.f9.params.toList (Rows.OpenSpec.upto Rows.ownershipLivesSpec).vars false QFK.toList 8=some ([.agg [.nil,.nil],.lit (.int .i64 0),.lit (.int .i64 0)],[],places):=
 ⟨[],by kernel_rfl⟩
set_option maxRecDepth 100000 in
theorem QD3 (H:Type)(enc:TypeId×Value→H)(W:World)(base:Nat)(args:Array Value)(ds gs:List (DataW H))(before:List MemPlace)
  (hval0:∀ (j:Nat) t v,Tryz.f9.params[j]?=some t→args[j]?=some v→Value.okWide Tryz.prog W .any base t v)
  (hW:DataW.Whole enc Tryz.prog Tryz.f9.params.toList Rows.ownershipLivesSpec.vars false W args.toList ds gs before) (hk:Rows.uptoSmall H (ds++gs)=true):
  Calls Tryz.prog 9 args W fun e W'=>∃ v,e=.returned v∧Rows.ownershipLivesSpec.post enc Tryz.prog Tryz.f9 false true false false W args v W':=by
 have hval:∀ (j:Nat) t v,Tryz.f9.params[j]?=some t→args[j]?=some v→Value.okWide Tryz.prog W .any base t v:=hval0
 have hW':=hW
 obtain ⟨p,q,hA0,hV,rfl,hfz,hnd⟩:=hW
 have hA:DataW.TrodAll enc Tryz.prog W 0 (fun _=>true) true Tryz.f9.params.toList args.toList ds p:=hA0
 rw [Tryz.params9] at hA hval
 obtain ⟨v0,vs0,d0,ds0,p0,q0,hargs,rfl,rfl,h0,r0⟩:=trodAll_cons hA
 obtain ⟨v1,vs1,d1,ds1,p1,q1,rfl,rfl,rfl,h1,r1⟩:=trodAll_cons r0
 obtain ⟨v2,vs2,d2,ds2,p2,q2,rfl,rfl,rfl,h2,r2⟩:=trodAll_cons r1
 obtain ⟨rfl,rfl,rfl⟩:=trodAll_nil r2
 obtain rfl:args=#[v0,v1,v2]:=by cases args; simp_all
 obtain ⟨rfl,rfl⟩:=trodVars_none hV
 have k0:=h0
 have lt0:∀ x∈p0,x.block<W.heap.size:=by obtain ⟨m,hm⟩:=k0; exact DataW.trod_lt m _ _ _ hm
 have isa:∀ v,Value.okWide Tryz.prog W .any base 25 v→∃ cs,v=.agg cs:=fun v this=>by
  unfold Value.okWide at this
  rw [Tryz.underlying25] at this
  obtain ⟨cs,h,_⟩:=this
  exact ⟨cs,h⟩
 have hagg0:=isa v0 (hval 0 25 v0 rfl rfl)
 obtain ⟨m,rfl,rfl,rfl,hwf⟩:=open_int Tryz.underlying3 (hval 1 3 v1 rfl rfl) h1
 obtain ⟨m2,rfl,rfl,rfl,hwf2⟩:=open_int Tryz.underlying3 (hval 2 3 v2 rfl rfl) h2
 have hb:=QzW hk
 clear hA0 hval0
 refine (runs v0 m m2 d0 p0 W hagg0 hb h0).mono fun e W' ⟨he,bel⟩=>?_
 subst he
 exact ⟨_,rfl,_,_,_,[],_,[],hW',trodAll_mk1 (shut_bool Tryz.underlying4 _),(trodAll_cons_mk (Below.trod laidOut (by kernel_rfl) (of_decide_eq_true (by kernel_rfl)) k0 bel lt0) (trodAll_cons_mk (shut_int Tryz.underlying3 hwf) (trodAll_cons_mk (shut_int Tryz.underlying3 hwf2) trodAll_mk0))),rfl,bel.frame _,fun h=>by cases h⟩
set_option maxRecDepth 100000 in
theorem lifted (os:Os)(started:os.Started)(H:Type)(enc:TypeId×Value→H)(F:Stop.Interp):
  ReturnsInHanded {} Tryz.checked os 9 .any ((Rows.OpenSpec.upto Rows.ownershipLivesSpec).preRow enc Tryz.prog Tryz.f9 Rows.ownershipLivesUptoRow.domain false Rows.ownershipLivesUptoRow.laid) (((Rows.OpenSpec.upto Rows.ownershipLivesSpec).at F).post enc Tryz.prog Tryz.f9 false true false false):=by
 obtain ⟨places,hx⟩:=reads os enc
 refine returnsInHanded_of_row (C:=Tryz.checked) (s:=Rows.OpenSpec.upto Rows.ownershipLivesSpec) own started (by kernel_rfl) Tryz.func9
  (witness_row_at (enc:=enc) (C:=Tryz.checked) false (QrC os) QFK rfl (by kernel_rfl) (by kernel_rfl) (by kernel_rfl)
   (OpenSpec.preRow_of_cond 8 hx (by kernel_rfl) (fun k hk=>by cases hk; kernel_rfl) (by kernel_rfl) (QD2 os _))) ?_
 intro W base args ds gs before hval hW _ hk _ hL _ _
 exact QD3 H enc W base args ds gs before hval hW (hk _ rfl)
theorem over:Rows.OwnershipLivesUptoSaid:=
 OpenClaim.holds_of_cond 9 Tryz.f9 rfl rfl rfl rfl rfl rfl rfl ⟨rfl,rfl,rfl,rfl,rfl⟩ rfl rfl rfl rfl rfl QEs Tryz.func9 QG2
  (of_decide_eq_true (by kernel_rfl)) (by unfold Func.isWrapper; first |(rw [if_pos (by decide +kernel)]; kernel_rfl) |(rw [if_neg (by decide +kernel)]; exact ⟨rfl,rfl⟩))
  (fun os started H enc _ F=>by rw [OpenClaim.pre_eq_preRow]; exact lifted os started H enc F)
theorem proved:Rows.OwnershipLivesUptoCardSaid:=
 Claim7.holds_tied_plain_at .later [] [.data,.pinned] true (true, "98072779bcb222dd4e5ccf16eb900229f3b3bede65a24e9cd73c73baf145d65b") false
  over (fun _ h=>by cases h) (by kernel_rfl) (fun _ h=>by cases h) ownershipLivesUpto_row_tie rfl ⟨rfl,rfl⟩ (by kernel_rfl) rfl
  (fun f fn hf hfn=>by
   obtain rfl:f=9:=Option.some.inj (QEs.symm.trans hf) |>.symm
   obtain rfl:fn=Tryz.f9:=(Option.some.inj (Tryz.func9.symm.trans hfn)).symm
   exact ⟨by kernel_rfl,fun j t ht=>by
    rw [Tryz.params9] at ht
    have h3:t=25∨t=3:=by
     match j with
     | 0=>exact Or.inl (by simpa using ht.symm)
     | 1=>exact Or.inr (by simpa using ht.symm)
     | 2=>exact Or.inr (by simpa using ht.symm)
     | j+3=>simp at ht
    rcases h3 with rfl |rfl
    ·exact (show Tryz.prog.wantsStandIn 25=false by kernel_rfl)
    ·exact (show Tryz.prog.wantsStandIn 3=false by kernel_rfl)⟩)
  (by kernel_rfl)
end Go.Proofs.YtkecfadnfnnfaaaGreatDoor.LabB
