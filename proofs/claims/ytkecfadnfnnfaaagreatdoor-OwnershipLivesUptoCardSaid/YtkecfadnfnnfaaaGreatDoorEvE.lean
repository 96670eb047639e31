/- What a plan finds is found in whatever order; regions. -/
import Derived.Test.YtkecfadnfnnfaaaGreatDoorEvY
set_option linter.unusedVariables false
set_option linter.unusedSimpArgs false
namespace Go.Ev
open Go.RowKit
def QCM (P:Program)(f:FuncId)(cvs:Array Value)(v:AV)(H':Heap)(I:Imm)(ρ:Ren)(H:Heap)(w:World):Prop:=
 Calls P f cvs w fun e w'=>∃ cv I' ρ',e=.returned cv∧Ext H.length I ρ H w I' ρ' H' w'∧Sim I' ρ' H' w'∧VRel I' ρ' v cv∧H.length≤H'.length
section
variable {P:Program} {c:Ctx} {I J:Imm} {ρ:Ren} {H:Heap} {w:World}
theorem Ql7 (hs:Sim I ρ H w){args fs:List AV}{cvs:Array Value}(hm:mapM' (Qaj H 12) args=some fs)(ha:QfI I ρ args cvs)(hI:I.le J)(hJ:∀ b∈args.flatMap (frozenIn 12),QyF J w H ρ b):QfI J ρ0 fs cvs:=by
 obtain ⟨h1,h2⟩:=Qlo _ _ _ hm
 refine ⟨by rw [h1,ha.len],fun j x u hx hu=>?_⟩
 have hj:j<args.length:=by have:=(List.getElem?_eq_some_iff.1 hx).1; omega
 have hg:=List.getElem?_eq_getElem hj
 obtain ⟨b,hb1,hb2⟩:=h2 j _ hg
 rw [hx] at hb1
 simp at hb1
 subst hb1
 exact QgV hs hI 12 _ _ u hb2 (ha.at_ j _ u hg hu) (fun b hb=>hJ b (List.mem_flatMap.2 ⟨_,List.mem_of_getElem? hg,hb⟩))
theorem Qjm (hs:Sim I ρ H w){f:FuncId}{args fs:List AV}{cvs:Array Value}{v:AV}{H':Heap}(hm:mapM' (Qaj H 12) args=some fs)(ha:QfI I ρ args cvs)
  (hp:∀ J,Qft J w→QfI J ρ0 fs cvs→QCE P f cvs v J w)
  (h:(Qhp 8 v=true∧H'=H)∨QbT (args.flatMap (frozenIn 12)) H=some H'):QCM P f cvs v H' I ρ H w:=by
 have hle:I.le (I.add w (QoI H ρ (args.flatMap (frozenIn 12)))):=Imm.QuA hs.imm _
 have hholds:=QiA (I:=I) (w:=w) H ρ (args.flatMap (frozenIn 12))
 have hcall:=hp _ (Imm.Qlp hs.imm _) (Ql7 hs hm ha hle hholds)
 refine Calls.mono hcall fun e w' he=>?_
 obtain ⟨cv,I',rfl,h1,h2,h3,h4,h5,_⟩:=he
 rcases h with ⟨hf,rfl⟩ |hsh
 ·obtain ⟨s1,e1⟩:=hs.frozen (l:=[]) (H':=H') (w':=w') (J:=I) rfl (Imm.le_refl I) (hs.imm.keep fun b o v hv=>h5.block b (QpQ (hs.imm.at_ _ _ _ hv))) h5 (fun b hb=>by simp at hb) (fun _ _ _ hv=>.inl hv)
  exact ⟨cv,I,ρ,rfl,e1,s1,Qpj 8 v cv hf h4,Nat.le_refl _⟩
 ·obtain ⟨s1,e1⟩:=hs.frozen (w':=w') (J:=I') hsh (Imm.le_trans hle h1) h3 h5 (fun b hb z es x hk hx q o u hu=>h1 _ _ _ (hholds b hb z es x hk hx q o u hu)) (fun b o v hv=>by
   rcases h2 b o v hv with h |h
   ·exact Qv9 H ρ _ b o v h
   ·exact .inr (.inr h))
  exact ⟨cv,I',ρ,rfl,e1,s1,h4.any,by have:=(Qhy _ _ _ hsh).1; omega⟩
structure GoodCalls (P:Program)(rec:Task→Option Res):Prop where
 pfn:∀ f args v H',rec (.pfn f args)=some (.val v H')→∀ (I:Imm) (w:World) (cvs:Array Value),Qft I w→QfI I ρ0 args cvs→Enters P f∧QCE P f cvs v I w
 fn:∀ f args H v H',rec (.fn f args H)=some (.val v H')→∀ (I:Imm) (ρ:Ren) (w:World) (cvs:Array Value),Sim I ρ H w→QfI I ρ args cvs→Enters P f∧QCM P f cvs v H' I ρ H w
theorem QyO {rec:Task→Option Res}(hg:GoodCalls P rec)(hs:Sim I ρ H w){f:FuncId}{args:List AV}{cvs:Array Value}{v:AV}{H':Heap}(ha:QfI I ρ args cvs)(h:Qjg rec f args H=some (v,H')):
  Enters P f∧QCM P f cvs v H' I ρ H w:=by
 unfold Qjg at h
 have hlt:∀ v∈args,∀ b∈refs v,b<H.length:=fun v hv b hb=>by
  obtain ⟨j,hj⟩:=List.mem_iff_getElem?.1 hv
  have hjl:j<cvs.size:=by have:=(List.getElem?_eq_some_iff.1 hj).1; have:=ha.len; omega
  exact QmJ hs 8 v _ (ha.at_ j v _ hj (Array.getElem?_eq_getElem hjl)) b hb
 obtain ⟨seen,hk,hmet,hin⟩:=Qxz hs h (Nat.zero_le _) hlt
 simp only [Qxy,QeF] at hk
 split at hk
 case h_2=>cases hk
 rename_i v0 H'' hrec
 simp only [fLen,Qig,QsY,Qjl,Qsa,Qat,osi,Prod.mk.injEq] at hk
 obtain ⟨rfl,rfl⟩:=hk
 obtain ⟨sm,em⟩:=hs.met hmet hin
 have hargs:QfI I (ρ.by seen) (args.map (ren fun b=>QaY b seen 0)) cvs:=by
  refine ⟨by simp [ha.len],fun j x u hx hu=>?_⟩
  rw [List.getElem?_map] at hx
  cases hj:args[j]? with
  | none=>simp [hj] at hx
  | some y=>
   simp [hj] at hx
   subst hx
   exact QpT (ha.at_ j y u hj hu) (fun b hb x hx=>by
    rw [Ren.QCD (hmet.val y (List.mem_of_getElem? hj) b hb)]; exact hx)
 obtain ⟨hen,hcall⟩:=hg.fn _ _ _ _ _ hrec I (ρ.by seen) w cvs sm hargs
 refine ⟨hen,Calls.mono hcall fun e w' he=>?_⟩
 obtain ⟨cv,I',ρ',rfl,h1,h2,h3,h4⟩:=he
 rw [List.length_map] at h1 h4
 obtain ⟨c1,c2,c3⟩:=hs.called hmet hin h2 h1 h4
 exact ⟨cv,I',_,rfl,c2,c1,QpT h3 (fun b _ x hx=>c3 b x hx),by simp [Qeu]⟩
theorem QAq (hc:QpU P c){rec:Task→Option Res}(hg:GoodCalls P rec)(hs:Sim I ρ H w){f:FuncId}{args:List AV}{cvs:Array Value}{v:AV}{H':Heap}(ha:QfI I ρ args cvs)(h:QjT c rec f args H=some (v,H')):
  Enters P f∧QCM P f cvs v H' I ρ H w:=by
 unfold QjT at h
 have hp:=hc.prim f
 split at h
 ·rename_i e he
  rw [he] at hp
  exact ⟨hp.1,hp.2 I ρ H w args cvs v H' hs ha h⟩
 ·rename_i p he
  rw [he] at hp
  refine ⟨hp.1,?_⟩
  unfold Qjh at h
  split at h
  ·cases h
  ·rename_i fs hm
   split at h
   ·cases h
   ·rename_i v' hv
    split at h
    ·rename_i hfl
     simp at h
     obtain ⟨rfl,rfl⟩:=h
     exact Qjm hs hm ha (fun J hJ hfs=>hp.2 J w fs cvs _ hJ hfs hv) (.inl ⟨hfl,rfl⟩)
    ·split at h
     ·rename_i H1 hsh
      simp at h
      obtain ⟨rfl,rfl⟩:=h
      exact Qjm hs hm ha (fun J hJ hfs=>hp.2 J w fs cvs _ hJ hfs hv) (.inr hsh)
     ·cases h
 ·split at h
  ·exact QyO hg hs ha h
  ·unfold Qhv at h
   split at h
   ·cases h
   ·rename_i fs hm
    split at h
    case h_2=>cases h
    rename_i v' H2 hrec
    have hen:Enters P f:=(hg.pfn _ _ _ _ hrec _ w cvs (Imm.Qlp hs.imm _) (Ql7 hs hm ha (Imm.QuA hs.imm _) (QiA (I:=I) (w:=w) H ρ (args.flatMap (frozenIn 12))))).1
    split at h
    ·rename_i hfl
     simp at h
     obtain ⟨rfl,rfl⟩:=h
     exact ⟨hen,Qjm hs hm ha (fun J hJ hfs=>(hg.pfn _ _ _ _ hrec J w cvs hJ hfs).2) (.inl ⟨hfl,rfl⟩)⟩
    ·split at h
     ·rename_i H1 hsh
      simp at h
      obtain ⟨rfl,rfl⟩:=h
      exact ⟨hen,Qjm hs hm ha (fun J hJ hfs=>(hg.pfn _ _ _ _ hrec J w cvs hJ hfs).2) (.inr hsh)⟩
     ·cases h
theorem QEx (hc:QpU P c){rec:Task→Option Res}(hg:GoodCalls P rec)(hs:Sim I ρ H w){fr:Fr}{a:Act}{n:Nat}(hf:QcO I ρ fr a.tmps n){o:Oper}{v:AV}{H':Heap}(h:evOp c rec o fr H=some (v,H'))
  {K:Act→World→Prop} {Q:Exit→Act→World→Prop}
  (hK:∀ cv w' I' ρ',Ext H.length I ρ H w I' ρ' H' w'→Sim I' ρ' H' w'→VRel I' ρ' v cv→H.length≤H'.length→K (a.put o.dst cv) w'):o.wp P a w K Q:=by
 by_cases hcall:∀ cl,o.op=.call cl→∃ b,cl.callee=.builtin b
 ·obtain ⟨cv,w',I',ρ',h1,h2,h3,h4,h5⟩:=QCL hc.toTysOk rec hs hf h hcall
  unfold Oper.wp
  rcases h1 with h1 |⟨h1,rfl⟩
  ·rw [h1]; exact hK cv w' I' ρ' h2 h3 h4 h5
  ·rw [h1]; exact hK _ w' I' ρ' h2 h3 h4 h5
 ·have hex:∃ cl,o.op=.call cl∧∀ b,cl.callee≠.builtin b:=by
   apply Classical.byContradiction
   intro hn
   apply hcall
   intro cl hcl
   apply Classical.byContradiction
   intro hb
   exact hn ⟨cl,hcl,fun b hbb=>hb ⟨b,hbb⟩⟩
  obtain ⟨cl,hop,hnb⟩:=hex
  unfold evOp at h
  simp only [hop] at h
  unfold Qjj at h
  cases hcal:cl.callee with
  | builtin b=>exact absurd hcal (hnb b)
  | invoke=>simp [hcal] at h
  | value fo=>
   simp only [hcal] at h
   unfold Qz2 at h
   have hfo:=QaL hf fo
   split at h
   case h_2=>cases h
   rename_i g caps heq
   rw [heq] at hfo
   have hargs:=QfI.of_map hf cl.args
   generalize hfv:a.eval fo=fv at hfo
   cases hfo with
   | fn _ _ _ vs hl hv=>
    obtain ⟨⟨F,e1,e2,e3⟩,hcalls⟩:=QAq hc hg hs (hargs.append ⟨hl,hv⟩) h
    have hrun:(execOp a.eval o).run P w=.ok (.enter g (cl.args.map a.eval++vs)) w:=by
     unfold execOp
     simp only [hop]
     unfold resolve
     simp only [hcal,hfv,Deferred.ofValue,Sem.run_bind,Sem.run_pure,Result.andThen_ok,invoke,callFunc,run_program,e1,Array.empty_append]
     have e2':(F.name== "runtime.NumGoroutine")=false:=by simpa using e2
     have e3':F.body.isNone=false:=by cases hb:F.body<;>simp_all
     simp [e2',e3']
    unfold Oper.wp
    rw [hrun]
    show Calls P g _ w _
    refine Calls.mono hcalls fun e w' he=>?_
    obtain ⟨cv,I',ρ',rfl,h1,h2,h3,h4⟩:=he
    exact hK cv w' I' ρ' h1 h2 h3 h4
end
end Go.Ev
namespace Go.Ev
open Go.RowKit
mutual
theorem AV.QuF:∀ (a b:AV),AV.beq a b=true→a=b
 | .undef,b,h=>by cases b<;>simp [AV.beq] at h; rfl
 | .bool x,b,h=>by cases b<;>simp [AV.beq] at h; rw [h]
 | .int k n,b,h=>by cases b<;>simp [AV.beq] at h; rw [h.1,h.2]
 | .str s,b,h=>by cases b<;>simp [AV.beq] at h; rw [h]
 | .nilp,b,h=>by cases b<;>simp [AV.beq] at h; rfl
 | .ptr x y z,b,h=>by cases b<;>simp [AV.beq] at h; rw [h.1,h.2.1,h.2.2]
 | .iptr l,b,h=>by
  cases b<;>simp [AV.beq] at h
  rw [AV.Qcu _ _ h]
 | .nils,b,h=>by cases b<;>simp [AV.beq] at h; rfl
 | .emp,b,h=>by cases b<;>simp [AV.beq] at h; rfl
 | .lst l,b,h=>by
  cases b<;>simp [AV.beq] at h
  rw [AV.Qjn _ _ h]
 | .sl x y z,b,h=>by cases b<;>simp [AV.beq] at h; rw [h.1,h.2.1,h.2.2]
 | .nilm,b,h=>by cases b<;>simp [AV.beq] at h; rfl
 | .map x,b,h=>by cases b<;>simp [AV.beq] at h; rw [h]
 | .nilf,b,h=>by cases b<;>simp [AV.beq] at h; rfl
 | .fn f l,b,h=>by
  cases b<;>simp [AV.beq] at h
  rw [h.1,AV.Qcu _ _ h.2]
 | .nili,b,h=>by cases b<;>simp [AV.beq] at h; rfl
 | .iface t v,b,h=>by
  cases b<;>simp [AV.beq] at h
  rw [h.1,AV.QuF _ _ h.2]
 | .agg l,b,h=>by
  cases b<;>simp [AV.beq] at h
  rw [AV.Qcu _ _ h]
 | .tup l,b,h=>by
  cases b<;>simp [AV.beq] at h
  rw [AV.Qcu _ _ h]
theorem AV.Qcu:∀ (a b:List AV),AV.beqL a b=true→a=b
 | [],b,h=>by cases b<;>simp [AV.beqL] at h; rfl
 | x::l,b,h=>by
  cases b<;>simp [AV.beqL] at h
  rw [AV.QuF _ _ h.1,AV.Qcu _ _ h.2]
theorem AV.Qjn:∀ (a b:List (List AV)),AV.QsX a b=true→a=b
 | [],b,h=>by cases b<;>simp [AV.QsX] at h; rfl
 | x::l,b,h=>by
  cases b<;>simp [AV.QsX] at h
  rw [AV.Qcu _ _ h.1,AV.Qjn _ _ h.2]
end
theorem Qtd {a b:Blk}(h:QkC a b=true):a=b:=by
 cases a<;>cases b<;>simp [QkC] at h
 ·rw [h.1.1,h.1.2,AV.Qjn _ _ h.2]
 ·rw [h.1,AV.Qjn _ _ h.2]
 ·rename_i x y
  have h1:=AV.Qcu _ _ h.1
  have h2:=AV.Qcu _ _ h.2
  congr 1
  have:∀ (x y:List (AV×AV)),x.map (·.1)=y.map (·.1)→x.map (·.2)=y.map (·.2)→x=y:=by
   intro x
   induction x with
   | nil=>intro y h1 _; cases y<;>simp at h1; rfl
   | cons a x ih=>
    intro y h1 h2
    cases y with
    | nil=>simp at h1
    | cons b y=>
     simp at h1 h2
     rw [ih y h1.2 h2.2,show a=b from Prod.ext h1.1 h2.1]
  exact this x y h1 h2
 ·rfl
theorem QlS:∀ {a b:List Blk},Qhw a b=true→a=b
 | [],[],_=>rfl
 | [],_::_,h=>by simp [Qhw] at h
 | _::_,[],h=>by simp [Qhw] at h
 | x::a,y::b,h=>by
  simp [Qhw] at h
  rw [Qtd h.1,QlS h.2]
theorem QlT:∀ {a b:List Nat},Qhx a b=true→a=b
 | [],[],_=>rfl
 | [],_::_,h=>by simp [Qhx] at h
 | _::_,[],h=>by simp [Qhx] at h
 | x::a,y::b,h=>by
  simp [Qhx] at h
  rw [h.1,QlT h.2]
theorem QuG {a b:St}(h:QoE a b=true):a=b:=by
 unfold QoE at h
 rw [Bool.and_eq_true,Bool.and_eq_true] at h
 obtain ⟨⟨h1,h2⟩,h3⟩:=h
 have h1:=AV.Qcu _ _ h1
 have h2:=QlT h2
 have h3:=QlS h3
 cases a with |mk fa Ha=>cases b with |mk fb Hb=>
 simp only at h1 h2 h3
 have:∀ (x y:List (Nat×AV)),x.map (·.1)=y.map (·.1)→x.map (·.2)=y.map (·.2)→x=y:=by
  intro x
  induction x with
  | nil=>intro y h1 _; cases y<;>simp at h1; rfl
  | cons a x ih=>
   intro y h1 h2
   cases y with
   | nil=>simp at h1
   | cons b y=>
    simp at h1 h2
    rw [ih y h1.2 h2.2,show a=b from Prod.ext h1.1 h2.1]
 rw [this fa fb h2 h1,h3]
structure Like (fr fr':Fr):Prop where
 get:∀ t,fr.get t=fr'.get t
 left:Srt fr
 right:Srt fr'
theorem Fr.QkL (fr:Fr)(dst:Option Tmp)(v:AV)(t:Nat):(fr.put dst v).get t=if dst=some t then v else fr.get t:=by
 cases dst with
 | none=>simp [Fr.put]
 | some d=>
  simp only [Fr.put,Fr.Qz4]
  by_cases h:t=d
  ·simp [h]
  ·rw [if_neg h,if_neg (by simp; exact fun e=>h e.symm)]
theorem Like.put {fr fr':Fr}(h:Like fr fr')(dst:Option Tmp)(v:AV):Like (fr.put dst v) (fr'.put dst v):=
 ⟨fun t=>by rw [Fr.QkL,Fr.QkL,h.get],h.left.put dst v,h.right.put dst v⟩
theorem Like.comm {fr:Fr}(h:Srt fr){x y:Option Tmp}(hne:∀ d,x=some d→y≠some d)(u v:AV):Like ((fr.put x u).put y v) ((fr.put y v).put x u):=by
 refine ⟨fun t=>?_,(h.put _ _).put _ _,(h.put _ _).put _ _⟩
 rw [Fr.QkL,Fr.QkL,Fr.QkL,Fr.QkL]
 by_cases h1:y=some t
 ·rw [if_pos h1,if_neg (fun hx=>hne t hx h1),if_pos h1]
 ·rw [if_neg h1,if_neg h1]
theorem Like.refl {fr:Fr}(h:Srt fr):Like fr fr:=⟨fun _=>rfl,h,h⟩
section
variable (c:Ctx) (rec:Task→Option Res)
theorem QyP (o:Oper){fr fr':Fr}(H:Heap)(h:∀ x∈o.op.operands,opv fr x=opv fr' x):evOp c rec o fr H=evOp c rec o fr' H:=by
 obtain ⟨dst,op,type,pos,after,guard⟩:=o
 have pairs:∀ ps:Array (Nat×Operand),(∀ x∈ps.map (·.2),opv fr x=opv fr' x)→(ps.toList.map fun p=>(p.1,opv fr p.2))=(ps.toList.map fun p=>(p.1,opv fr' p.2)):=fun ps hp=>
  List.map_congr_left fun p hm=>by rw [hp p.2 (Array.mem_map.2 ⟨p,by simpa using hm,rfl⟩)]
 have lists:∀ ps:Array Operand,(∀ x∈ps,opv fr x=opv fr' x)→ps.toList.map (opv fr)=ps.toList.map (opv fr'):=fun ps hp=>List.map_congr_left fun p hm=>hp p (by simpa using hm)
 cases op<;>simp only [Op.operands] at h<;>simp only [evOp]
 case build t ps=>rw [pairs ps fun x hx=>h x (by simpa using hx)]
 case buildSlice t n ps=>rw [pairs ps fun x hx=>h x (by simpa using hx)]
 case makeFunc fn first captured=>rw [lists captured fun x hx=>h x (by simp [hx])]
 case call cl=>
  have ha:=lists cl.args fun x hx=>h x (by simp [Call.operands,hx])
  unfold Qjj
  rw [ha]
  cases hc:cl.callee with
  | value f=>have hf:opv fr f=opv fr' f:=h f (by simp [Call.operands,hc]); simp only [hf]
  | _=>rfl
 case makeMap t r=>cases r<;>simp_all
 case slice t x lo hi mx=>cases lo<;>cases hi<;>cases mx<;>simp_all
 case pick p x y=>rw [h p (by simp),h x (by simp),h y (by simp)]
 case store t x y=>rw [h x (by simp),h y (by simp)]
 case binOp op t x y yt=>rw [h x (by simp),h y (by simp)]
 case makeSlice t x y=>rw [h x (by simp),h y (by simp)]
 case indexAddr t x y=>rw [h x (by simp),h y (by simp)]
 case index t x y=>rw [h x (by simp),h y (by simp)]
 case lookup t x y ok=>rw [h x (by simp),h y (by simp)]
 case mapUpdate t m k x=>rw [h m (by simp),h k (by simp),h x (by simp)]
 case insert t m k x=>rw [h m (by simp),h k (by simp),h x (by simp)]
 all_goals first |rfl |(rename_i x; rw [h x (by simp)]) |(rename_i x _; rw [h x (by simp)]) |(rename_i _ x; rw [h x (by simp)]) |(simp_all; done)
def Outc (n:Nat)(ops:Array Oper)(o:Oper)(fr:Fr)(H:Heap)(v:AV)(H':Heap):Prop:=
 QrD n o.dst=true∧((Qa4 ops o fr=some false∧v=.tup []∧H'=H)∨(Qa4 ops o fr=some true∧evOp c rec o fr H=some (v,H')))
theorem QnK {n:Nat}{ops:Array Oper}{o:Oper}{st st':St}:Qce c rec n ops o st=some st'↔∃ v H',Outc c rec n ops o st.fr st.H v H'∧st'=⟨st.fr.put o.dst v,H'⟩:=by
 unfold Qce Outc evDo
 cases hd:QrD n o.dst with
 | false=>simp
 | true=>
  simp only
  cases hw:Qa4 ops o st.fr with
  | none=>simp
  | some b=>
   cases b with
   | false=>
    simp only
    constructor
    ·intro h; simp at h; exact ⟨_,_,⟨by trivial,.inl ⟨by trivial,rfl,rfl⟩⟩,h.symm⟩
    ·rintro ⟨v,H',⟨_,⟨_,rfl,rfl⟩ |⟨h,_⟩⟩,rfl⟩
     ·rfl
     ·cases h
   | true=>
    simp only
    cases he:evOp c rec o st.fr st.H with
    | none=>simp
    | some r=>
     obtain ⟨v,H'⟩:=r
     simp only [QsY,Fr.Qv3,osi]
     constructor
     ·rintro rfl; exact ⟨v,H',⟨by trivial,.inr ⟨by trivial,rfl⟩⟩,rfl⟩
     ·rintro ⟨v',H1,⟨_,⟨h,_⟩ |⟨_,h⟩⟩,rfl⟩
      ·cases h
      ·cases h; rfl
theorem QCN {o:Oper}{ops:Array Oper}{fr fr':Fr}(h:∀ t∈o.looksAt ops,fr.get t=fr'.get t):∀ x∈o.op.operands,opv fr x=opv fr' x:=fun x hx=>by
 cases x with
 | tmp t=>
  refine h t ?_
  unfold Oper.looksAt
  refine List.mem_append.2 (.inl (List.mem_filterMap.2 ⟨.tmp t,by simpa using hx,rfl⟩))
 | _=>rfl
theorem QuH {o:Oper}{ops:Array Oper}{fr fr':Fr}(h:∀ t∈o.looksAt ops,fr.get t=fr'.get t):Qa4 ops o fr=Qa4 ops o fr':=by
 unfold Qa4
 cases hg:o.guard with
 | none=>rfl
 | some p=>
  obtain ⟨j,b⟩:=p
  simp only
  cases hd:(ops[j]?).bind (·.dst) with
  | none=>rfl
  | some d=>
   have:fr.get d=fr'.get d:=h d (by
    unfold Oper.looksAt
    exact List.mem_append.2 (.inr (by simp [hg,hd])))
   simp only [this]
theorem Outc.congr {n:Nat}{ops:Array Oper}{o:Oper}{fr fr':Fr}{H H':Heap}{v:AV}(h:Outc c rec n ops o fr H v H')(hl:∀ t∈o.looksAt ops,fr.get t=fr'.get t):Outc c rec n ops o fr' H v H':=by
 unfold Outc at *
 rw [← QuH hl,← QyP c rec o H (QCN hl)]
 exact h
abbrev Pend:=List (Nat×(Heap→Prop))
def QEy (p:Pend)(H:Heap):Prop:=∀ q∈p,q.2 H
def stay (bf:Array Nat)(i:Nat)(p:Pend):Pend:=p.filter fun q=>!(bf.getD i 0).testBit q.1
def AnyA (n:Nat)(ops:Array Oper)(bf:Array Nat)(Q:Fr→Heap→Prop):Nat→Array Bool→Pend→Fr→Heap→Prop
 | 0,listed,_,fr,H=>Region.ready .any ops listed=[]∧Q fr H
 | k+1,listed,p,fr,H=>(Region.ready .any ops listed=[]→Q fr H)∧
  ∀ i∈Region.ready .any ops listed,∃ o v H',ops[i]?=some o∧Outc c rec n ops o fr H v H'∧QEy (stay bf i p) H'∧AnyA n ops bf Q k (listed.setIfInBounds i true) (stay bf i p) (fr.put o.dst v) H'
variable {n:Nat} {ops:Array Oper} {bf:Array Nat} {Q:Fr→Heap→Prop}
theorem AnyA.like (hQ:∀ fr fr' H,Like fr fr'→Q fr H→Q fr' H):∀ (k:Nat) (listed:Array Bool) (p:Pend) (fr fr':Fr) (H:Heap),Like fr fr'→AnyA c rec n ops bf Q k listed p fr H→AnyA c rec n ops bf Q k listed p fr' H
 | 0,listed,p,fr,fr',H,hl,h=>⟨h.1,hQ _ _ _ hl h.2⟩
 | k+1,listed,p,fr,fr',H,hl,h=>⟨fun h0=>hQ _ _ _ hl (h.1 h0),fun i hi=>by
    obtain ⟨o,v,H',h1,h2,h3,h4⟩:=h.2 i hi
    exact ⟨o,v,H',h1,h2.congr c rec (fun t _=>hl.get t),h3,AnyA.like hQ k _ _ _ _ _ (hl.put _ _) h4⟩⟩
theorem AnyA.QFP:∀ (k:Nat) (listed:Array Bool) (p p':Pend) (fr:Fr) (H:Heap),(∀ q∈p',q∈p)→AnyA c rec n ops bf Q k listed p fr H→AnyA c rec n ops bf Q k listed p' fr H
 | 0,listed,p,p',fr,H,hp,h=>h
 | k+1,listed,p,p',fr,H,hp,h=>⟨h.1,fun i hi=>by
    obtain ⟨o,v,H',h1,h2,h3,h4⟩:=h.2 i hi
    have hs:∀ q∈stay bf i p',q∈stay bf i p:=fun q hq=>by
     obtain ⟨a,b⟩:=List.mem_filter.1 hq
     exact List.mem_filter.2 ⟨hp q a,b⟩
    exact ⟨o,v,H',h1,h2,fun q hq=>h3 q (hs q hq),AnyA.QFP k _ _ _ _ _ hs h4⟩⟩
theorem AnyA.to {Q':Fr→Heap→Prop}(hQ:∀ fr H,Q fr H→Q' fr H):∀ (k:Nat) (listed:Array Bool) (p:Pend) (fr:Fr) (H:Heap),AnyA c rec n ops bf Q k listed p fr H→AnyA c rec n ops bf Q' k listed p fr H
 | 0,listed,p,fr,H,h=>⟨h.1,hQ _ _ h.2⟩
 | k+1,listed,p,fr,H,h=>⟨fun h0=>hQ _ _ (h.1 h0),fun i hi=>by
    obtain ⟨o,v,H',h1,h2,h3,h4⟩:=h.2 i hi
    exact ⟨o,v,H',h1,h2,h3,AnyA.to hQ k _ _ _ _ h4⟩⟩
theorem AnyA.done {listed:Array Bool}{p:Pend}{fr:Fr}{H:Heap}(hr:Region.ready .any ops listed=[])(h:Q fr H):∀ k,AnyA c rec n ops bf Q k listed p fr H
 | 0=>⟨hr,h⟩
 | _+1=>⟨fun _=>h,fun i hi=>by rw [hr] at hi; cases hi⟩
def Qp5 (ops:Array Oper)(listed:Array Bool):Prop:=∀ (j:Nat) (o:Oper),ops[j]?=some o→listed.getD j false=true→∀ e∈o.after,Region.binds .any e=true→listed.getD e.on false=true
theorem Qp6 (ops:Array Oper):(Region.before ops).size=ops.size∧∀ (j i:Nat),((Region.before ops).getD j 0).testBit i=true→∃ o,ops[j]?=some o∧∃ e∈o.after,Region.binds .any e=true∧(e.on=i∨(e.on<j∧((Region.before ops).getD e.on 0).testBit i=true)):=by
 have inner:∀ (acc:Array Nat) (es:List Edge) (s i:Nat),(es.foldl (fun s e=>if Region.binds .any e then s |||2 ^ e.on |||acc.getD e.on 0 else s) s).testBit i=true→
   s.testBit i=true∨∃ e∈es,Region.binds .any e=true∧(e.on=i∨(acc.getD e.on 0).testBit i=true):=by
  intro acc es
  induction es with
  | nil=>exact fun s i h=>.inl h
  | cons e es ih=>
   intro s i h
   rw [List.foldl_cons] at h
   rcases ih _ i h with h1 |⟨e',h1,h2⟩
   ·split at h1
    ·rename_i hb
     rw [Nat.testBit_or,Nat.testBit_or,Bool.or_eq_true,Bool.or_eq_true] at h1
     rcases h1 with (h1 |h1) |h1
     ·exact .inl h1
     ·rw [Nat.testBit_two_pow] at h1
      exact .inr ⟨e,by simp,hb,.inl (by simpa using h1)⟩
     ·exact .inr ⟨e,by simp,hb,.inr h1⟩
    ·exact .inl h1
   ·exact .inr ⟨e',by simp [h1],h2⟩
 have outer:∀ (l done:List Oper) (acc:Array Nat),acc.size=done.length→
   (∀ (j i:Nat),(acc.getD j 0).testBit i=true→∃ o,done[j]?=some o∧∃ e∈o.after,Region.binds .any e=true∧(e.on=i∨(e.on<j∧(acc.getD e.on 0).testBit i=true)))→
   ∃ acc',l.foldl (fun acc o=>acc.push (o.after.foldl (fun s e=>if Region.binds .any e then s |||2 ^ e.on |||acc.getD e.on 0 else s) 0)) acc=acc'∧acc'.size=(done++l).length∧
   ∀ (j i:Nat),(acc'.getD j 0).testBit i=true→∃ o,(done++l)[j]?=some o∧∃ e∈o.after,Region.binds .any e=true∧(e.on=i∨(e.on<j∧(acc'.getD e.on 0).testBit i=true)):=by
  intro l
  induction l with
  | nil=>exact fun done acc h1 h2=>⟨acc,rfl,by simpa using h1,by simpa using h2⟩
  | cons o l ih=>
   intro done acc h1 h2
   rw [List.foldl_cons]
   have hpush:∀ (x:Nat) (k:Nat),k<acc.size→(acc.push x).getD k 0=acc.getD k 0:=fun x k hk=>by
    simp [Array.getD_eq_getD_getElem?,Array.getElem?_push,Nat.ne_of_lt hk]
   have:=ih (done++[o]) (acc.push (o.after.foldl (fun s e=>if Region.binds .any e then s |||2 ^ e.on |||acc.getD e.on 0 else s) 0)) (by simp [h1]) (fun j i hb=>by
    rcases Nat.lt_trichotomy j acc.size with hj |hj |hj
    ·rw [hpush _ j hj] at hb
     obtain ⟨o',e1,e,e2,e3,e4⟩:=h2 j i hb
     refine ⟨o',by rw [List.getElem?_append_left (by omega)]; exact e1,e,e2,e3,?_⟩
     rcases e4 with e4 |⟨e4,e5⟩
     ·exact .inl e4
     ·exact .inr ⟨e4,by rw [hpush _ _ (by omega)]; exact e5⟩
    ·subst hj
     have hg:(acc.push (o.after.foldl (fun s e=>if Region.binds .any e then s |||2 ^ e.on |||acc.getD e.on 0 else s) 0)).getD acc.size 0=o.after.foldl (fun s e=>if Region.binds .any e then s |||2 ^ e.on |||acc.getD e.on 0 else s) 0:=by
      simp [Array.getD_eq_getD_getElem?]
     rw [hg,← Array.foldl_toList] at hb
     refine ⟨o,by rw [h1]; simp,?_⟩
     rcases inner acc o.after.toList 0 i hb with h0 |⟨e,e1,e2,e3⟩
     ·simp at h0
     ·refine ⟨e,by simpa using e1,e2,?_⟩
      rcases e3 with e3 |e3
      ·exact .inl e3
      ·have hlt:e.on<acc.size:=by
        rcases Nat.lt_or_ge e.on acc.size with h |h
        ·exact h
        ·simp [Array.getD_eq_getD_getElem?,Array.getElem?_eq_none h] at e3
       exact .inr ⟨hlt,by rw [hpush _ _ hlt]; exact e3⟩
    ·exfalso
     have:(acc.push (o.after.foldl (fun s e=>if Region.binds .any e then s |||2 ^ e.on |||acc.getD e.on 0 else s) 0))[j]?=none:=Array.getElem?_eq_none (by simp; omega)
     rw [Array.getD_eq_getD_getElem?,this] at hb
     simp at hb)
   obtain ⟨acc',a1,a2,a3⟩:=this
   exact ⟨acc',a1,by simpa using a2,by simpa using a3⟩
 obtain ⟨acc',a1,a2,a3⟩:=outer ops.toList [] #[] rfl (fun j i h=>by simp [Array.getD_eq_getD_getElem?] at h)
 have e:Region.before ops=acc':=by unfold Region.before; rw [← Array.foldl_toList]; exact a1
 rw [e]
 refine ⟨by simpa using a2,fun j i h=>?_⟩
 obtain ⟨o,h1,h2⟩:=a3 j i h
 exact ⟨o,by simpa using h1,h2⟩
theorem QmM {listed:Array Bool}(hcl:Qp5 ops listed):∀ (N j:Nat),j<N→∀ i,((Region.before ops).getD j 0).testBit i=true→listed.getD j false=true→listed.getD i false=true
 | 0,j,h,_,_,_=>by omega
 | N+1,j,hj,i,hb,hl=>by
  obtain ⟨o,h1,e,h2,h3,h4⟩:=(Qp6 ops).2 j i hb
  have:=hcl j o h1 hl e h2 h3
  rcases h4 with rfl |⟨h4,h5⟩
  ·exact this
  ·exact QmM hcl N e.on (by omega) i h5 this
theorem Qo8 {listed:Array Bool}(hcl:Qp5 ops listed){j i:Nat}(hj:j∈Region.ready .any ops listed)(hi:listed.getD i false=false):((Region.before ops).getD j 0).testBit i=false:=by
 cases hb:((Region.before ops).getD j 0).testBit i with
 | false=>rfl
 | true=>
  exfalso
  obtain ⟨o,h1,e,h2,h3,h4⟩:=(Qp6 ops).2 j i hb
  obtain ⟨_,o',h5,h6⟩:=mem_ready.1 hj
  rw [h1] at h5
  cases h5
  have:=h6 e h2 h3
  rcases h4 with rfl |⟨h4,h5⟩
  ·rw [this] at hi; cases hi
  ·rw [QmM hcl _ e.on (Nat.lt_succ_self _) i h5 this] at hi; cases hi
theorem Qp7 {listed:Array Bool}{j:Nat}(h:listed.getD j true=false):listed.getD j false=false:=by
 rcases Nat.lt_or_ge j listed.size with h' |h'
 ·simpa [Array.getD,h'] using h
 ·rw [Array.getD_eq_getD_getElem?,Array.getElem?_eq_none h']; rfl
theorem QlU {listed:Array Bool}(i:Nat){j:Nat}(h:listed.getD j false=true):(listed.setIfInBounds i true).getD j false=true:=by
 rw [Array.getD_eq_getD_getElem?,Array.getElem?_setIfInBounds]
 rw [Array.getD_eq_getD_getElem?] at h
 split
 ·split
  ·rfl
  ·rename_i h1 h2; subst h1; rw [Array.getElem?_eq_none (by omega)] at h; cases h
 ·exact h
theorem QnL {listed:Array Bool}(hcl:Qp5 ops listed){i:Nat}(hi:i∈Region.ready .any ops listed):Qp5 ops (listed.setIfInBounds i true):=fun j o ho hl e he hb=>by
 by_cases hj:listed.getD j false=true
 ·exact QlU i (hcl j o ho hj e he hb)
 ·have:j=i:=by
   apply Classical.byContradiction
   intro hne
   apply hj
   rw [Array.getD_eq_getD_getElem?,Array.getElem?_setIfInBounds_ne (fun h=>hne h.symm)] at hl
   rw [Array.getD_eq_getD_getElem?]
   exact hl
  subst this
  obtain ⟨_,o',h5,h6⟩:=mem_ready.1 hi
  rw [ho] at h5
  cases h5
  exact QlU _ (h6 e he hb)
theorem AnyA.first (hbf:bf=Region.before ops)(hQ:∀ fr fr' H,Like fr fr'→Q fr H→Q fr' H){i:Nat}{oi:Oper}{v:AV}{S:Heap→Prop}(hi:ops[i]?=some oi):
  ∀ (k:Nat) (listed:Array Bool) (p:Pend) (fr:Fr) (H:Heap),
    (∀ j oj,ops[j]?=some oj→j≠i→listed.getD j true=false→(∀ e∈oj.after,Region.binds .any e=true→e.on≠i)→oi.apart ops oj=true)→
    i∈Region.ready .any ops listed→(∀ H',S H'→Outc c rec n ops oi fr H' v H')→S H→QEy p H→Srt fr→Qp5 ops listed→
    AnyA c rec n ops bf Q k (listed.setIfInBounds i true) ((i,S)::p) (fr.put oi.dst v) H→AnyA c rec n ops bf Q (k+1) listed p fr H:=by
 intro k
 induction k with
 | zero=>
  intro listed p fr H _ hr hy hS hp hsr _ h
  refine ⟨fun h0=>(by rw [h0] at hr; cases hr),fun j hj=>?_⟩
  by_cases hji:j=i
  ·subst hji
   exact ⟨oi,v,H,hi,hy H hS,fun q hq=>hp q (List.mem_filter.1 hq).1,h⟩
  ·have:=ready_mono hj hji
   rw [h.1] at this
   cases this
 | succ k ih=>
  intro listed p fr H hfree hr hy hS hp hsr hcl h
  refine ⟨fun h0=>(by rw [h0] at hr; cases hr),fun j hj=>?_⟩
  by_cases hji:j=i
  ·subst hji
   exact ⟨oi,v,H,hi,hy H hS,fun q hq=>hp q (List.mem_filter.1 hq).1,AnyA.QFP c rec _ _ _ _ _ _ (fun q hq=>List.mem_cons_of_mem _ (List.mem_filter.1 hq).1) h⟩
  ·obtain ⟨oj,u,H',hoj,h1,h2,h3⟩:=h.2 j (ready_mono hj hji)
   obtain ⟨hjun,oj',hoj',hall⟩:=mem_ready.1 hj
   rw [hoj] at hoj'
   cases hoj'
   have hiun:=(mem_ready.1 hr).1
   have hnot:∀ e∈oj.after,Region.binds .any e=true→e.on≠i:=fun e he hb heq=>by
    have h1:=hall e he hb
    rw [heq,Qp7 hiun] at h1
    cases h1
   have hap:=hfree j oj hoj hji hjun hnot
   obtain ⟨a1,a2,a3⟩:=Oper.apart_spec hap
   have hkeep:∀ t∈oj.looksAt ops,(fr.put oi.dst v).get t=fr.get t:=fun t ht=>by
    rw [Fr.QkL,if_neg (fun e=>a1 t e ht)]
   have hkeep':∀ t∈oi.looksAt ops,fr.get t=(fr.put oj.dst u).get t:=fun t ht=>by
    rw [Fr.QkL,if_neg (fun e=>a3 t e ht)]
   have hbit:((bf.getD j 0).testBit i)=false:=by rw [hbf]; exact Qo8 hcl hj (Qp7 hiun)
   have hst:stay bf j ((i,S)::p)=(i,S)::stay bf j p:=by unfold stay; rw [List.filter_cons_of_pos (by simp only [hbit]; rfl)]
   rw [hst] at h2 h3
   refine ⟨oj,u,H',hoj,h1.congr c rec hkeep,fun q hq=>h2 q (List.mem_cons_of_mem _ hq),?_⟩
   refine ih (listed.setIfInBounds j true) (stay bf j p) (fr.put oj.dst u) H' (fun k ok hk hki hun hno=>?_) (ready_mono hr (Ne.symm hji)) (fun H' hS'=>(hy H' hS').congr c rec hkeep') (h2 (i,S) (by simp)) (fun q hq=>h2 q (List.mem_cons_of_mem _ hq)) (hsr.put _ _) (QnL hcl hj) ?_
   ·refine hfree k ok hk hki ?_ hno
    by_cases hjk:j=k
    ·subst hjk; exact hjun
    ·rw [getD_set_ne true hjk] at hun; exact hun
   ·rw [Array.setIfInBounds_comm _ _ hji]
    exact AnyA.like c rec hQ _ _ _ _ _ _ (Like.comm hsr a2 v u) h3
end
end Go.Ev
namespace Go.Ev
open Go.RowKit
def To (m n:Nat)(st st':St):Prop:=∀ (I:Imm) (ρ:Ren) (w:World) (tmps:Array Value),Sim I ρ st.H w→QcO I ρ st.fr tmps n→m≤st.H.length→
 ∃ I' ρ',Ext m I ρ st.H w I' ρ' st'.H w∧Sim I' ρ' st'.H w∧QcO I' ρ' st'.fr tmps n∧m≤st'.H.length
theorem To.refl (m n:Nat)(st:St):To m n st st:=fun I ρ w tmps hs hf hm=>⟨I,ρ,Ext.refl _ _ _ _ _,hs,hf,hm⟩
theorem To.trans {m n:Nat}{a b c:St}(h:To m n a b)(k:To m n b c):To m n a c:=fun I ρ w tmps hs hf hm=>by
 obtain ⟨I1,ρ1,e1,s1,f1,m1⟩:=h I ρ w tmps hs hf hm
 obtain ⟨I2,ρ2,e2,s2,f2,m2⟩:=k I1 ρ1 w tmps s1 f1 m1
 exact ⟨I2,ρ2,e1.trans e2 (Nat.le_refl _),s2,f2,m2⟩
theorem To.like {m n:Nat}{fr fr':Fr}{H:Heap}{st:St}(h:To m n ⟨fr,H⟩ st)(hl:Like fr fr'):To m n ⟨fr',H⟩ st:=fun I ρ w tmps hs hf hm=>
 h I ρ w tmps hs (QcO.Quy hf.size hl.left fun t=>by rw [hl.get]; exact hf.at_ t) hm
theorem Qp8 {m:Nat}{st:St}{β:Type}{k:St→Option β}{r:β}(h:st.canon m k=some r):∃ c1,(∀ (γ:Type) (k':St→Option γ),st.canon m k'=k' c1)∧(Srt st.fr→Srt c1.fr):=by
 unfold St.canon at h ⊢
 simp only [reach,Qat,Qpk,QeF] at h ⊢
 split at h
 ·cases h
 ·rename_i seen hv
  refine ⟨{ fr:=st.fr.map fun p=>(p.1,ren (fun b=>QaY b seen.reverse 0) p.2),H:=seen.reverse.map fun b=>(Qcr st.H b).rn (fun b=>QaY b seen.reverse 0) },fun γ k'=>rfl,fun hs=>?_⟩
  simp only [Srt] at hs ⊢
  rw [List.pairwise_map]
  exact hs
theorem To.canon {m n:Nat}{st:St}{c1:St}(h:∀ (γ:Type) (k':St→Option γ),st.canon m k'=k' c1)(hsrt:Srt st.fr→Srt c1.fr):To m n st c1:=fun I ρ w tmps hs hf hm=>by
 obtain ⟨st1,ρ1,h1,h2,h3,h4,h5,h6⟩:=QuB (k:=some) (g:=fun t=>tmps.getD t undef) hs (h St some) hm hf.at_ hf.all
 simp at h1
 subst h1
 exact ⟨I,ρ1,h5,h2,QcO.Quy hf.size (hsrt hf.srt) h3,h6⟩
def Qc2 (H H':Heap)(q:Nat×Nat×Option Nat):Prop:=match q.2.2 with
 | some i=>rowAt H' q.2.1 i=rowAt H q.2.1 i
 | none=>QgQ H' q.2.1=QgQ H q.2.1
theorem Qc2.refl (H:Heap)(q:Nat×Nat×Option Nat):Qc2 H H q:=by
 unfold Qc2
 cases q.2.2<;>rfl
theorem Qc2.trans {H H1 H2:Heap}{q:Nat×Nat×Option Nat}(h:Qc2 H H1 q)(k:Qc2 H1 H2 q):Qc2 H H2 q:=by
 unfold Qc2 at *
 cases hq:q.2.2 with
 | some i=>simp only [hq] at *; rw [k,h]
 | none=>simp only [hq] at *; rw [k,h]
theorem Qp9 {H H':Heap}{q:Nat×Nat×Option Nat}(h:QgT H H' q=true):Qc2 H H' q:=by
 unfold QgT at h
 unfold Qc2
 split at h
 ·rename_i i hi
  simp only [hi]
  unfold Qs4 at h
  split at h
  ·rename_i x y h1 h2
   rw [h1,h2,AV.Qcu _ _ h]
  ·cases h
 ·rename_i hi
  simp only [hi]
  split at h
  ·rename_i x y h1 h2
   rw [h1,h2,Nat.eq_of_beq_eq_true h]
  ·cases h
section
variable {c:Ctx} {rec:Task→Option Res}
theorem QyQ (t:TypeId)(H:Heap)(b i o:Nat):Qhu c t H (.ptr b i o)=match rowAt H b i with |some r=>pack (c.ty t) (r.drop o) |none=>none:=by
 unfold Qhu rowAt
 cases hb:H[b]? with
 | none=>simp [hb]
 | some k=>cases k<;>simp [hb]<;>rfl
theorem QuI {H H':Heap}{b z:Nat}(h:QgQ H' b=QgQ H b):QgR H' b z=QgR H b z:=by unfold QgR; rw [h]
theorem QyR {o:Oper}(hq:(Qv5 c o||Qz3 o)=true){k:Nat}{st:St}{v:AV}{H':Heap}(h:evOp c rec o st.fr st.H=some (v,H')):
  H'=st.H∧∀ H1,(∀ q∈QgU k o st,Qc2 st.H H1 q)→evOp c rec o st.fr H1=some (v,H1):=by
 have okv:∀ {x:Option AV} {H:Heap},okV H x=some (v,H')→x=some v∧H'=H:=QfY
 unfold Qv5 Qz3 at hq
 unfold evOp at h ⊢
 unfold QgU
 cases hop:o.op<;>simp only [hop] at hq h ⊢<;>try (simp at hq; done)
 case move x=>simp at h; exact ⟨h.2.symm,fun H1 _=>by rw [h.1]⟩
 case assign x=>simp at h; exact ⟨h.2.symm,fun H1 _=>by rw [h.1]⟩
 case load t x=>
  obtain ⟨h1,h2⟩:=okv h
  refine ⟨h2,fun H1 hr=>?_⟩
  cases hx:opv st.fr x with
  | ptr b i oo=>
   rw [hx] at h1
   simp only [hx] at hr
   rw [QyQ] at h1 ⊢
   have:=hr (k,b,some i) (by simp)
   simp only [Qc2] at this
   rw [this,h1]
   rfl
  | iptr cs=>rw [hx] at h1; simp only [Qhu] at h1 ⊢; rw [h1]; rfl
  | _=>rw [hx] at h1; simp [Qhu] at h1
 case slice t x lo hi mx=>
  obtain ⟨h1,h2⟩:=okv h
  refine ⟨h2,fun H1 hr=>?_⟩
  have e:QnD c t H1 (opv st.fr x) (lo.map (opv st.fr)) (hi.map (opv st.fr)) (mx.map (opv st.fr))=QnD c t st.H (opv st.fr x) (lo.map (opv st.fr)) (hi.map (opv st.fr)) (mx.map (opv st.fr)):=by
   cases hx:opv st.fr x with
   | sl b off len=>
    simp only [hx] at hr
    have:=hr (k,b,none) (by simp)
    simp only [Qc2] at this
    unfold QnD Qet
    simp only [QuI this]
   | _=>rfl
  rw [e,h1]; rfl
 case indexAddr t x ix=>
  obtain ⟨h1,h2⟩:=okv h
  refine ⟨h2,fun H1 hr=>?_⟩
  have e:Qdi c (c.ty t) H1 (opv st.fr x) (opv st.fr ix)=Qdi c (c.ty t) st.H (opv st.fr x) (opv st.fr ix):=by
   cases hx:opv st.fr x with
   | sl b off len=>
    simp only [hx] at hr
    have:=hr (k,b,none) (by simp)
    simp only [Qc2] at this
    unfold Qdi Qji
    simp only [QuI this]
   | _=>rfl
  rw [e,h1]; rfl
 case convert s t x=>
  obtain ⟨h1,h2⟩:=okv h
  exact ⟨h2,fun H1 _=>by rw [h1]; rfl⟩
 case call cl=>
  unfold Qjj at h ⊢
  cases hcal:cl.callee with
  | builtin b=>
   simp only [hcal] at hq h ⊢
   cases b<;>try (exact Bool.noConfusion hq)
   revert h
   generalize cl.args.toList.map (opv st.fr)=vs
   intro h
   cases vs with
   | nil=>simp [QfW] at h
   | cons x r=>cases r with
    | cons y r=>simp [QfW] at h
    | nil=>
     unfold QfW at h ⊢
     dsimp only at h ⊢
     split at h
     ·rename_i hts
      have key:∀ H1,QlR c (c.ty (cl.argTypes.getD 0 0)) H1 x=QlR c (c.ty (cl.argTypes.getD 0 0)) st.H x:=fun H1=>by
       unfold QlR
       cases hd:(c.ty (cl.argTypes.getD 0 0)).d with
       | map k e=>rw [hd] at hq; exact Bool.noConfusion hq
       | str=>cases x<;>rfl
       | slice e=>cases x<;>rfl
       | _=>rfl
      unfold Qux at h
      split at h
      ·rename_i nn hl
       simp at h
       refine ⟨h.2.symm,fun H1 _=>?_⟩
       unfold Qux
       rw [key H1,hl,← h.1]
      ·cases h
     ·cases h
  | _=>simp [hcal] at hq
 all_goals
  obtain ⟨h1,h2⟩:=okv h
  exact ⟨h2,fun H1 _=>by rw [h1]; rfl⟩
def QAr (tk:List Nat)(rd:List (Nat×Nat×Option Nat))(H:Heap)(p:Pend):Prop:=
 ∀ q∈p,q.2 H∧((∀ H',q.2 H')∨(q.1∈tk∧∃ x∈rd,x.1=q.1∧∀ H',Qc2 H H' x→q.2 H'))
def cnt (listed:Array Bool):Nat:=listed.toList.countP (!·)
theorem Qte {listed:Array Bool}{i:Nat}(h:listed.getD i true=false):cnt (listed.setIfInBounds i true)+1=cnt listed:=by
 have hlt:i<listed.size:=by
  rcases Nat.lt_or_ge i listed.size with h' |h'
  ·exact h'
  ·rw [Array.getD_eq_getD_getElem?,Array.getElem?_eq_none h'] at h; cases h
 have hv:listed.toList[i]'(by simpa using hlt)=false:=by
  rw [Array.getD_eq_getD_getElem?,Array.getElem?_eq_getElem hlt] at h
  simpa using h
 unfold cnt
 rw [Array.toList_setIfInBounds,List.countP_set (by simpa using hlt)]
 have hpos:0<listed.toList.countP (!·):=List.countP_pos_iff.2 ⟨false,by rw [← hv]; exact List.getElem_mem _,rfl⟩
 simp only [hv]
 simp only [Bool.not_false,if_true,Bool.not_true,Bool.false_eq_true,if_false]
 omega
theorem QnM {m n:Nat}{ops:Array Oper}{bf:Array Nat}(hbf:bf=Region.before ops)(hsel:Region.noSelect ops=true):∀ (k kk:Nat) (p:Plan) (t:Tra) (st':St) (listed:Array Bool) (tk:List Nat) (pend:Pend) (fuel:Nat),
  QoD c ops bf kk listed tk p=true→Qbj c rec m n ops k p t=some st'→QAr tk t.rd t.st.H pend→Srt t.st.fr→Qp5 ops listed→cnt listed≤fuel→
  AnyA c rec n ops bf (fun fr H=>To m n ⟨fr,H⟩ st') fuel listed pend t.st.fr t.st.H
 | 0,kk,p,t,st',listed,tk,pend,fuel,hp,he,_,_,_,_=>by simp [Qbj] at he
 | k+1,0,p,t,st',listed,tk,pend,fuel,hp,he,_,_,_,_=>by simp [QoD] at hp
 | k+1,kk+1,.done,t,st',listed,tk,pend,fuel,hp,he,hpr,hs,hcl,hcnt=>by
  simp [Qbj] at he
  subst he
  simp [QoD] at hp
  exact AnyA.done c rec hp (To.refl _ _ _) fuel
 | k+1,kk+1,.take i p,t,st',listed,tk,pend,fuel,hp,he,hpr,hs,hcl,hcnt=>by
  simp only [Qbj] at he
  simp only [QoD] at hp
  rw [Bool.and_eq_true,Bool.and_eq_true] at hp
  obtain ⟨⟨hp1,hp2⟩,hp3⟩:=hp
  have hr:i∈Region.ready .any ops listed:=by simpa using hp3
  cases ho:ops[i]? with
  | none=>simp [ho] at he
  | some o=>
   simp only [ho] at hp1 he
   rw [Bool.and_eq_true] at hp1
   cases hw:Qa4 ops o t.st.fr with
   | none=>simp [hw] at he
   | some wd=>
    simp only [hw] at he
    cases hst:Qce c rec n ops o t.st with
    | none=>simp [hst] at he
    | some st1=>
     simp only [hst] at he
     obtain ⟨v,H1,hout,rfl⟩:=(QnK c rec).1 hst
     obtain ⟨S,hS1,hS2,hS3,hH1⟩:∃ (S:Heap→Prop),S t.st.H∧
       (∀ H',S H'→Outc c rec n ops o t.st.fr H' v H')∧
       ((∀ H',S H')∨(wd=true∧QmH o=true∧∃ x∈QgU i o t.st,x.1=i∧∀ H',Qc2 t.st.H H' x→S H'))∧H1=t.st.H:=by
      cases wd with
      | false=>
       refine ⟨fun _=>True,trivial,fun H' _=>?_,.inl fun _=>trivial,?_⟩
       ·obtain ⟨hd,⟨h1,h2,h3⟩ |⟨h1,_⟩⟩:=hout
        ·exact ⟨hd,.inl ⟨h1,h2,rfl⟩⟩
        ·rw [hw] at h1; cases h1
       ·obtain ⟨hd,⟨h1,h2,h3⟩ |⟨h1,_⟩⟩:=hout
        ·exact h3
        ·rw [hw] at h1; cases h1
      | true=>
       obtain ⟨hd,⟨h1,h2,h3⟩ |⟨_,h1⟩⟩:=hout
       ·rw [hw] at h1; cases h1
       obtain ⟨e1,e2⟩:=QyR (k:=i) hp1.1 h1
       refine ⟨fun H'=>∀ q∈QgU i o t.st,Qc2 t.st.H H' q,fun q _=>Qc2.refl _ _,fun H' hH'=>⟨hd,.inr ⟨hw,e2 H' hH'⟩⟩,?_,e1⟩
       have hone:QgU i o t.st=[]∨(QmH o=true∧∃ b r,QgU i o t.st=[(i,b,r)]):=by
        unfold QgU QmH
        cases o.op<;>simp<;>(split<;>simp)
       rcases hone with h0 |⟨h0,b,r,hbr⟩
       ·exact .inl fun H' q hq=>by rw [h0] at hq; cases hq
       ·exact .inr ⟨rfl,h0,(i,b,r),by rw [hbr]; simp,rfl,fun H' hH' q hq=>by
         rw [hbr] at hq
         simp at hq
         subst hq
         exact hH'⟩
     subst hH1
     have hfuel:∃ f,fuel=f+1:=by
      have:=Qte (mem_ready.1 hr).1
      exact ⟨fuel - 1,by omega⟩
     obtain ⟨f,rfl⟩:=hfuel
     have hcnt':cnt (listed.setIfInBounds i true)≤f:=by
      have:=Qte (mem_ready.1 hr).1
      omega
     refine AnyA.first c rec hbf (fun fr fr' H hl h=>h.like hl) ho f listed pend t.st.fr t.st.H (Region.free_spec ho hp2) hr hS2 hS1 (fun q hq=>(hpr q hq).1) hs hcl ?_
     refine QnM hbf hsel k kk p { st:=⟨t.st.fr.put o.dst v,t.st.H⟩,rd:=_ } st' _ (if QmH o then i::tk else tk) ((i,S)::pend) f hp1.2 he ?_ (hs.put _ _) (QnL hcl hr) hcnt'
     intro q hq
     rcases List.mem_cons.1 hq with rfl |hq
     ·refine ⟨hS1,?_⟩
      rcases hS3 with h |⟨h0,h1,x,h2,h3,h4⟩
      ·exact .inl h
      ·subst h0
       exact .inr ⟨by rw [if_pos h1]; simp,x,List.mem_append_left _ h2,h3,h4⟩
     ·obtain ⟨q1,q2⟩:=hpr q hq
      refine ⟨q1,?_⟩
      rcases q2 with h |⟨h1,x,h2,h3,h4⟩
      ·exact .inl h
      ·refine .inr ⟨by split<;>simp [h1],x,?_,h3,h4⟩
       cases wd
       ·exact h2
       ·exact List.mem_append_right _ h2
 | k+1,kk+1,.fork l,t,st',listed,tk,pend,fuel,hp,he,hpr,hs,hcl,hcnt=>by
  simp only [QoD] at hp
  rw [Bool.and_eq_true,Bool.and_eq_true] at hp
  obtain ⟨⟨hp1,hp2⟩,hp3⟩:=hp
  have hready:Region.ready .any ops listed=l.map (·.1):=by simpa using hp2
  have hall:=List.all_eq_true.1 hp3
  have branch:∀ q∈l,∀ (u:Tra) (st1:St) (f:Nat),Qa5 c rec n ops q.1 q.2.1 t=some u→Qbj c rec m n ops k q.2.2 u=some st1→cnt (listed.setIfInBounds q.1 true)≤f→
    ∃ o v H',ops[q.1]?=some o∧Outc c rec n ops o t.st.fr t.st.H v H'∧QEy (stay bf q.1 pend) H'∧
      AnyA c rec n ops bf (fun fr H=>To m n ⟨fr,H⟩ st1) f (listed.setIfInBounds q.1 true) (stay bf q.1 pend) (t.st.fr.put o.dst v) H':=by
   intro q hq u st1 f hfk hev hcnt'
   have hr:q.1∈Region.ready .any ops listed:=by rw [hready]; exact List.mem_map_of_mem hq
   have hok:=hall q hq
   rw [Bool.and_eq_true] at hok
   unfold Qa5 at hfk
   cases ho:ops[q.1]? with
   | none=>simp [ho] at hfk
   | some o=>
    simp only [ho] at hfk
    cases hst:Qce c rec n ops o t.st with
    | none=>simp [hst] at hfk
    | some s1=>
     simp only [hst] at hfk
     split at hfk
     ·rename_i hsame
      simp only [osi] at hfk
      subst hfk
      obtain ⟨v,H',hout,rfl⟩:=(QnK c rec).1 hst
      have hpend:QAr (tk.filter q.2.1.contains) (t.rd.filter fun x=>q.2.1.contains x.1) H' (stay bf q.1 pend):=by
       intro x hx
       obtain ⟨x1,x2⟩:=List.mem_filter.1 hx
       obtain ⟨y1,y2⟩:=hpr x x1
       rcases y2 with h |⟨h1,z,h2,h3,h4⟩
       ·exact ⟨h H',.inl h⟩
       ·have hcon:q.2.1.contains x.1=true:=by
         have:=List.all_eq_true.1 hok.1 x.1 h1
         rw [Bool.or_eq_true] at this
         rcases this with h |h
         ·exact h
         ·rw [h] at x2; cases x2
        have hz:z∈t.rd.filter fun x=>q.2.1.contains x.1:=List.mem_filter.2 ⟨h2,by rw [h3]; exact hcon⟩
        have hae:=Qp9 (List.all_eq_true.1 hsame z hz)
        exact ⟨h4 H' hae,.inr ⟨List.mem_filter.2 ⟨h1,hcon⟩,z,hz,h3,fun H2 h=>h4 H2 (hae.trans h)⟩⟩
      exact ⟨o,v,H',rfl,hout,fun x hx=>(hpend x hx).1,QnM hbf hsel k kk q.2.2 _ st1 _ _ _ f hok.2 hev hpend (hs.put _ _) (QnL hcl hr) hcnt'⟩
     ·cases hfk
  cases l with
  | nil=>simp at hp1
  | cons q r=>
   obtain ⟨i,wl,p⟩:=q
   have hr:i∈Region.ready .any ops listed:=by rw [hready]; simp
   have hfuel:∃ f,fuel=f+1:=by
    have:=Qte (mem_ready.1 hr).1
    exact ⟨fuel - 1,by omega⟩
   obtain ⟨f,rfl⟩:=hfuel
   have hcnt':∀ j∈Region.ready .any ops listed,cnt (listed.setIfInBounds j true)≤f:=fun j hj=>by
    have:=Qte (mem_ready.1 hj).1
    omega
   have hne:Region.ready .any ops listed≠[]:=fun e=>by rw [e] at hr; cases hr
   cases r with
   | nil=>
    simp only [Qbj] at he
    split at he
    ·cases he
    ·rename_i u hfk
     refine ⟨fun h0=>absurd h0 hne,fun j hj=>?_⟩
     rw [hready] at hj
     simp at hj
     subst hj
     exact branch (j,wl,p) (by simp) u st' f hfk he (hcnt' _ hr)
   | cons q2 r=>
    simp only [Qbj] at he
    split at he
    ·cases he
    rename_i t0 hf0
    split at he
    ·cases he
    rename_i t1 hp1'
    obtain ⟨c1,hc1,hsc1⟩:=Qp8 he
    rw [hc1] at he
    split at he
    case h_2=>cases he
    rename_i hall2
    simp only [osi] at he
    subst he
    refine ⟨fun h0=>absurd h0 hne,fun j hj=>?_⟩
    have hj':=hj
    rw [hready] at hj'
    obtain ⟨q,hq,rfl⟩:=List.mem_map.1 hj'
    rcases List.mem_cons.1 hq with rfl |hq'
    ·obtain ⟨o,v,H',h1,h2,h3,h4⟩:=branch (i,wl,p) (by simp) t0 t1 f hf0 hp1' (hcnt' _ hj)
     exact ⟨o,v,H',h1,h2,h3,AnyA.to c rec (fun fr H h=>h.trans (To.canon hc1 hsc1)) _ _ _ _ _ h4⟩
    ·have hb:=List.all_eq_true.1 hall2 q hq'
     split at hb
     ·cases hb
     rename_i u hfk
     split at hb
     ·cases hb
     rename_i t2 hp2'
     split at hb
     case h_2=>cases hb
     rename_i hcan
     obtain ⟨c2,hc2,hsc2⟩:=Qp8 hcan
     rw [hc2] at hcan
     simp only [osi] at hcan
     have e:=QuG hcan
     subst e
     obtain ⟨o,v,H',h1,h2,h3,h4⟩:=branch q hq u t2 f hfk hp2' (hcnt' _ hj)
     exact ⟨o,v,H',h1,h2,h3,AnyA.to c rec (fun fr H h=>h.trans (To.canon hc2 hsc2)) _ _ _ _ _ h4⟩
end
end Go.Ev
