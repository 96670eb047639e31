/- The limit of the evaluator: what it answers with whatever fuel. -/
import Derived.Test.YtkecfadnfnnfaaaGreatDoorEvK
set_option linter.unusedVariables false
set_option linter.unusedSimpArgs false
noncomputable section
namespace Go.Ev
def Ev (c:Ctx)(t:Task)(r:Res):Prop:=∃ K,∀ k,K≤k→run c k t=some r
open Classical in
def R (c:Ctx)(t:Task):Option Res:=if h:∃ r,Ev c t r then some (Classical.choose h) else none
theorem R_ev {c:Ctx}{t:Task}{r:Res}(h:R c t=some r):Ev c t r:=by
 unfold R at h
 split at h
 ·rename_i hx
  have:=Classical.choose_spec hx
  simp at h
  rwa [h] at this
 ·cases h
theorem QAU {c:Ctx}{t:Task}{r:Res}(h:Ev c t r):R c t=some r:=by
 have hx:∃ r,Ev c t r:=⟨r,h⟩
 have:R c t=some (Classical.choose hx):=by unfold R; rw [dif_pos hx]
 rw [this]
 obtain ⟨K,h1⟩:=h
 obtain ⟨K',h2⟩:=Classical.choose_spec hx
 have:=h1 (max K K') (Nat.le_max_left _ _)
 rw [h2 (max K K') (Nat.le_max_right _ _)] at this
 exact this
def Fin {α:Type}(g:Nat→Task→Option Res)(L:Task→Option Res)(F:(Task→Option Res)→Option α):Prop:=∀ r,F L=some r→∃ K,∀ k,K≤k→F (g k)=some r
def Lim (g:Nat→Task→Option Res)(L:Task→Option Res):Prop:=∀ t r,L t=some r→∃ K,∀ k,K≤k→g k t=some r
section
variable {c:Ctx} {α β:Type} {g:Nat→Task→Option Res} {L:Task→Option Res}
theorem Fin.const (x:Option α):Fin g L (fun _=>x):=fun r h=>⟨0,fun _ _=>h⟩
theorem Fin.bind {F:(Task→Option Res)→Option α}{G:α→(Task→Option Res)→Option β}(hF:Fin g L F)(hG:∀ a,Fin g L (G a)):Fin g L (fun rec=>match F rec with |none=>none |some a=>G a rec):=fun r h=>by
 dsimp only at h
 cases hf:F L with
 | none=>simp [hf] at h
 | some a=>
  simp only [hf] at h
  obtain ⟨K1,h1⟩:=hF a hf
  obtain ⟨K2,h2⟩:=hG a r h
  exact ⟨max K1 K2,fun k hk=>by simp only [h1 k (by omega),h2 k (by omega)]⟩
theorem Fin.congr {F G:(Task→Option Res)→Option α}(h:∀ rec,F rec=G rec)(hF:Fin g L F):Fin g L G:=fun r hr=>by
 rw [← h] at hr
 obtain ⟨K,hk⟩:=hF r hr
 exact ⟨K,fun k hk'=>by rw [← h]; exact hk k hk'⟩
def FinB (g:Nat→Task→Option Res)(L:Task→Option Res)(F:(Task→Option Res)→Bool):Prop:=F L=true→∃ K,∀ k,K≤k→F (g k)=true
theorem FinB.all {γ:Type}(l:List γ){F:γ→(Task→Option Res)→Bool}(h:∀ x∈l,FinB g L (F x)):FinB g L (fun rec=>l.all fun x=>F x rec):=by
 induction l with
 | nil=>exact fun _=>⟨0,fun _ _=>rfl⟩
 | cons a l ih=>
  intro hr
  simp only [List.all_cons,Bool.and_eq_true] at hr
  obtain ⟨K1,h1⟩:=h a (by simp) hr.1
  obtain ⟨K2,h2⟩:=ih (fun x hx=>h x (by simp [hx])) hr.2
  exact ⟨max K1 K2,fun k hk=>by simp only [List.all_cons,Bool.and_eq_true]; exact ⟨h1 k (by omega),h2 k (by omega)⟩⟩
theorem FinB.bind {F:(Task→Option Res)→Option α}{G:α→(Task→Option Res)→Bool}(hF:Fin g L F)(hG:∀ a,FinB g L (G a)):FinB g L (fun rec=>match F rec with |none=>false |some a=>G a rec):=fun h=>by
 dsimp only at h
 cases hf:F L with
 | none=>simp [hf] at h
 | some a=>
  simp only [hf] at h
  obtain ⟨K1,h1⟩:=hF a hf
  obtain ⟨K2,h2⟩:=hG a h
  exact ⟨max K1 K2,fun k hk=>by simp only [h1 k (by omega),h2 k (by omega)]⟩
theorem FinB.const (b:Bool):FinB g L (fun _=>b):=fun h=>⟨0,fun _ _=>h⟩
theorem Fin.when {F:(Task→Option Res)→Bool}{x:Option α}(hF:FinB g L F):Fin g L (fun rec=>match F rec with |true=>x |false=>none):=fun r h=>by
 dsimp only at h
 cases hf:F L with
 | false=>simp [hf] at h
 | true=>
  simp only [hf] at h
  obtain ⟨K1,h1⟩:=hF hf
  exact ⟨K1,fun k hk=>by simp only [h1 k hk,h]⟩
theorem Qu1 {m:Nat}{vs:List AV}{H:Heap}{F:List Nat→(Task→Option Res)→Option α}(h:∀ s,Fin g L (F s)):Fin g L (fun rec=>reach m vs H fun s=>F s rec):=by
 simp only [reach,Qat]
 cases hv:visit H 100000 ((Qa8 m).reverse.flatMap (fun b=>(Qcr H b).refs)++vs.flatMap refs) (Qa8 m) with
 | none=>simp only []; exact Fin.const none
 | some out=>simp only []; exact h out.reverse
theorem Qu2 {m:Nat}{st:St}{F:St→(Task→Option Res)→Option α}(h:∀ s,Fin g L (F s)):Fin g L (fun rec=>st.canon m fun s=>F s rec):=by
 unfold St.canon
 simp only [Qpk,QeF]
 exact Qu1 fun s=>h _
theorem QmV {nz:Nat→List Nat}{mask m:Nat}{st:St}{F:St→(Task→Option Res)→Option α}(h:∀ s,Fin g L (F s)):Fin g L (fun rec=>st.norm c nz mask m fun s=>F s rec):=by
 unfold St.norm
 simp only [Qat,Qp0]
 exact Qu2 h
theorem QwB (hL:Lim g L)(f:FuncId)(args:List AV)(H:Heap):Fin g L (fun rec=>Qjg rec f args H):=by
 unfold Qjg
 refine Qu1 fun seen=>?_
 simp only [Qxy,QeF]
 intro r h
 dsimp only at h
 cases hr:L (.fn f (args.map (ren fun b=>QaY b seen 0)) (seen.map fun b=>(Qcr H b).rn fun b=>QaY b seen 0)) with
 | none=>simp [hr] at h
 | some x=>
  obtain ⟨K,hK⟩:=hL _ _ hr
  rw [hr] at h
  exact ⟨K,fun k hk=>by dsimp only; rw [hK k hk]; exact h⟩
theorem Qu3 (hL:Lim g L)(f:FuncId)(args:List AV)(H:Heap):Fin g L (fun rec=>Qhv rec f args H):=by
 unfold Qhv
 cases hm:mapM' (Qaj H 12) args with
 | none=>exact Fin.const none
 | some fs=>
  simp only
  intro r h
  dsimp only at h
  cases hr:L (.pfn f fs) with
  | none=>simp [hr] at h
  | some x=>
   obtain ⟨K,hK⟩:=hL _ _ hr
   rw [hr] at h
   exact ⟨K,fun k hk=>by dsimp only; rw [hK k hk]; exact h⟩
theorem Qy0 (hL:Lim g L)(f:FuncId)(args:List AV)(H:Heap):Fin g L (fun rec=>QjT c rec f args H):=by
 unfold QjT
 cases c.prim f with
 | clone e=>exact Fin.const _
 | pure p=>exact Fin.const _
 | no=>
  simp only
  cases c.raw f||!(args.all fun v=>(Qaj H 12 v).isSome) with
  | true=>exact QwB hL f args H
  | false=>exact Qu3 hL f args H
theorem QC8 (hL:Lim g L)(o:Oper)(fr:Fr)(H:Heap):Fin g L (fun rec=>evOp c rec o fr H):=by
 unfold evOp
 cases o.op<;>try exact Fin.const _
 case call cl=>
  simp only
  unfold Qjj
  cases cl.callee with
  | builtin b=>exact Fin.const _
  | invoke=>exact Fin.const _
  | value f=>
   simp only
   unfold Qz2
   cases opv fr f<;>try exact Fin.const _
   exact Qy0 hL _ _ _
theorem QnX (hL:Lim g L)(n:Nat)(ops:Array Oper)(o:Oper)(st:St):Fin g L (fun rec=>Qce c rec n ops o st):=by
 unfold Qce
 cases QrD n o.dst with
 | false=>exact Fin.const _
 | true=>
  simp only
  cases Qa4 ops o st.fr with
  | none=>exact Fin.const _
  | some b=>
   cases b with
   | false=>exact Fin.const _
   | true=>
    simp only
    unfold evDo
    intro r h
    dsimp only at h
    cases he:evOp c L o st.fr st.H with
    | none=>rw [he] at h; cases h
    | some x=>
     obtain ⟨K,hK⟩:=QC8 hL o st.fr st.H x he
     dsimp only at hK
     rw [he] at h
     exact ⟨K,fun k hk=>by dsimp only; rw [hK k hk]; exact h⟩
theorem Qsp (hL:Lim g L)(n:Nat)(ops:Array Oper):∀ (l:List Oper) (st:St),Fin g L (fun rec=>QbU c rec n ops l st)
 | [],st=>Fin.const _
 | o::l,st=>by
  intro r h
  have h:QrE (Qce c L n ops o st) (QbU c L n ops l)=some r:=h
  unfold QrE at h
  cases he:Qce c L n ops o st with
  | none=>rw [he] at h; cases h
  | some x=>
   obtain ⟨K1,h1⟩:=QnX hL n ops o st x he
   dsimp only at h1
   rw [he] at h
   obtain ⟨K2,h2⟩:=Qsp hL n ops l x r h
   dsimp only at h2
   refine ⟨max K1 K2,fun k hk=>?_⟩
   show QrE (Qce c (g k) n ops o st) (QbU c (g k) n ops l)=some r
   unfold QrE
   rw [h1 k (by omega)]
   exact h2 k (by omega)
theorem QkN (hL:Lim g L)(n:Nat)(ops:Array Oper)(i:Nat)(w:List Nat)(t:Tra):Fin g L (fun rec=>Qa5 c rec n ops i w t):=by
 unfold Qa5
 cases ops[i]? with
 | none=>exact Fin.const _
 | some o=>
  intro r h
  dsimp only at h
  cases he:Qce c L n ops o t.st with
  | none=>rw [he] at h; cases h
  | some x=>
   obtain ⟨K,hK⟩:=QnX hL n ops o t.st x he
   dsimp only at hK
   rw [he] at h
   exact ⟨K,fun k hk=>by dsimp only; rw [hK k hk]; exact h⟩
def Qij (c:Ctx)(rec:Task→Option Res)(m n:Nat)(ops:Array Oper)(k:Nat)(t:Tra)(c1:St)(q:Nat×List Nat×Plan):Bool:=
 match Qa5 c rec n ops q.1 q.2.1 t with
 | none=>false
 | some u=>match Qbj c rec m n ops k q.2.2 u with
  | none=>false
  | some t2=>match t2.canon m fun c2=>some (QoE c1 c2) with |some true=>true |_=>false
theorem Qme (rec:Task→Option Res)(m n:Nat)(ops:Array Oper)(k:Nat)(i:Nat)(w:List Nat)(p:Plan)(q2:Nat×List Nat×Plan)(r:List (Nat×List Nat×Plan))(t:Tra):
  Qbj c rec m n ops (k+1) (.fork ((i,w,p)::q2::r)) t=match Qa5 c rec n ops i w t with
   | none=>none
   | some t0=>match Qbj c rec m n ops k p t0 with
    | none=>none
    | some t1=>t1.canon m fun c1=>match (q2::r).all (Qij c rec m n ops k t c1) with |true=>some c1 |false=>none:=rfl
theorem QiC (hL:Lim g L)(m n:Nat)(ops:Array Oper):∀ (k:Nat) (p:Plan) (t:Tra),Fin g L (fun rec=>Qbj c rec m n ops k p t)
 | 0,p,t=>Fin.const _
 | k+1,.done,t=>Fin.const _
 | k+1,.take i p,t=>by
  simp only [Qbj]
  cases ops[i]? with
  | none=>exact Fin.const _
  | some o=>
   simp only
   cases Qa4 ops o t.st.fr with
   | none=>exact Fin.const _
   | some w=>
    intro r h
    dsimp only at h
    cases he:Qce c L n ops o t.st with
    | none=>rw [he] at h; cases h
    | some x=>
     obtain ⟨K1,h1⟩:=QnX hL n ops o t.st x he
     dsimp only at h1
     rw [he] at h
     obtain ⟨K2,h2⟩:=QiC hL m n ops k p _ r h
     dsimp only at h2
     refine ⟨max K1 K2,fun k hk=>?_⟩
     dsimp only
     rw [h1 k (by omega)]
     exact h2 k (by omega)
 | k+1,.fork l,t=>by
  cases l with
  | nil=>exact Fin.const _
  | cons q r=>
   obtain ⟨i,w,p⟩:=q
   cases r with
   | nil=>
    simp only [Qbj]
    intro r h
    dsimp only at h
    cases he:Qa5 c L n ops i w t with
    | none=>rw [he] at h; cases h
    | some x=>
     obtain ⟨K1,h1⟩:=QkN hL n ops i w t x he
     dsimp only at h1
     rw [he] at h
     obtain ⟨K2,h2⟩:=QiC hL m n ops k p _ r h
     dsimp only at h2
     refine ⟨max K1 K2,fun k hk=>?_⟩
     dsimp only
     rw [h1 k (by omega)]
     exact h2 k (by omega)
   | cons q2 r=>
    intro res h
    dsimp only at h
    rw [Qme] at h
    cases he:Qa5 c L n ops i w t with
    | none=>rw [he] at h; cases h
    | some t0=>
     obtain ⟨K1,h1⟩:=QkN hL n ops i w t t0 he
     dsimp only at h1
     rw [he] at h
     dsimp only at h
     cases he2:Qbj c L m n ops k p t0 with
     | none=>rw [he2] at h; cases h
     | some t1=>
      obtain ⟨K2,h2⟩:=QiC hL m n ops k p t0 t1 he2
      dsimp only at h2
      rw [he2] at h
      have hoth:∀ c1,FinB g L (fun rec=>(q2::r).all (Qij c rec m n ops k t c1)):=fun c1=>FinB.all (q2::r) (F:=fun q rec=>Qij c rec m n ops k t c1 q) (fun q _=>by
       intro hb
       unfold Qij at hb ⊢
       dsimp only at hb ⊢
       cases e1:Qa5 c L n ops q.1 q.2.1 t with
       | none=>rw [e1] at hb; cases hb
       | some u=>
        obtain ⟨A1,a1⟩:=QkN hL n ops q.1 q.2.1 t u e1
        dsimp only at a1
        rw [e1] at hb
        dsimp only at hb
        cases e2:Qbj c L m n ops k q.2.2 u with
        | none=>rw [e2] at hb; cases hb
        | some t2=>
         obtain ⟨A2,a2⟩:=QiC hL m n ops k q.2.2 u t2 e2
         dsimp only at a2
         rw [e2] at hb
         refine ⟨max A1 A2,fun k hk=>?_⟩
         rw [a1 k (by omega)]
         dsimp only
         rw [a2 k (by omega)]
         exact hb)
      obtain ⟨K3,h3⟩:=Qu2 (g:=g) (L:=L) (m:=m) (st:=t1) (F:=fun c1 rec=>match (q2::r).all (Qij c rec m n ops k t c1) with |true=>some c1 |false=>none) (fun c1=>Fin.when (hoth c1)) res h
      dsimp only at h3
      refine ⟨max K1 (max K2 K3),fun k hk=>?_⟩
      dsimp only
      rw [Qme,h1 k (by omega)]
      dsimp only
      rw [h2 k (by omega)]
      exact h3 k (by omega)
theorem QoO (hL:Lim g L)(f m n id:Nat)(ops:Array Oper)(draw:Bool)(st:St):Fin g L (fun rec=>Qcj c rec f m n id ops draw st):=by
 unfold Qcj
 intro r h
 dsimp only at h
 cases draw with
 | true=>
  cases he:ifB true (QpL c L m n ops (c.plan f id) st) (QbU c L n ops ops.toList st) with
  | none=>rw [he] at h; cases h
  | some x=>
   obtain ⟨K,hK⟩:=QiC hL m n ops (ops.size+1) (c.plan f id) { st:=st,rd:=[] } x he
   dsimp only at hK
   rw [he] at h
   refine ⟨K,fun k hk=>?_⟩
   have e:ifB true (QpL c (g k) m n ops (c.plan f id) st) (QbU c (g k) n ops ops.toList st)=some x:=hK k hk
   dsimp only
   rw [e]
   exact h
 | false=>
  cases he:ifB false (QpL c L m n ops (c.plan f id) st) (QbU c L n ops ops.toList st) with
  | none=>rw [he] at h; cases h
  | some x=>
   obtain ⟨K,hK⟩:=Qsp hL n ops ops.toList st x he
   dsimp only at hK
   rw [he] at h
   refine ⟨K,fun k hk=>?_⟩
   have e:ifB false (QpL c (g k) m n ops (c.plan f id) st) (QbU c (g k) n ops ops.toList st)=some x:=hK k hk
   dsimp only
   rw [e]
   exact h
theorem QeH (hL:Lim g L)(f m n:Nat):∀ (co:Code) (blk:Nat) (st:St),Fin g L (fun rec=>Qaw c rec f m n blk co st)
 | .skip,blk,st=>Fin.const _
 | .region id ops draw,blk,st=>by
  show Fin g L (fun rec=>QkD c f m id st fun st=>Qcj c rec f m n id ops draw st)
  unfold QkD
  split
  ·exact QoO hL f m n id ops draw st
  ·exact QmV fun s=>QoO hL f m n id ops draw s
 | .seq a b,blk,st=>by
  intro r h
  have h:QkE (Qaw c L f m n blk a) (Qaw c L f m n blk b) st=some r:=h
  unfold QkE at h
  cases ha:Qaw c L f m n blk a st with
  | none=>rw [ha] at h; cases h
  | some x=>
   obtain ⟨K1,h1⟩:=QeH hL f m n a blk st x ha
   dsimp only at h1
   obtain ⟨e,s⟩:=x
   rw [ha] at h
   cases e with
   | norm=>
    obtain ⟨K2,h2⟩:=QeH hL f m n b blk s r h
    dsimp only at h2
    refine ⟨max K1 K2,fun k hk=>?_⟩
    show QkE (Qaw c (g k) f m n blk a) (Qaw c (g k) f m n blk b) st=some r
    unfold QkE
    rw [h1 k (by omega)]
    exact h2 k (by omega)
   | exit i=>
    refine ⟨K1,fun k hk=>?_⟩
    show QkE (Qaw c (g k) f m n blk a) (Qaw c (g k) f m n blk b) st=some r
    unfold QkE
    rw [h1 k hk]
    exact h
   | ret=>
    refine ⟨K1,fun k hk=>?_⟩
    show QkE (Qaw c (g k) f m n blk a) (Qaw c (g k) f m n blk b) st=some r
    unfold QkE
    rw [h1 k hk]
    exact h
 | .cond p a b,blk,st=>by
  show Fin g L (fun rec=>Qr7 (opv st.fr p) (Qaw c rec f m n blk a) (Qaw c rec f m n blk b) st)
  unfold Qr7
  cases opv st.fr p with
  | bool v=>cases v with
   | true=>exact QeH hL f m n a blk st
   | false=>exact QeH hL f m n b blk st
  | _=>exact Fin.const _
 | .block id a,blk,st=>by
  intro r h
  have h:QkF id (Qaw c L f m n id a) st=some r:=h
  unfold QkF at h
  cases ha:Qaw c L f m n id a st with
  | none=>rw [ha] at h; cases h
  | some x=>
   obtain ⟨K1,h1⟩:=QeH hL f m n a id st x ha
   dsimp only at h1
   rw [ha] at h
   refine ⟨K1,fun k hk=>?_⟩
   show QkF id (Qaw c (g k) f m n id a) st=some r
   unfold QkF
   rw [h1 k hk]
   exact h
 | .loop b,blk,st=>by
  show Fin g L (fun rec=>st.norm c (c.nilz f) (c.live f blk) m fun st=>QoF (rec (.loop f blk m b st)))
  refine QmV fun st=>?_
  intro r h
  have h:QoF (L (.loop f blk m b st))=some r:=h
  cases hr:L (.loop f blk m b st) with
  | none=>rw [hr] at h; cases h
  | some x=>
   obtain ⟨K,hK⟩:=hL _ _ hr
   rw [hr] at h
   refine ⟨K,fun k hk=>?_⟩
   show QoF (g k (.loop f blk m b st))=some r
   rw [hK k hk]
   exact h
 | .exit id,blk,st=>QmV fun s=>Fin.const _
 | .ret,blk,st=>QmV fun s=>Fin.const _
 | .rangeFunc _ _ _ _,blk,st=>Fin.const none
 | .scope _,blk,st=>Fin.const none
 | .label _,blk,st=>Fin.const none
 | .goto _,blk,st=>Fin.const none
 | .refuse _,blk,st=>Fin.const none
theorem QkO (hL:Lim g L)(t:Task):Fin g L (fun rec=>Qa6 c rec t):=by
 cases t with
 | pfn f args=>
  simp only [Qa6]
  cases c.fn f with
  | none=>exact Fin.const _
  | some F=>
   simp only
   cases F.body with
   | none=>exact Fin.const _
   | some b=>
    simp only
    cases Nat.ble args.length F.ntmps with
    | false=>exact Fin.const _
    | true=>
     simp only [Qat]
     intro r h
     dsimp only at h
     cases he:Qaw c L f 0 F.ntmps 0 b { fr:=Qhq 0 args,H:=[] } with
     | none=>rw [he] at h; cases h
     | some x=>
      obtain ⟨K,hK⟩:=QeH hL f 0 F.ntmps b 0 _ x he
      dsimp only at hK
      rw [he] at h
      exact ⟨K,fun k hk=>by dsimp only; rw [hK k hk]; exact h⟩
 | fn f args H=>
  simp only [Qa6]
  cases c.fn f with
  | none=>exact Fin.const _
  | some F=>
   simp only
   cases F.body with
   | none=>exact Fin.const _
   | some b=>
    simp only
    cases Nat.ble args.length F.ntmps with
    | false=>exact Fin.const _
    | true=>
     simp only [Qat,fLen,Qig]
     obtain ⟨H1,hmv⟩:∃ H1,∀ (γ:Type) (k:Heap→γ),mvIf c f args H k=k H1:=by
      unfold mvIf
      cases c.stay f with
      | true=>exact ⟨H,fun _ _=>rfl⟩
      | false=>exact ⟨_,fun γ k=>Qqe args H k⟩
     simp only [hmv]
     intro r h
     dsimp only at h
     cases he:Qaw c L f H.length F.ntmps 0 b { fr:=Qhq 0 args,H:=H1 } with
     | none=>rw [he] at h; cases h
     | some x=>
      obtain ⟨K,hK⟩:=QeH hL f H.length F.ntmps b 0 _ x he
      dsimp only at hK
      rw [he] at h
      exact ⟨K,fun k hk=>by dsimp only; rw [hK k hk]; exact h⟩
 | loop f id m b st=>
  simp only [Qa6]
  cases c.fn f with
  | none=>exact Fin.const _
  | some F=>
   simp only
   intro r h
   dsimp only at h
   cases he:Qaw c L f m F.ntmps id b st with
   | none=>rw [he] at h; cases h
   | some x=>
    obtain ⟨K,hK⟩:=QeH hL f m F.ntmps b id st x he
    dsimp only at hK
    obtain ⟨e,s⟩:=x
    rw [he] at h
    cases e with
    | norm=>
     obtain ⟨K2,h2⟩:=QmV (g:=g) (L:=L) (nz:=c.nilz f) (mask:=c.live f id) (m:=m) (st:=s) (F:=fun st rec=>rec (.loop f id m b st)) (fun s r hr=>hL _ _ hr) r h
     dsimp only at h2
     exact ⟨max K K2,fun k hk=>by dsimp only; rw [hK k (by omega)]; exact h2 k (by omega)⟩
    | exit i=>exact ⟨K,fun k hk=>by dsimp only; rw [hK k hk]; exact h⟩
    | ret=>exact ⟨K,fun k hk=>by dsimp only; rw [hK k hk]; exact h⟩
theorem QF4 {t:Task}{r:Res}(h:Qa6 c (R c) t=some r):R c t=some r:=by
 obtain ⟨K,hK⟩:=QkO (g:=fun k=>run c k) (L:=R c) (fun t r h=>R_ev h) t r h
 dsimp only at hK
 refine QAU ⟨K+1,fun k hk=>?_⟩
 obtain ⟨j,rfl⟩:∃ j,k=j+1:=⟨k - 1,by omega⟩
 exact hK j (by omega)
theorem QF5 {t:Task}{r:Res}{k:Nat}(h:R c t=some r):∃ k,run c k t=some r:=let ⟨K,hK⟩:=R_ev h; ⟨K,hK K (Nat.le_refl _)⟩
theorem QxV:∀ (k:Nat) (t:Task) (r:Res),run c k t=some r→∀ k',k≤k'→run c k' t=some r
 | 0,t,r,h,_,_=>by simp [run] at h
 | k+1,t,r,h,k',hk=>by
  obtain ⟨j,rfl⟩:∃ j,k'=j+1:=⟨k' - 1,by omega⟩
  obtain ⟨K,hK⟩:=QkO (c:=c) (g:=fun _=>run c j) (L:=run c k) (fun t r h=>⟨0,fun _ _=>QxV k t r h j (by omega)⟩) t r h
  exact hK K (Nat.le_refl _)
theorem QxW {k:Nat}{t:Task}{r:Res}(h:run c k t=some r):R c t=some r:=QAU ⟨k,fun k' hk=>QxV k t r h k' hk⟩
theorem QF6 {t:Task}{r:Res}(h:R c t=some r):Qa6 c (R c) t=some r:=by
 obtain ⟨k,hk⟩:=QF5 (k:=0) h
 cases k with
 | zero=>simp [run] at hk
 | succ k=>
  obtain ⟨K,hK⟩:=QkO (c:=c) (g:=fun _=>R c) (L:=run c k) (fun t r h=>⟨0,fun _ _=>QxW h⟩) t r hk
  exact hK K (Nat.le_refl _)
theorem R_eq (t:Task):R c t=Qa6 c (R c) t:=by
 cases h:R c t with
 | some r=>exact (QF6 h).symm
 | none=>
  cases h2:Qa6 c (R c) t with
  | none=>rfl
  | some r=>rw [QF4 h2] at h; cases h
end
end Go.Ev
