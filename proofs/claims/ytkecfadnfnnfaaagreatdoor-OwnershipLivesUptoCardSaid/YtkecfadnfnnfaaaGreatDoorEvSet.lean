/- The words by which the evaluator is walked through. -/
import Derived.Test.YtkecfadnfnnfaaaGreatDoorEvL
import Derived.Attr
set_option linter.unusedVariables false
set_option linter.unusedSimpArgs false
noncomputable section
namespace Go.Ev
def hd {α:Type}(l:List α):Nat:=l.length
def tg (e:Nat)(es:List (List AV)):List (List AV):=es
def idx {α:Type}(l:List α)(n:Int):Option α:=(atIdx n l.length).bind fun i=>l[i]?
section
variable {α β γ:Type}
end
section
variable (c:Ctx) (rec:Task→Option Res)
theorem QEJ {α β:Type}(a:Option α)(f:α→Option β):QrE a f=a.bind f:=by cases a<;>rfl
theorem Qjp {β:Type}(a:Option β)(l:Option (List β)):QCB a l=a.bind fun b=>l.bind fun m=>some (b::m):=by cases a<;>cases l<;>rfl
theorem QxX (n:Nat)(ops:Array Oper)(o:Oper)(st:St):Qce c rec n ops o st=
  if QrD n o.dst=true then (Qa4 ops o st.fr).bind fun w=>if w=true then (evOp c rec o st.fr st.H).bind fun p=>some ⟨st.fr.put o.dst p.1,p.2⟩ else some ⟨st.fr.put o.dst (.tup []),st.H⟩ else none:=by
 unfold Qce
 cases QrD n o.dst with
 | false=>rfl
 | true=>
  simp only [if_true]
  cases Qa4 ops o st.fr with
  | none=>rfl
  | some w=>cases w with
   | false=>rfl
   | true=>
    simp only [Option.bind_some,if_true,evDo,QsY,Fr.Qv3]
    cases evOp c rec o st.fr st.H<;>rfl
theorem QC9 (n:Nat)(ops:Array Oper)(o:Oper)(l:List Oper)(st:St):QbU c rec n ops (o::l) st=(Qce c rec n ops o st).bind (QbU c rec n ops l):=by rw [QfH,QEJ]
theorem QAV (f m n id:Nat)(ops:Array Oper)(st:St):Qcj c rec f m n id ops false st=(QbU c rec n ops ops.toList st).bind fun s=>some (.norm,⟨s.fr.only (c.keep f id),s.H⟩):=by
 unfold Qcj; simp only [Qat]; show (match QbU c rec n ops ops.toList st with |none=>none |some st=>_)=_; cases QbU c rec n ops ops.toList st<;>rfl
theorem QF7 (f m n id:Nat)(ops:Array Oper)(st:St):Qcj c rec f m n id ops true st=(Qbj c rec m n ops (ops.size+1) (c.plan f id) ⟨st,[]⟩).bind fun s=>some (.norm,⟨s.fr.only (c.keep f id),s.H⟩):=by
 unfold Qcj; simp only [Qat]; show (match Qbj c rec m n ops (ops.size+1) (c.plan f id) ⟨st,[]⟩ with |none=>none |some st=>_)=_; cases Qbj c rec m n ops (ops.size+1) (c.plan f id) ⟨st,[]⟩<;>rfl
theorem Qy1 (m n:Nat)(ops:Array Oper)(k i:Nat)(p:Plan)(t:Tra):Qbj c rec m n ops (k+1) (.take i p) t=
  (ops[i]?).bind fun o=>(Qa4 ops o t.st.fr).bind fun w=>(Qce c rec n ops o t.st).bind fun st=>Qbj c rec m n ops k p ⟨st,if w=true then QgU i o t.st++t.rd else t.rd⟩:=by
 simp only [Qbj]
 cases ops[i]? with
 | none=>rfl
 | some o=>
  simp only [Option.bind_some]
  cases Qa4 ops o t.st.fr with
  | none=>rfl
  | some w=>
   simp only [Option.bind_some]
   cases Qce c rec n ops o t.st with
   | none=>rfl
   | some st=>cases w<;>rfl
theorem QEK (m n:Nat)(ops:Array Oper)(k i:Nat)(w:List Nat)(p:Plan)(t:Tra):Qbj c rec m n ops (k+1) (.fork [(i,w,p)]) t=(Qa5 c rec n ops i w t).bind fun t=>Qbj c rec m n ops k p t:=by
 simp only [Qbj]; cases Qa5 c rec n ops i w t<;>rfl
theorem QEL (m n:Nat)(ops:Array Oper)(k i:Nat)(w:List Nat)(p:Plan)(q:Nat×List Nat×Plan)(r:List (Nat×List Nat×Plan))(t:Tra):Qbj c rec m n ops (k+1) (.fork ((i,w,p)::q::r)) t=
  (Qa5 c rec n ops i w t).bind fun t0=>(Qbj c rec m n ops k p t0).bind fun t1=>t1.canon m fun c1=>if (q::r).all (Qij c rec m n ops k t c1)=true then some c1 else none:=by
 rw [Qme]
 cases Qa5 c rec n ops i w t with
 | none=>rfl
 | some t0=>
  simp only [Option.bind_some]
  cases Qbj c rec m n ops k p t0 with
  | none=>rfl
  | some t1=>
   simp only [Option.bind_some]
   congr 1
   funext c1
   cases (q::r).all (Qij c rec m n ops k t c1)<;>rfl
def okB:Option Bool→Bool
 | some b=>b
 | none=>false
theorem QAW (m n:Nat)(ops:Array Oper)(k:Nat)(t:Tra)(c1:St)(i:Nat)(w:List Nat)(p:Plan):Qij c rec m n ops k t c1 (i,w,p)=
  okB ((Qa5 c rec n ops i w t).bind fun u=>(Qbj c rec m n ops k p u).bind fun t2=>t2.canon m fun c2=>some (QoE c1 c2)):=by
 unfold Qij
 cases Qa5 c rec n ops i w t with
 | none=>rfl
 | some u=>
  simp only [Option.bind_some]
  cases Qbj c rec m n ops k p u with
  | none=>rfl
  | some t2=>
   simp only [Option.bind_some]
   cases (t2.canon m fun c2=>some (QoE c1 c2)) with
   | none=>rfl
   | some b=>cases b<;>rfl
theorem QDa (b:Bool):okB (some b)=b:=rfl
theorem Qy2 (n:Nat)(ops:Array Oper)(i:Nat)(w:List Nat)(t:Tra):Qa5 c rec n ops i w t=
  (ops[i]?).bind fun o=>(Qce c rec n ops o t.st).bind fun st=>if (t.rd.filter fun q=>w.contains q.1).all (QgT t.st.H st.H)=true then some ⟨st,t.rd.filter fun q=>w.contains q.1⟩ else none:=by
 unfold Qa5
 cases ops[i]? with
 | none=>rfl
 | some o=>
  simp only [Option.bind_some]
  cases Qce c rec n ops o t.st with
  | none=>rfl
  | some st=>
   simp only [Option.bind_some]
   cases (t.rd.filter fun q=>w.contains q.1).all (QgT t.st.H st.H)<;>rfl
def seqK (b:St→Option (Ex×St))(p:Ex×St):Option (Ex×St):=match p with
 | (.norm,st)=>b st
 | p=>some p
theorem QDb (p:Bool)(a b:St→Option (Ex×St))(st:St):Qr7 (.bool p) a b st=if p=true then a st else b st:=by cases p<;>rfl
def QHE (id:Nat)(p:Ex×St):Option (Ex×St):=match p with
 | (.exit k,st)=>if k=id then some (.norm,st) else some (.exit k,st)
 | p=>some p
def QHf {β:Type}(k:Ex→St→Option β):Res→Option β
 | .code e st=>k e st
 | .val _ _=>none
def valK {β:Type}(k:AV→Heap→Option β):Res→Option β
 | .val v H=>k v H
 | .code _ _=>none
theorem QDc (r:Option Res):QoF r=r.bind (QHf fun e st=>some (e,st)):=by
 unfold QoF
 cases r with
 | none=>rfl
 | some r=>cases r<;>rfl
theorem QAX {β:Type}(k:AV→Heap→Option β)(v:AV)(H:Heap):valK k (.val v H)=k v H:=rfl
def QF8 (f id:Nat)(s:St)(k:St→Option (Ex×St)):Option (Ex×St):=k s
theorem QAY (f m id:Nat)(st:St)(k:St→Option (Ex×St)):QkD c f m id st k=if c.pre f id=0 then k st else st.norm c (c.nilz f) (c.pre f id) m fun s=>QF8 f id s k:=by
 unfold QkD
 cases c.pre f id<;>rfl
def finP (rs:List ResultVar)(p:Ex×St):Option Res:=match p with
 | (.exit _,_)=>none
 | (_,st)=>(mapM' (Qb5 c st) rs).bind fun vs=>(Qge st.H (match vs with |[v]=>v |vs=>.tup vs)).bind fun v=>some (.val v [])
theorem Qu4 (F:Func)(st:St):QfX c F st=(mapM' (Qb5 c st) F.results.toList).bind fun vs=>some (match vs with |[v]=>v |vs=>.tup vs):=by
 unfold QfX
 cases mapM' (Qb5 c st) F.results.toList with
 | none=>rfl
 | some vs=>cases vs with
  | nil=>rfl
  | cons v vs=>cases vs<;>rfl
theorem QHg (f:FuncId)(args:List AV)(F:Func)(b:Code)(hF:c.fn f=some F)(hb:F.body=some b)(hn:Nat.ble args.length F.ntmps=true):
  Qa6 c rec (.pfn f args)=(Qaw c rec f 0 F.ntmps 0 b ⟨Qhq 0 args,[]⟩).bind (finP c F.results.toList):=by
 simp only [Qa6,hF,hb,hn,Qat]
 cases Qaw c rec f 0 F.ntmps 0 b ⟨Qhq 0 args,[]⟩ with
 | none=>rfl
 | some p=>
  obtain ⟨e,st⟩:=p
  cases e with
  | exit k=>rfl
  | _=>
   simp only [Option.bind_some,finP,Qu4]
   cases mapM' (Qb5 c st) F.results.toList with
   | none=>rfl
   | some v=>
    simp only [Option.bind_some]
    cases Qge st.H _<;>rfl
def finF (rs:List ResultVar)(m:Nat)(p:Ex×St):Option Res:=match p with
 | (.exit _,_)=>none
 | (_,st)=>(mapM' (Qb5 c st) rs).bind fun vs=>({ fr:=[(0,match vs with |[v]=>v |vs=>.tup vs)],H:=st.H }:St).canon m fun st1=>some (.val (st1.fr.get 0) st1.H)
theorem s_fn (f:FuncId)(args:List AV)(H:Heap)(F:Func)(b:Code)(hF:c.fn f=some F)(hb:F.body=some b)(hn:Nat.ble args.length F.ntmps=true):
  Qa6 c rec (.fn f args H)=(mvIf c f args H fun H1=>Qaw c rec f H.length F.ntmps 0 b ⟨Qhq 0 args,H1⟩).bind (finF c F.results.toList H.length):=by
 simp only [Qa6,hF,hb,hn,Qat,fLen,Qig,QsY]
 cases (mvIf c f args H fun H1=>Qaw c rec f H.length F.ntmps 0 b ⟨Qhq 0 args,H1⟩) with
 | none=>rfl
 | some p=>
  obtain ⟨e,st⟩:=p
  cases e with
  | exit k=>rfl
  | _=>
   simp only [Option.bind_some,finF,Qu4]
   cases mapM' (Qb5 c st) F.results.toList<;>rfl
def QDd (f id m:Nat)(b:Code)(p:Ex×St):Option Res:=match p with
 | (.norm,st)=>st.norm c (c.nilz f) (c.live f id) m fun st=>rec (.loop f id m b st)
 | (e,st)=>some (.code e st)
theorem Qy3 (f id m:Nat)(b:Code)(st:St):QDd c rec f id m b (.norm,st)=st.norm c (c.nilz f) (c.live f id) m fun st=>rec (.loop f id m b st):=rfl
theorem Qy4 (f id m:Nat)(b:Code)(k:Nat)(st:St):QDd c rec f id m b (.exit k,st)=some (.code (.exit k) st):=rfl
theorem QAZ (f id m:Nat)(b:Code)(st:St):QDd c rec f id m b (.ret,st)=some (.code .ret st):=rfl
theorem QF9 (f id m:Nat)(b:Code)(st:St)(F:Func)(hF:c.fn f=some F):Qa6 c rec (.loop f id m b st)=(Qaw c rec f m F.ntmps id b st).bind (QDd c rec f id m b):=by
 simp only [Qa6,hF]
 cases Qaw c rec f m F.ntmps id b st with
 | none=>rfl
 | some p=>
  obtain ⟨e,st⟩:=p
  cases e<;>rfl
end
section
variable {c:Ctx}
end
end Go.Ev
end
noncomputable section
namespace Go.Ev
section
variable (c:Ctx) (rec:Task→Option Res)
theorem QGa {β:Type}(nz:Nat→List Nat)(mask m:Nat)(st:St)(k:St→Option β):st.norm c nz mask m k=QlQ c nz (st.fr.only mask) st.H fun fr H=>St.canon m { fr:=fr,H:=H } k:=by
 unfold St.norm; rw [Qat]
theorem Qy5 {β:Type}(nz:Nat→List Nat)(t:Nat)(v:AV)(r:Fr)(H:Heap)(k:Fr→Heap→β):QlQ c nz ((t,v)::r) H k=QoA c (nz t) v H fun v H=>QlQ c nz r H fun r H=>k ((t,v)::r) H:=rfl
theorem QA0 {β:Type}(z:Nat)(zs:List Nat)(cs:List AV)(H:Heap)(k:AV→Heap→β):QoA c (z::zs) (.agg cs) H k=QaA c (z::zs) cs H fun cs H=>k (.agg cs) H:=rfl
theorem QwC {β:Type}(e:Nat)(zs:List Nat)(vs:List AV)(H:Heap)(k:List AV→Heap→β):QaA c ((e+1)::zs) (.nils::vs) H k=
  QaA c zs vs (H++[.rows (c.ty e).size true (tg e [])]) fun vs H'=>k (.sl H.length 0 (hd (tg e []))::vs) H':=by
 simp only [QaA,Qig,Qat]; rfl
theorem Qy6 {β:Type}(e:Nat)(zs:List Nat)(vs:List AV)(H:Heap)(k:List AV→Heap→β):QaA c ((e+1)::zs) (.emp::vs) H k=
  QaA c zs vs (H++[.rows (c.ty e).size true (tg e [])]) fun vs H'=>k (.sl H.length 0 (hd (tg e []))::vs) H':=by
 simp only [QaA,Qig,Qat]; rfl
theorem QA1 (f:FuncId)(args:List AV)(H:Heap):Qjg rec f args H=
  reach 0 args H fun seen=>QpE (fun b=>QaY b seen 0) H seen fun H0=>(rec (.fn f (args.map (ren fun b=>QaY b seen 0)) H0)).bind (valK fun v H'=>
   Qjf (Qd2 seen seen.length H.length) seen H' H fun rest H1=>QpG (Qd2 seen seen.length H.length) rest fun new=>some (ren (Qd2 seen seen.length H.length) v,H1++new)):=by
 unfold Qjg
 congr 1
 funext seen
 simp only [Qxy,QeF]
 cases rec (.fn f (args.map (ren fun b=>QaY b seen 0)) (seen.map fun b=>(Qcr H b).rn fun b=>QaY b seen 0)) with
 | none=>rfl
 | some r=>
  cases r with
  | code=>rfl
  | val v H'=>simp only [Option.bind_some,valK,fLen,Qig,QsY,Qat]
theorem Qsq (f:FuncId)(args:List AV)(H:Heap):Qhv rec f args H=
  (mapM' (Qaj H 12) args).bind fun fs=>(rec (.pfn f fs)).bind (valK fun v _=>if Qhp 8 v=true then some (v,H) else (QbT (args.flatMap (frozenIn 12)) H).bind fun H=>some (v,H)):=by
 unfold Qhv
 cases mapM' (Qaj H 12) args with
 | none=>rfl
 | some fs=>
  simp only [Option.bind_some]
  cases rec (.pfn f fs) with
  | none=>rfl
  | some r=>
   cases r with
   | code=>rfl
   | val v H'=>
    simp only [Option.bind_some,valK]
    cases Qhp 8 v with
    | true=>rfl
    | false=>
     simp only
     cases QbT (args.flatMap (frozenIn 12)) H<;>rfl
theorem QwD (f:FuncId)(args:List AV)(H:Heap)(e:TypeId)(h:c.prim f=.clone e):QjT c rec f args H=QkA c e args H:=by unfold QjT; rw [h]
theorem Qty (f:FuncId)(args:List AV)(H:Heap)(h:c.prim f=.no):QjT c rec f args H=if (c.raw f||!(args.all fun v=>(Qaj H 12 v).isSome))=true then Qjg rec f args H else Qhv rec f args H:=by
 unfold QjT; rw [h]
 cases (c.raw f||!(args.all fun v=>(Qaj H 12 v).isSome))<;>rfl
theorem QGb (H:Heap)(b:Nat):shut H b=(H[b]?).bind fun k=>match k with
  | .rows z true es=>some (H.set b (.ro z es))
  | .ro _ _=>some H
  | _=>none:=by
 unfold shut
 cases H[b]? with
 | none=>rfl
 | some k=>cases k with
  | rows z p es=>cases p<;>simp [Qat]
  | _=>rfl
theorem QA2 (b:Nat)(l:List Nat)(H:Heap):QbT (b::l) H=(shut H b).bind (QbT l):=by
 simp only [QbT]; cases shut H b<;>rfl
theorem Qsr (H:Heap)(n b off len:Nat):Qaj H (n+1) (.sl b off len)=(H[b]?).bind fun k=>match k with
  | .rows _ true es=>Qdh es off len fun es=>some (.lst es)
  | .ro _ es=>Qdh es off len fun es=>some (.lst es)
  | _=>none:=by
 simp only [Qaj]
 cases H[b]? with
 | none=>rfl
 | some k=>cases k with
  | rows z p es=>cases p<;>rfl
  | _=>rfl
theorem Qqp (H:Heap)(n:Nat)(cs:List AV):Qaj H (n+1) (.agg cs)=(mapM' (Qaj H n) cs).bind fun cs=>some (.agg cs):=by
 simp only [Qaj]; cases mapM' (Qaj H n) cs<;>rfl
theorem QA3 (H:Heap)(v:AV):QeU H v=(Qaj H 12 v).bind fun x=>(QbT (frozenIn 12 v) H).bind fun H=>some (x,H):=by
 unfold QeU freeze
 cases Qaj H 12 v with
 | none=>rfl
 | some x=>simp only [Option.bind_some]; cases QbT (frozenIn 12 v) H<;>rfl
theorem Qy7 (H:Heap)(vs:List AV):Qge H (.tup vs)=(mapM' (Qaj H 12) vs).bind fun vs=>some (.tup vs):=by
 simp only [Qge]
 show (match mapM' (Qaj H 12) vs with |some vs=>some (AV.tup vs) |none=>none)=_
 cases mapM' (Qaj H 12) vs<;>rfl
theorem QmW {α β:Type}(es:List α)(off len:Nat)(k:List α→Option β):Qdh es off len k=if off+len≤es.length then k ((es.drop off).take len) else none:=by
 unfold Qdh
 rw [Qgf]
 by_cases h:off+len≤es.length<;>simp [h,Qat]
theorem QxY (e:TypeId)(H:Heap)(n:Int)(b off len:Nat):Qji c e H n (.sl b off len)=(atIdx n len).bind fun i=>if QgR H b (c.ty e).size=true then some (.ptr b (off+i) 0) else none:=by
 simp only [Qji]
 cases atIdx n len with
 | none=>rfl
 | some i=>simp only [Option.bind_some]; cases QgR H b (c.ty e).size<;>rfl
theorem QA4 (t:TypeId)(H:Heap)(b i o:Nat):Qhu c t H (.ptr b i o)=(rowAt H b i).bind fun r=>pack (c.ty t) (r.drop o):=by
 simp only [Qhu,rowAt]
 cases H[b]? with
 | none=>rfl
 | some k=>cases k with
  | rows z p es=>simp only; cases es[i]?<;>rfl
  | ro z es=>simp only; cases es[i]?<;>rfl
  | _=>rfl
theorem QEM (H:Heap)(b i:Nat):rowAt H b i=(H[b]?).bind fun k=>match k with
  | .rows _ _ es=>es[i]?
  | .ro _ es=>es[i]?
  | _=>none:=by
 unfold rowAt
 cases H[b]? with
 | none=>rfl
 | some k=>cases k<;>rfl
theorem Qu5 (t:TypeId)(b i o:Nat)(v:List AV)(H:Heap):Qih c t b i o v H=(H[b]?).bind fun k=>match k with
  | .rows z pu es=>(es[i]?).bind fun r=>if (Nat.beq v.length (c.ty t).size&&Nat.ble (o+v.length) r.length&&v.all AV.Qax)=true then (if (c.ty t).known=true then some (H.set b (.rows z pu (es.set i (setFrom r o v)))) else none) else none
  | _=>none:=by
 unfold Qih
 cases H[b]? with
 | none=>rfl
 | some k=>cases k with
  | rows z pu es=>
   simp only [Option.bind_some]
   cases es[i]? with
   | none=>rfl
   | some r=>
    simp only [Option.bind_some,Qat]
    cases (Nat.beq v.length (c.ty t).size&&Nat.ble (o+v.length) r.length&&v.all AV.Qax) with
    | false=>rfl
    | true=>simp only [if_true]; cases (c.ty t).known<;>rfl
  | _=>rfl
theorem QA5 (t:TypeId)(H:Heap)(b i o:Nat)(v:AV):Qkz c t H (.ptr b i o) v=(H[b]?).bind fun k=>match k with
  | .rows _ true _=>(QeU H v).bind fun p=>Qih c t b i o p.1.cells p.2
  | .rows _ false _=>QaA c (c.ty t).zs v.cells H fun v H=>Qih c t b i o v H
  | _=>none:=by
 simp only [Qkz]
 cases H[b]? with
 | none=>rfl
 | some k=>cases k with
  | rows z p es=>cases p with
   | true=>simp only [Option.bind_some]; cases QeU H v<;>rfl
   | false=>rfl
  | _=>rfl
theorem QA6 (t:TypeId)(a v:AV)(H:Heap):Qs1 c t a v H=(Qkz c t H a v).bind fun H=>some (.tup [],H):=by
 unfold Qs1; cases Qkz c t H a v<;>rfl
theorem QDe (H:Heap)(b off len:Nat):rowsOf H (.sl b off len)=(H[b]?).bind fun k=>match k with
  | .rows _ _ es=>Qdh es off len some
  | .ro _ es=>Qdh es off len some
  | _=>none:=by
 simp only [rowsOf]
 cases H[b]? with
 | none=>rfl
 | some k=>cases k<;>rfl
theorem QDf (H:Heap)(b off len:Nat):QbP (.sl b off len) H=okB ((H[b]?).bind fun k=>match k with | .rows _ p _=>some p | .ro _ _=>some true |_=>some false):=by
 simp only [QbP]
 cases H[b]? with
 | none=>rfl
 | some k=>cases k<;>rfl
def QA7 (e:TypeId)(H:Heap)(new:List (List AV)):AV→Option (AV×Heap)
 | .nils=>QbH c e H new
 | .emp=>QbH c e H new
 | .sl b o len=>if o=0 then (H[b]?).bind fun k=>match k with
  | .rows z true es=>if Nat.beq z (c.ty e).size=true∧(len+new.length) * (c.ty e).bytes≤35184372088832∧len≤es.length∧1≤(c.ty e).bytes then some (.sl H.length 0 (hd (es.take len++new)),H.set b .dead++[.rows z true (es.take len++new)]) else none
  | _=>none else none
 | _=>none
theorem QDg (t tx:TypeId)(H:Heap)(s x:AV):Qgs c t tx H s x=if (elemOf (c.ty tx)).isSome=true then (elemOf (c.ty t)).bind fun e=>(rowsOf H x).bind fun new=>
  if QbP x H=true then (if (new.all fun r=>Nat.beq r.length (c.ty e).size)=true then QA7 c e H new s else none) else none else none:=by
 unfold Qgs
 cases (elemOf (c.ty tx)).isSome with
 | false=>rfl
 | true=>
  simp only [if_true]
  cases elemOf (c.ty t) with
  | none=>rfl
  | some e=>
   simp only [Option.bind_some]
   cases rowsOf H x with
   | none=>rfl
   | some new=>
    simp only [Option.bind_some]
    cases QbP x H with
    | false=>rfl
    | true=>
     simp only [if_true]
     cases (new.all fun r=>Nat.beq r.length (c.ty e).size) with
     | false=>rfl
     | true=>
      simp only [if_true]
      cases s with
      | sl b o len=>
       cases o with
       | succ o=>rfl
       | zero=>
        simp only [QA7,if_true]
        cases H[b]? with
        | none=>rfl
        | some k=>cases k with
         | rows z p es=>cases p with
          | false=>rfl
          | true=>
           simp only [Option.bind_some,Qat,Qgf]
           by_cases h1:Nat.beq z (c.ty e).size=true<;>by_cases h2:(len+new.length) * (c.ty e).bytes≤35184372088832<;>by_cases h3:len≤es.length<;>by_cases h4:1≤(c.ty e).bytes<;>simp [h1,h2,h3,h4,hd]
         | _=>rfl
      | _=>rfl
theorem QwE (e:TypeId)(H:Heap)(new:List (List AV)):QbH c e H new=if new.length * (c.ty e).bytes≤35184372088832∧1≤(c.ty e).bytes then some (.sl H.length 0 (hd new),H++[.rows (c.ty e).size true new]) else none:=by
 unfold QbH
 simp only [Qat,Qgf]
 by_cases h1:new.length * (c.ty e).bytes≤35184372088832<;>by_cases h2:1≤(c.ty e).bytes<;>simp [h1,h2,hd]
theorem QEN (e:TypeId)(x:AV)(H:Heap):QkA c e [x] H=(rowsOf H x).bind fun new=>if QbP x H=true then (if (new.all fun r=>Nat.beq r.length (c.ty e).size)=true then QbH c e H new else none) else none:=by
 simp only [QkA]
 cases rowsOf H x with
 | none=>rfl
 | some new=>
  simp only [Option.bind_some]
  cases QbP x H with
  | false=>rfl
  | true=>
   simp only [if_true]
   cases (new.all fun r=>Nat.beq r.length (c.ty e).size)<;>rfl
theorem Qy8 (size:Nat)(rows:List (List AV))(i:Nat)(v:AV)(rest:List (Nat×AV))(H:Heap):QeV size rows ((i,v)::rest) H=(QeU H v).bind fun p=>
  if (Nat.beq p.1.cells.length size&&Nat.blt i rows.length&&p.1.cells.all AV.Qax)=true then QeV size (rows.set i p.1.cells) rest p.2 else none:=by
 simp only [QeV]
 cases QeU H v with
 | none=>rfl
 | some p=>
  simp only [Option.bind_some,Qat]
  cases (Nat.beq p.1.cells.length size&&Nat.blt i rows.length&&p.1.cells.all AV.Qax)<;>rfl
theorem Qu6 (i:TI)(len:Nat)(parts:List (Nat×AV))(H:Heap):QeD c i len parts H=(elemOf i).bind fun e=>
  if (Nat.ble (len * (c.ty e).size) 16777216&&(c.ty e).zero.all AV.Qax)=true then (QeV (c.ty e).size (List.replicate len ((c.ty e).zero.map lstZ)) parts H).bind fun p=>some (.sl p.2.length 0 (if p.1.length=len then hd (tg e p.1) else len),p.2++[.rows (c.ty e).size true (tg e p.1)]) else none:=by
 unfold QeD
 cases elemOf i with
 | none=>rfl
 | some e=>
  simp only [Option.bind_some]
  cases (Nat.ble (len * (c.ty e).size) 16777216&&(c.ty e).zero.all AV.Qax) with
  | false=>rfl
  | true=>
   simp only [if_true]
   cases QeV (c.ty e).size (List.replicate len ((c.ty e).zero.map lstZ)) parts H with
   | none=>rfl
   | some p=>
    simp only [Option.bind_some,Qat]
    have:(if p.1.length=len then hd (tg e p.1) else len)=len:=by split<;>simp_all [hd,tg]
    rw [this]; rfl
theorem QDh {α:Type}(a b c d e:Bool)(x:Option α):(match a&&b&&c&&d&&e with |true=>x |false=>none)=if a=true then if b=true then if c=true then if d=true then if e=true then x else none else none else none else none else none:=by
 cases a<;>cases b<;>cases c<;>cases d<;>cases e<;>rfl
theorem QwF (i:TI)(n m:Int)(H:Heap):QfG c i (.int .i64 n) (.int .i64 m) H=(elemOf i).bind fun e=>
  if 0≤n then if n=m then if n.toNat * (c.ty e).bytes≤140737488355328 then if 1≤(c.ty e).bytes then if (c.ty e).zero.all AV.Qax=true then
   some (.sl H.length 0 (hd (tg e (List.replicate n.toNat ((c.ty e).zero.map lstZ)))),H++[.rows (c.ty e).size true (tg e (List.replicate n.toNat ((c.ty e).zero.map lstZ)))]) else none else none else none else none else none:=by
 unfold QfG
 cases elemOf i with
 | none=>rfl
 | some e=>
  simp only [Option.bind_some,Qat,Qgf,Qfu,QgX]
  refine (QDh _ _ _ _ _ _).trans ?_
  simp only [decide_eq_true_eq,hd,tg,List.length_replicate]
def bnd (n:Int)(most:Nat):Option Nat:=if 0≤n∧n≤(most:Int) then some n.toNat else none
theorem QDi (k:IntKind)(n:Int)(d most:Nat):bound (some (.int k n)) d most=bnd n most:=by
 simp only [bound,bnd,Qfu]
 by_cases h1:0≤n<;>by_cases h2:n≤(most:Int)<;>simp [h1,h2]
theorem Qy9 (t:TypeId)(H:Heap)(s:List UInt8)(lo hi:Option AV)(ht:(c.ty t).d=.str):Qet c t H (.str s) lo hi=(bound hi (hd s) (hd s)).bind fun h=>(bound lo 0 h).bind fun l=>some (.str ((s.drop l).take (h - l))):=by
 simp only [Qet,ht,hd,Qat]
 cases bound hi s.length s.length with
 | none=>rfl
 | some h=>simp only [Option.bind_some]; cases bound lo 0 h<;>rfl
theorem Qza (t:TypeId)(H:Heap)(es:List (List AV))(lo hi:Option AV):Qet c t H (.lst es) lo hi=(elemOf (c.ty t)).bind fun e=>(bound hi (hd es) (hd es)).bind fun h=>(bound lo 0 h).bind fun l=>
  if (es.all fun r=>Nat.beq r.length (c.ty e).size)=true then some (.lst ((es.drop l).take (h - l))) else none:=by
 simp only [Qet,hd,Qat]
 cases elemOf (c.ty t) with
 | none=>rfl
 | some e=>
  simp only [Option.bind_some]
  cases bound hi es.length es.length with
  | none=>rfl
  | some h=>
   simp only [Option.bind_some]
   cases bound lo 0 h with
   | none=>rfl
   | some l=>simp only [Option.bind_some]; cases (es.all fun r=>Nat.beq r.length (c.ty e).size)<;>rfl
theorem QA8 (t:TypeId)(H:Heap)(b off len:Nat)(lo hi:Option AV):Qet c t H (.sl b off len) lo hi=(elemOf (c.ty t)).bind fun e=>(bound hi len len).bind fun h=>(bound lo 0 h).bind fun l=>
  if QgR H b (c.ty e).size=true then some (.sl b (off+l) (h - l)) else none:=by
 simp only [Qet]
 cases elemOf (c.ty t) with
 | none=>rfl
 | some e=>
  simp only [Option.bind_some]
  cases bound hi len len with
  | none=>rfl
  | some h=>
   simp only [Option.bind_some]
   cases bound lo 0 h with
   | none=>rfl
   | some l=>simp only [Option.bind_some]; cases QgR H b (c.ty e).size<;>rfl
theorem QwG (t:TypeId)(H:Heap)(lo hi:Option AV):Qet c t H .nils lo hi=(elemOf (c.ty t)).bind fun _=>(bound hi 0 0).bind fun _=>(bound lo 0 0).bind fun _=>some .nils:=by
 simp only [Qet]
 cases elemOf (c.ty t) with
 | none=>rfl
 | some e=>
  simp only [Option.bind_some]
  cases bound hi 0 0 with
  | none=>rfl
  | some h=>simp only [Option.bind_some]; cases bound lo 0 0<;>rfl
theorem QGc (t:TypeId)(H:Heap)(b off len:Nat)(x:AV):QoB c t H (.sl b off len) x=(elemOf (c.ty t)).bind fun e=>(rowsOf H x).bind fun src=>(H[b]?).bind fun k=>match k with
  | .rows z true es=>if QbP x H=true then (if (src.all fun r=>Nat.beq r.length z)=true∧Nat.beq z (c.ty e).size=true∧off+len≤es.length then
    some (.int .i64 (hd (src.take len):Int),H.set b (.rows z true (es.take off++src.take len++es.drop (off+hd (src.take len))))) else none) else none
  | _=>none:=by
 simp only [QoB]
 cases elemOf (c.ty t) with
 | none=>rfl
 | some e=>
  simp only [Option.bind_some]
  cases rowsOf H x with
  | none=>rfl
  | some src=>
   simp only [Option.bind_some]
   cases H[b]? with
   | none=>rfl
   | some k=>cases k with
    | rows z p es=>cases p with
     | false=>rfl
     | true=>
      simp only [Option.bind_some]
      cases QbP x H with
      | false=>rfl
      | true=>
       simp only [if_true,Qat,Qgf,hd]
       by_cases h1:(src.all fun r=>Nat.beq r.length z)=true<;>by_cases h2:Nat.beq z (c.ty e).size=true<;>by_cases h3:off+len≤es.length<;>simp [h1,h2,h3]
    | _=>rfl
theorem QEO (i:TI)(H:Heap)(x:AV):Qux c i H x=(QlR c i H x).bind fun n=>some (.int .i64 n,H):=by
 unfold Qux; cases QlR c i H x<;>rfl
theorem QHh (k:IntKind)(x y:Int):QgO .quo k x y=if y=0 then none else some (.int k (wr k (x.tdiv y))):=by
 simp only [QgO,QgX]; by_cases h:y=0<;>simp [h]
theorem QHi (k:IntKind)(x y:Int):QgO .rem k x y=if y=0 then none else some (.int k (x.tmod y)):=by
 simp only [QgO,QgX]; by_cases h:y=0<;>simp [h]
theorem QHj (i:TI)(cst:Bool)(k j:IntKind)(a b:Int):binop c i cst .shl (.int k a) (.int j b)=if b<0 then none else some (.int k (wr k (a * 2 ^ (min b.toNat k.bits)))):=by
 simp only [binop,Qgi]; by_cases h:b<0<;>simp [h]
theorem QHk (i:TI)(cst:Bool)(k j:IntKind)(a b:Int):binop c i cst .shr (.int k a) (.int j b)=if b<0 then none else some (.int k (a.fdiv (2 ^ (min b.toNat k.bits)))):=by
 simp only [binop,Qgi]; by_cases h:b<0<;>simp [h]
theorem QDj (x y:List UInt8):QjS .add x y=if hd x+hd y≤9223372036854775807 then some (.str (x++y)) else none:=by
 simp only [QjS,Qgf,hd]; by_cases h:x.length+y.length≤9223372036854775807<;>simp [h]
theorem Qss (m:Nat)(e:TypeId)(cs:List AV)(n:Int):Qph c m e cs n=(atIdx n m).bind fun i=>pack (c.ty e) (cs.drop (i * (c.ty e).size)):=by
 simp only [Qph]; cases atIdx n m<;>rfl
end
end Go.Ev
end
noncomputable section
namespace Go.Ev
theorem QHl (m n:Nat):tb m n=decide ((m >>> n) &&& 1=1):=by
 unfold tb
 rw [QAc]
 rfl
theorem QaZ {k:Nat}(h:k<4611686018427387904):wr .i64 ((k:Int)+1)=((k+1:Nat):Int):=by
 rw [QuC,IntKind.wrap_i64]; omega
end Go.Ev
end
noncomputable section
namespace Go.Ev
section
variable {α β γ:Type}
inductive Tick where
 | mk
theorem Tick.one (a b:Tick):a=b:=by cases a; cases b; rfl
def tick:Tick:=.mk
def tock:Tick:=.mk
theorem QGe:tick=tock:=Tick.one _ _
theorem QHF {tk:Tick}(ht:tick=tk){o o':Option α}(h:o=o')(f:α→Option β):o.bind f=o'.bind f:=by rw [h]
theorem QHH {tk:Tick}(ht:tick=tk){o o':Option α}(h:o=o')(f:α→β):o.map f=o'.map f:=by rw [h]
end
section
variable (c:Ctx) (rec:Task→Option Res)
def renF (σ:Nat→Nat):Fr→Fr
 | []=>[]
 | p::r=>(p.1,renN σ 8 p.2)::renF σ r
theorem Qsw (p:List AV→Option AV)(args:List AV)(H:Heap):Qjh p args H=
  (mapM' (Qaj H 12) args).bind fun fs=>(p fs).bind fun v=>if Qhp 8 v=true then some (v,H) else (QbT (args.flatMap (frozenIn 12)) H).bind fun H=>some (v,H):=by
 unfold Qjh
 cases mapM' (Qaj H 12) args with
 | none=>rfl
 | some fs=>
  simp only [Option.bind_some]
  cases p fs with
  | none=>rfl
  | some v=>
   simp only [Option.bind_some]
   cases Qhp 8 v with
   | true=>rfl
   | false=>simp only; cases QbT (args.flatMap (frozenIn 12)) H<;>rfl
end
def QGf:Code→Option Nat
 | .region id _ _=>some id
 | .seq a _=>QGf a
 | _=>none
section
variable (c:Ctx) (rec:Task→Option Res)
def after (f m n blk:Nat):Code→St→Option (Ex×St)
 | .region id ops d,s=>Qcj c rec f m n id ops d s
 | .seq a b,s=>(after f m n blk a s).bind (seqK (Qaw c rec f m n blk b))
 | co,s=>Qaw c rec f m n blk co s
end
section
variable {β:Type}
theorem QHm {tk:Tick}(ht:tick=tk)(m:Nat){vs vs':List AV}{H H':Heap}(h1:vs=vs')(h2:H=H')(k:List Nat→Option β):reach m vs H k=reach m vs' H' k:=by rw [h1,h2]
theorem QEW {tk:Tick}(ht:tick=tk)(c:Ctx){zs zs':List Nat}{v v':List AV}{H H':Heap}(h0:zs=zs')(h1:v=v')(h2:H=H')(k:List AV→Heap→β):QaA c zs v H k=QaA c zs' v' H' k:=by rw [h0,h1,h2]
end
end Go.Ev
end
