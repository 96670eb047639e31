/- The words by which the evaluator is walked through. -/
import Derived.Test.YtkecfadnfnnfaaaGreatDoorEvL
import Derived.Attr
set_option linter.unusedVariables false
set_option linter.unusedSimpArgs false
noncomputable section
namespace Go.Ev
def hd {α:Type}(l:List α):Nat:=l.length
def tg (e:Nat)(es:List (List AV)):List (List AV):=es
def idx {α:Type}(l:List α)(n:Int):Option α:=(atIdx n l.length).bind fun i=>l[i]?
section
variable {α β γ:Type}
end
section
variable (c:Ctx) (rec:Task→Option Res)
theorem QEd {α β:Type}(a:Option α)(f:α→Option β):Qqm a f=a.bind f:=by cases a<;>rfl
theorem Qic {β:Type}(a:Option β)(l:Option (List β)):QBO a l=a.bind fun b=>l.bind fun m=>some (b::m):=by cases a<;>cases l<;>rfl
theorem Qwv (n:Nat)(ops:Array Oper)(o:Oper)(st:St):QbL c rec n ops o st=
  if Qql n o.dst=true then (QaT ops o st.fr).bind fun w=>if w=true then (evOp c rec o st.fr st.H).bind fun p=>some ⟨st.fr.put o.dst p.1,p.2⟩ else some ⟨st.fr.put o.dst (.tup []),st.H⟩ else none:=by
 unfold QbL
 cases Qql n o.dst with
 | false=>rfl
 | true=>
  simp only [if_true]
  cases QaT ops o st.fr with
  | none=>rfl
  | some w=>cases w with
   | false=>rfl
   | true=>
    simp only [Option.bind_some,if_true,evDo,QrD,Fr.QuD]
    cases evOp c rec o st.fr st.H<;>rfl
theorem QCo (n:Nat)(ops:Array Oper)(o:Oper)(l:List Oper)(st:St):Qbs c rec n ops (o::l) st=(QbL c rec n ops o st).bind (Qbs c rec n ops l):=by rw [QeL,QEd]
theorem QzO (f m n id:Nat)(ops:Array Oper)(st:St):QbN c rec f m n id ops false st=(Qbs c rec n ops ops.toList st).bind fun s=>some (.norm,⟨s.fr.only (c.keep f id),s.H⟩):=by
 unfold QbN; simp only [Qap]; show (match Qbs c rec n ops ops.toList st with |none=>none |some st=>_)=_; cases Qbs c rec n ops ops.toList st<;>rfl
theorem QFw (f m n id:Nat)(ops:Array Oper)(st:St):QbN c rec f m n id ops true st=(QaZ c rec m n ops (ops.size+1) (c.plan f id) ⟨st,[]⟩).bind fun s=>some (.norm,⟨s.fr.only (c.keep f id),s.H⟩):=by
 unfold QbN; simp only [Qap]; show (match QaZ c rec m n ops (ops.size+1) (c.plan f id) ⟨st,[]⟩ with |none=>none |some st=>_)=_; cases QaZ c rec m n ops (ops.size+1) (c.plan f id) ⟨st,[]⟩<;>rfl
theorem QxR (m n:Nat)(ops:Array Oper)(k i:Nat)(p:Plan)(t:Tra):QaZ c rec m n ops (k+1) (.take i p) t=
  (ops[i]?).bind fun o=>(QaT ops o t.st.fr).bind fun w=>(QbL c rec n ops o t.st).bind fun st=>QaZ c rec m n ops k p ⟨st,if w=true then QfZ i o t.st++t.rd else t.rd⟩:=by
 simp only [QaZ]
 cases ops[i]? with
 | none=>rfl
 | some o=>
  simp only [Option.bind_some]
  cases QaT ops o t.st.fr with
  | none=>rfl
  | some w=>
   simp only [Option.bind_some]
   cases QbL c rec n ops o t.st with
   | none=>rfl
   | some st=>cases w<;>rfl
theorem QEe (m n:Nat)(ops:Array Oper)(k i:Nat)(w:List Nat)(p:Plan)(t:Tra):QaZ c rec m n ops (k+1) (.fork [(i,w,p)]) t=(QaU c rec n ops i w t).bind fun t=>QaZ c rec m n ops k p t:=by
 simp only [QaZ]; cases QaU c rec n ops i w t<;>rfl
theorem QEf (m n:Nat)(ops:Array Oper)(k i:Nat)(w:List Nat)(p:Plan)(q:Nat×List Nat×Plan)(r:List (Nat×List Nat×Plan))(t:Tra):QaZ c rec m n ops (k+1) (.fork ((i,w,p)::q::r)) t=
  (QaU c rec n ops i w t).bind fun t0=>(QaZ c rec m n ops k p t0).bind fun t1=>t1.canon m fun c1=>if (q::r).all (Qhf c rec m n ops k t c1)=true then some c1 else none:=by
 rw [Qk8]
 cases QaU c rec n ops i w t with
 | none=>rfl
 | some t0=>
  simp only [Option.bind_some]
  cases QaZ c rec m n ops k p t0 with
  | none=>rfl
  | some t1=>
   simp only [Option.bind_some]
   congr 1
   funext c1
   cases (q::r).all (Qhf c rec m n ops k t c1)<;>rfl
def okB:Option Bool→Bool
 | some b=>b
 | none=>false
theorem QzP (m n:Nat)(ops:Array Oper)(k:Nat)(t:Tra)(c1:St)(i:Nat)(w:List Nat)(p:Plan):Qhf c rec m n ops k t c1 (i,w,p)=
  okB ((QaU c rec n ops i w t).bind fun u=>(QaZ c rec m n ops k p u).bind fun t2=>t2.canon m fun c2=>some (Qno c1 c2)):=by
 unfold Qhf
 cases QaU c rec n ops i w t with
 | none=>rfl
 | some u=>
  simp only [Option.bind_some]
  cases QaZ c rec m n ops k p u with
  | none=>rfl
  | some t2=>
   simp only [Option.bind_some]
   cases (t2.canon m fun c2=>some (Qno c1 c2)) with
   | none=>rfl
   | some b=>cases b<;>rfl
theorem QCp (b:Bool):okB (some b)=b:=rfl
theorem QxS (n:Nat)(ops:Array Oper)(i:Nat)(w:List Nat)(t:Tra):QaU c rec n ops i w t=
  (ops[i]?).bind fun o=>(QbL c rec n ops o t.st).bind fun st=>if (t.rd.filter fun q=>w.contains q.1).all (QfY t.st.H st.H)=true then some ⟨st,t.rd.filter fun q=>w.contains q.1⟩ else none:=by
 unfold QaU
 cases ops[i]? with
 | none=>rfl
 | some o=>
  simp only [Option.bind_some]
  cases QbL c rec n ops o t.st with
  | none=>rfl
  | some st=>
   simp only [Option.bind_some]
   cases (t.rd.filter fun q=>w.contains q.1).all (QfY t.st.H st.H)<;>rfl
def seqK (b:St→Option (Ex×St))(p:Ex×St):Option (Ex×St):=match p with
 | (.norm,st)=>b st
 | p=>some p
theorem QCq (p:Bool)(a b:St→Option (Ex×St))(st:St):QqG (.bool p) a b st=if p=true then a st else b st:=by cases p<;>rfl
def QHi (id:Nat)(p:Ex×St):Option (Ex×St):=match p with
 | (.exit k,st)=>if k=id then some (.norm,st) else some (.exit k,st)
 | p=>some p
def QGK {β:Type}(k:Ex→St→Option β):Res→Option β
 | .code e st=>k e st
 | .val _ _=>none
def valK {β:Type}(k:AV→Heap→Option β):Res→Option β
 | .val v H=>k v H
 | .code _ _=>none
theorem QCr (r:Option Res):Qnp r=r.bind (QGK fun e st=>some (e,st)):=by
 unfold Qnp
 cases r with
 | none=>rfl
 | some r=>cases r<;>rfl
theorem QzQ {β:Type}(k:AV→Heap→Option β)(v:AV)(H:Heap):valK k (.val v H)=k v H:=rfl
def QFx (f id:Nat)(s:St)(k:St→Option (Ex×St)):Option (Ex×St):=k s
theorem QzR (f m id:Nat)(st:St)(k:St→Option (Ex×St)):Qjk c f m id st k=if c.pre f id=0 then k st else st.norm c (c.nilz f) (c.pre f id) m fun s=>QFx f id s k:=by
 unfold Qjk
 cases c.pre f id<;>rfl
def finP (rs:List ResultVar)(p:Ex×St):Option Res:=match p with
 | (.exit _,_)=>none
 | (_,st)=>(mapM' (QbA c st) rs).bind fun vs=>(Qft st.H (match vs with |[v]=>v |vs=>.tup vs)).bind fun v=>some (.val v [])
theorem QtB (F:Func)(st:St):Qe7 c F st=(mapM' (QbA c st) F.results.toList).bind fun vs=>some (match vs with |[v]=>v |vs=>.tup vs):=by
 unfold Qe7
 cases mapM' (QbA c st) F.results.toList with
 | none=>rfl
 | some vs=>cases vs with
  | nil=>rfl
  | cons v vs=>cases vs<;>rfl
theorem QGL (f:FuncId)(args:List AV)(F:Func)(b:Code)(hF:c.fn f=some F)(hb:F.body=some b)(hn:Nat.ble args.length F.ntmps=true):
  QaV c rec (.pfn f args)=(Qar c rec f 0 F.ntmps 0 b ⟨QgM 0 args,[]⟩).bind (finP c F.results.toList):=by
 simp only [QaV,hF,hb,hn,Qap]
 cases Qar c rec f 0 F.ntmps 0 b ⟨QgM 0 args,[]⟩ with
 | none=>rfl
 | some p=>
  obtain ⟨e,st⟩:=p
  cases e with
  | exit k=>rfl
  | _=>
   simp only [Option.bind_some,finP,QtB]
   cases mapM' (QbA c st) F.results.toList with
   | none=>rfl
   | some v=>
    simp only [Option.bind_some]
    cases Qft st.H _<;>rfl
def finF (rs:List ResultVar)(m:Nat)(p:Ex×St):Option Res:=match p with
 | (.exit _,_)=>none
 | (_,st)=>(mapM' (QbA c st) rs).bind fun vs=>({ fr:=[(0,match vs with |[v]=>v |vs=>.tup vs)],H:=st.H }:St).canon m fun st1=>some (.val (st1.fr.get 0) st1.H)
theorem s_fn (f:FuncId)(args:List AV)(H:Heap)(F:Func)(b:Code)(hF:c.fn f=some F)(hb:F.body=some b)(hn:Nat.ble args.length F.ntmps=true):
  QaV c rec (.fn f args H)=(mvIf c f args H fun H1=>Qar c rec f H.length F.ntmps 0 b ⟨QgM 0 args,H1⟩).bind (finF c F.results.toList H.length):=by
 simp only [QaV,hF,hb,hn,Qap,fLen,Qhd,QrD]
 cases (mvIf c f args H fun H1=>Qar c rec f H.length F.ntmps 0 b ⟨QgM 0 args,H1⟩) with
 | none=>rfl
 | some p=>
  obtain ⟨e,st⟩:=p
  cases e with
  | exit k=>rfl
  | _=>
   simp only [Option.bind_some,finF,QtB]
   cases mapM' (QbA c st) F.results.toList<;>rfl
def QCs (f id m:Nat)(b:Code)(p:Ex×St):Option Res:=match p with
 | (.norm,st)=>st.norm c (c.nilz f) (c.live f id) m fun st=>rec (.loop f id m b st)
 | (e,st)=>some (.code e st)
theorem QxT (f id m:Nat)(b:Code)(st:St):QCs c rec f id m b (.norm,st)=st.norm c (c.nilz f) (c.live f id) m fun st=>rec (.loop f id m b st):=rfl
theorem QxU (f id m:Nat)(b:Code)(k:Nat)(st:St):QCs c rec f id m b (.exit k,st)=some (.code (.exit k) st):=rfl
theorem QzS (f id m:Nat)(b:Code)(st:St):QCs c rec f id m b (.ret,st)=some (.code .ret st):=rfl
theorem QFy (f id m:Nat)(b:Code)(st:St)(F:Func)(hF:c.fn f=some F):QaV c rec (.loop f id m b st)=(Qar c rec f m F.ntmps id b st).bind (QCs c rec f id m b):=by
 simp only [QaV,hF]
 cases Qar c rec f m F.ntmps id b st with
 | none=>rfl
 | some p=>
  obtain ⟨e,st⟩:=p
  cases e<;>rfl
end
section
variable {c:Ctx}
end
end Go.Ev
end
noncomputable section
namespace Go.Ev
section
variable (c:Ctx) (rec:Task→Option Res)
theorem QFz {β:Type}(nz:Nat→List Nat)(mask m:Nat)(st:St)(k:St→Option β):st.norm c nz mask m k=QkH c nz (st.fr.only mask) st.H fun fr H=>St.canon m { fr:=fr,H:=H } k:=by
 unfold St.norm; rw [Qap]
theorem QxV {β:Type}(nz:Nat→List Nat)(t:Nat)(v:AV)(r:Fr)(H:Heap)(k:Fr→Heap→β):QkH c nz ((t,v)::r) H k=Qnk c (nz t) v H fun v H=>QkH c nz r H fun r H=>k ((t,v)::r) H:=rfl
theorem QzT {β:Type}(z:Nat)(zs:List Nat)(cs:List AV)(H:Heap)(k:AV→Heap→β):Qnk c (z::zs) (.agg cs) H k=Qau c (z::zs) cs H fun cs H=>k (.agg cs) H:=rfl
theorem Qva {β:Type}(e:Nat)(zs:List Nat)(vs:List AV)(H:Heap)(k:List AV→Heap→β):Qau c ((e+1)::zs) (.nils::vs) H k=
  Qau c zs vs (H++[.rows (c.ty e).size true (tg e [])]) fun vs H'=>k (.sl H.length 0 (hd (tg e []))::vs) H':=by
 simp only [Qau,Qhd,Qap]; rfl
theorem QxW {β:Type}(e:Nat)(zs:List Nat)(vs:List AV)(H:Heap)(k:List AV→Heap→β):Qau c ((e+1)::zs) (.emp::vs) H k=
  Qau c zs vs (H++[.rows (c.ty e).size true (tg e [])]) fun vs H'=>k (.sl H.length 0 (hd (tg e []))::vs) H':=by
 simp only [Qau,Qhd,Qap]; rfl
theorem QzU (f:FuncId)(args:List AV)(H:Heap):Qh2 rec f args H=
  reach 0 args H fun seen=>Qou (fun b=>QaP b seen 0) H seen fun H0=>(rec (.fn f (args.map (ren fun b=>QaP b seen 0)) H0)).bind (valK fun v H'=>
   Qh1 (Qc5 seen seen.length H.length) seen H' H fun rest H1=>Qow (Qc5 seen seen.length H.length) rest fun new=>some (ren (Qc5 seen seen.length H.length) v,H1++new)):=by
 unfold Qh2
 congr 1
 funext seen
 simp only [Qv5,QdP]
 cases rec (.fn f (args.map (ren fun b=>QaP b seen 0)) (seen.map fun b=>(QbZ H b).rn fun b=>QaP b seen 0)) with
 | none=>rfl
 | some r=>
  cases r with
  | code=>rfl
  | val v H'=>simp only [Option.bind_some,valK,fLen,Qhd,QrD,Qap]
theorem Qq0 (f:FuncId)(args:List AV)(H:Heap):QgP rec f args H=
  (mapM' (Qah H 12) args).bind fun fs=>(rec (.pfn f fs)).bind (valK fun v _=>if QgL 8 v=true then some (v,H) else (Qbr (args.flatMap (frozenIn 12)) H).bind fun H=>some (v,H)):=by
 unfold QgP
 cases mapM' (Qah H 12) args with
 | none=>rfl
 | some fs=>
  simp only [Option.bind_some]
  cases rec (.pfn f fs) with
  | none=>rfl
  | some r=>
   cases r with
   | code=>rfl
   | val v H'=>
    simp only [Option.bind_some,valK]
    cases QgL 8 v with
    | true=>rfl
    | false=>
     simp only
     cases Qbr (args.flatMap (frozenIn 12)) H<;>rfl
theorem Qvb (f:FuncId)(args:List AV)(H:Heap)(e:TypeId)(h:c.prim f=.clone e):QiJ c rec f args H=Qjh c e args H:=by unfold QiJ; rw [h]
theorem Qsb (f:FuncId)(args:List AV)(H:Heap)(h:c.prim f=.no):QiJ c rec f args H=if (c.raw f||!(args.all fun v=>(Qah H 12 v).isSome))=true then Qh2 rec f args H else QgP rec f args H:=by
 unfold QiJ; rw [h]
 cases (c.raw f||!(args.all fun v=>(Qah H 12 v).isSome))<;>rfl
theorem QFA (H:Heap)(b:Nat):shut H b=(H[b]?).bind fun k=>match k with
  | .rows z true es=>some (H.set b (.ro z es))
  | .ro _ _=>some H
  | _=>none:=by
 unfold shut
 cases H[b]? with
 | none=>rfl
 | some k=>cases k with
  | rows z p es=>cases p<;>simp [Qap]
  | _=>rfl
theorem QzV (b:Nat)(l:List Nat)(H:Heap):Qbr (b::l) H=(shut H b).bind (Qbr l):=by
 simp only [Qbr]; cases shut H b<;>rfl
theorem Qq1 (H:Heap)(n b off len:Nat):Qah H (n+1) (.sl b off len)=(H[b]?).bind fun k=>match k with
  | .rows _ true es=>QcI es off len fun es=>some (.lst es)
  | .ro _ es=>QcI es off len fun es=>some (.lst es)
  | _=>none:=by
 simp only [Qah]
 cases H[b]? with
 | none=>rfl
 | some k=>cases k with
  | rows z p es=>cases p<;>rfl
  | _=>rfl
theorem Qpe (H:Heap)(n:Nat)(cs:List AV):Qah H (n+1) (.agg cs)=(mapM' (Qah H n) cs).bind fun cs=>some (.agg cs):=by
 simp only [Qah]; cases mapM' (Qah H n) cs<;>rfl
theorem QzW (H:Heap)(v:AV):Qd4 H v=(Qah H 12 v).bind fun x=>(Qbr (frozenIn 12 v) H).bind fun H=>some (x,H):=by
 unfold Qd4 freeze
 cases Qah H 12 v with
 | none=>rfl
 | some x=>simp only [Option.bind_some]; cases Qbr (frozenIn 12 v) H<;>rfl
theorem QxX (H:Heap)(vs:List AV):Qft H (.tup vs)=(mapM' (Qah H 12) vs).bind fun vs=>some (.tup vs):=by
 simp only [Qft]
 show (match mapM' (Qah H 12) vs with |some vs=>some (AV.tup vs) |none=>none)=_
 cases mapM' (Qah H 12) vs<;>rfl
theorem QlN {α β:Type}(es:List α)(off len:Nat)(k:List α→Option β):QcI es off len k=if off+len≤es.length then k ((es.drop off).take len) else none:=by
 unfold QcI
 rw [Qf3]
 by_cases h:off+len≤es.length<;>simp [h,Qap]
theorem Qww (e:TypeId)(H:Heap)(n:Int)(b off len:Nat):Qh4 c e H n (.sl b off len)=(atIdx n len).bind fun i=>if QfW H b (c.ty e).size=true then some (.ptr b (off+i) 0) else none:=by
 simp only [Qh4]
 cases atIdx n len with
 | none=>rfl
 | some i=>simp only [Option.bind_some]; cases QfW H b (c.ty e).size<;>rfl
theorem QzX (t:TypeId)(H:Heap)(b i o:Nat):QgO c t H (.ptr b i o)=(rowAt H b i).bind fun r=>pack (c.ty t) (r.drop o):=by
 simp only [QgO,rowAt]
 cases H[b]? with
 | none=>rfl
 | some k=>cases k with
  | rows z p es=>simp only; cases es[i]?<;>rfl
  | ro z es=>simp only; cases es[i]?<;>rfl
  | _=>rfl
theorem QEg (H:Heap)(b i:Nat):rowAt H b i=(H[b]?).bind fun k=>match k with
  | .rows _ _ es=>es[i]?
  | .ro _ es=>es[i]?
  | _=>none:=by
 unfold rowAt
 cases H[b]? with
 | none=>rfl
 | some k=>cases k<;>rfl
theorem QtC (t:TypeId)(b i o:Nat)(v:List AV)(H:Heap):Qhe c t b i o v H=(H[b]?).bind fun k=>match k with
  | .rows z pu es=>(es[i]?).bind fun r=>if (Nat.beq v.length (c.ty t).size&&Nat.ble (o+v.length) r.length&&v.all AV.Qav)=true then (if (c.ty t).known=true then some (H.set b (.rows z pu (es.set i (setFrom r o v)))) else none) else none
  | _=>none:=by
 unfold Qhe
 cases H[b]? with
 | none=>rfl
 | some k=>cases k with
  | rows z pu es=>
   simp only [Option.bind_some]
   cases es[i]? with
   | none=>rfl
   | some r=>
    simp only [Option.bind_some,Qap]
    cases (Nat.beq v.length (c.ty t).size&&Nat.ble (o+v.length) r.length&&v.all AV.Qav) with
    | false=>rfl
    | true=>simp only [if_true]; cases (c.ty t).known<;>rfl
  | _=>rfl
theorem QzY (t:TypeId)(H:Heap)(b i o:Nat)(v:AV):Qjg c t H (.ptr b i o) v=(H[b]?).bind fun k=>match k with
  | .rows _ true _=>(Qd4 H v).bind fun p=>Qhe c t b i o p.1.cells p.2
  | .rows _ false _=>Qau c (c.ty t).zs v.cells H fun v H=>Qhe c t b i o v H
  | _=>none:=by
 simp only [Qjg]
 cases H[b]? with
 | none=>rfl
 | some k=>cases k with
  | rows z p es=>cases p with
   | true=>simp only [Option.bind_some]; cases Qd4 H v<;>rfl
   | false=>rfl
  | _=>rfl
theorem QzZ (t:TypeId)(a v:AV)(H:Heap):QrG c t a v H=(Qjg c t H a v).bind fun H=>some (.tup [],H):=by
 unfold QrG; cases Qjg c t H a v<;>rfl
theorem QCt (H:Heap)(b off len:Nat):rowsOf H (.sl b off len)=(H[b]?).bind fun k=>match k with
  | .rows _ _ es=>QcI es off len some
  | .ro _ es=>QcI es off len some
  | _=>none:=by
 simp only [rowsOf]
 cases H[b]? with
 | none=>rfl
 | some k=>cases k<;>rfl
theorem QCu (H:Heap)(b off len:Nat):Qbp (.sl b off len) H=okB ((H[b]?).bind fun k=>match k with | .rows _ p _=>some p | .ro _ _=>some true |_=>some false):=by
 simp only [Qbp]
 cases H[b]? with
 | none=>rfl
 | some k=>cases k<;>rfl
def Qz0 (e:TypeId)(H:Heap)(new:List (List AV)):AV→Option (AV×Heap)
 | .nils=>Qbi c e H new
 | .emp=>Qbi c e H new
 | .sl b o len=>if o=0 then (H[b]?).bind fun k=>match k with
  | .rows z true es=>if Nat.beq z (c.ty e).size=true∧(len+new.length) * (c.ty e).bytes≤35184372088832∧len≤es.length∧1≤(c.ty e).bytes then some (.sl H.length 0 (hd (es.take len++new)),H.set b .dead++[.rows z true (es.take len++new)]) else none
  | _=>none else none
 | _=>none
theorem QCv (t tx:TypeId)(H:Heap)(s x:AV):Qd6 c t tx H s x=if (elemOf (c.ty tx)).isSome=true then (elemOf (c.ty t)).bind fun e=>(rowsOf H x).bind fun new=>
  if Qbp x H=true then (if (new.all fun r=>Nat.beq r.length (c.ty e).size)=true then Qz0 c e H new s else none) else none else none:=by
 unfold Qd6
 cases (elemOf (c.ty tx)).isSome with
 | false=>rfl
 | true=>
  simp only [if_true]
  cases elemOf (c.ty t) with
  | none=>rfl
  | some e=>
   simp only [Option.bind_some]
   cases rowsOf H x with
   | none=>rfl
   | some new=>
    simp only [Option.bind_some]
    cases Qbp x H with
    | false=>rfl
    | true=>
     simp only [if_true]
     cases (new.all fun r=>Nat.beq r.length (c.ty e).size) with
     | false=>rfl
     | true=>
      simp only [if_true]
      cases s with
      | sl b o len=>
       cases o with
       | succ o=>rfl
       | zero=>
        simp only [Qz0,if_true]
        cases H[b]? with
        | none=>rfl
        | some k=>cases k with
         | rows z p es=>cases p with
          | false=>rfl
          | true=>
           simp only [Option.bind_some,Qap,Qf3]
           by_cases h1:Nat.beq z (c.ty e).size=true<;>by_cases h2:(len+new.length) * (c.ty e).bytes≤35184372088832<;>by_cases h3:len≤es.length<;>by_cases h4:1≤(c.ty e).bytes<;>simp [h1,h2,h3,h4,hd]
         | _=>rfl
      | _=>rfl
theorem Qvc (e:TypeId)(H:Heap)(new:List (List AV)):Qbi c e H new=if new.length * (c.ty e).bytes≤35184372088832∧1≤(c.ty e).bytes then some (.sl H.length 0 (hd new),H++[.rows (c.ty e).size true new]) else none:=by
 unfold Qbi
 simp only [Qap,Qf3]
 by_cases h1:new.length * (c.ty e).bytes≤35184372088832<;>by_cases h2:1≤(c.ty e).bytes<;>simp [h1,h2,hd]
theorem QEh (e:TypeId)(x:AV)(H:Heap):Qjh c e [x] H=(rowsOf H x).bind fun new=>if Qbp x H=true then (if (new.all fun r=>Nat.beq r.length (c.ty e).size)=true then Qbi c e H new else none) else none:=by
 simp only [Qjh]
 cases rowsOf H x with
 | none=>rfl
 | some new=>
  simp only [Option.bind_some]
  cases Qbp x H with
  | false=>rfl
  | true=>
   simp only [if_true]
   cases (new.all fun r=>Nat.beq r.length (c.ty e).size)<;>rfl
theorem QxY (size:Nat)(rows:List (List AV))(i:Nat)(v:AV)(rest:List (Nat×AV))(H:Heap):Qd5 size rows ((i,v)::rest) H=(Qd4 H v).bind fun p=>
  if (Nat.beq p.1.cells.length size&&Nat.blt i rows.length&&p.1.cells.all AV.Qav)=true then Qd5 size (rows.set i p.1.cells) rest p.2 else none:=by
 simp only [Qd5]
 cases Qd4 H v with
 | none=>rfl
 | some p=>
  simp only [Option.bind_some,Qap]
  cases (Nat.beq p.1.cells.length size&&Nat.blt i rows.length&&p.1.cells.all AV.Qav)<;>rfl
theorem QtD (i:TI)(len:Nat)(parts:List (Nat×AV))(H:Heap):QdN c i len parts H=(elemOf i).bind fun e=>
  if (Nat.ble (len * (c.ty e).size) 16777216&&(c.ty e).zero.all AV.Qav)=true then (Qd5 (c.ty e).size (List.replicate len ((c.ty e).zero.map lstZ)) parts H).bind fun p=>some (.sl p.2.length 0 (if p.1.length=len then hd (tg e p.1) else len),p.2++[.rows (c.ty e).size true (tg e p.1)]) else none:=by
 unfold QdN
 cases elemOf i with
 | none=>rfl
 | some e=>
  simp only [Option.bind_some]
  cases (Nat.ble (len * (c.ty e).size) 16777216&&(c.ty e).zero.all AV.Qav) with
  | false=>rfl
  | true=>
   simp only [if_true]
   cases Qd5 (c.ty e).size (List.replicate len ((c.ty e).zero.map lstZ)) parts H with
   | none=>rfl
   | some p=>
    simp only [Option.bind_some,Qap]
    have:(if p.1.length=len then hd (tg e p.1) else len)=len:=by split<;>simp_all [hd,tg]
    rw [this]; rfl
theorem QCw {α:Type}(a b c d e:Bool)(x:Option α):(match a&&b&&c&&d&&e with |true=>x |false=>none)=if a=true then if b=true then if c=true then if d=true then if e=true then x else none else none else none else none else none:=by
 cases a<;>cases b<;>cases c<;>cases d<;>cases e<;>rfl
theorem Qvd (i:TI)(n m:Int)(H:Heap):QeK c i (.int .i64 n) (.int .i64 m) H=(elemOf i).bind fun e=>
  if 0≤n then if n=m then if n.toNat * (c.ty e).bytes≤140737488355328 then if 1≤(c.ty e).bytes then if (c.ty e).zero.all AV.Qav=true then
   some (.sl H.length 0 (hd (tg e (List.replicate n.toNat ((c.ty e).zero.map lstZ)))),H++[.rows (c.ty e).size true (tg e (List.replicate n.toNat ((c.ty e).zero.map lstZ)))]) else none else none else none else none else none:=by
 unfold QeK
 cases elemOf i with
 | none=>rfl
 | some e=>
  simp only [Option.bind_some,Qap,Qf3,Qfy,Qf4]
  refine (QCw _ _ _ _ _ _).trans ?_
  simp only [decide_eq_true_eq,hd,tg,List.length_replicate]
def bnd (n:Int)(most:Nat):Option Nat:=if 0≤n∧n≤(most:Int) then some n.toNat else none
theorem QCx (k:IntKind)(n:Int)(d most:Nat):bound (some (.int k n)) d most=bnd n most:=by
 simp only [bound,bnd,Qfy]
 by_cases h1:0≤n<;>by_cases h2:n≤(most:Int)<;>simp [h1,h2]
theorem QxZ (t:TypeId)(H:Heap)(s:List UInt8)(lo hi:Option AV)(ht:(c.ty t).d=.str):QdC c t H (.str s) lo hi=(bound hi (hd s) (hd s)).bind fun h=>(bound lo 0 h).bind fun l=>some (.str ((s.drop l).take (h - l))):=by
 simp only [QdC,ht,hd,Qap]
 cases bound hi s.length s.length with
 | none=>rfl
 | some h=>simp only [Option.bind_some]; cases bound lo 0 h<;>rfl
theorem Qx0 (t:TypeId)(H:Heap)(es:List (List AV))(lo hi:Option AV):QdC c t H (.lst es) lo hi=(elemOf (c.ty t)).bind fun e=>(bound hi (hd es) (hd es)).bind fun h=>(bound lo 0 h).bind fun l=>
  if (es.all fun r=>Nat.beq r.length (c.ty e).size)=true then some (.lst ((es.drop l).take (h - l))) else none:=by
 simp only [QdC,hd,Qap]
 cases elemOf (c.ty t) with
 | none=>rfl
 | some e=>
  simp only [Option.bind_some]
  cases bound hi es.length es.length with
  | none=>rfl
  | some h=>
   simp only [Option.bind_some]
   cases bound lo 0 h with
   | none=>rfl
   | some l=>simp only [Option.bind_some]; cases (es.all fun r=>Nat.beq r.length (c.ty e).size)<;>rfl
theorem Qz1 (t:TypeId)(H:Heap)(b off len:Nat)(lo hi:Option AV):QdC c t H (.sl b off len) lo hi=(elemOf (c.ty t)).bind fun e=>(bound hi len len).bind fun h=>(bound lo 0 h).bind fun l=>
  if QfW H b (c.ty e).size=true then some (.sl b (off+l) (h - l)) else none:=by
 simp only [QdC]
 cases elemOf (c.ty t) with
 | none=>rfl
 | some e=>
  simp only [Option.bind_some]
  cases bound hi len len with
  | none=>rfl
  | some h=>
   simp only [Option.bind_some]
   cases bound lo 0 h with
   | none=>rfl
   | some l=>simp only [Option.bind_some]; cases QfW H b (c.ty e).size<;>rfl
theorem Qve (t:TypeId)(H:Heap)(lo hi:Option AV):QdC c t H .nils lo hi=(elemOf (c.ty t)).bind fun _=>(bound hi 0 0).bind fun _=>(bound lo 0 0).bind fun _=>some .nils:=by
 simp only [QdC]
 cases elemOf (c.ty t) with
 | none=>rfl
 | some e=>
  simp only [Option.bind_some]
  cases bound hi 0 0 with
  | none=>rfl
  | some h=>simp only [Option.bind_some]; cases bound lo 0 0<;>rfl
theorem QFB (t:TypeId)(H:Heap)(b off len:Nat)(x:AV):Qnl c t H (.sl b off len) x=(elemOf (c.ty t)).bind fun e=>(rowsOf H x).bind fun src=>(H[b]?).bind fun k=>match k with
  | .rows z true es=>if Qbp x H=true then (if (src.all fun r=>Nat.beq r.length z)=true∧Nat.beq z (c.ty e).size=true∧off+len≤es.length then
    some (.int .i64 (hd (src.take len):Int),H.set b (.rows z true (es.take off++src.take len++es.drop (off+hd (src.take len))))) else none) else none
  | _=>none:=by
 simp only [Qnl]
 cases elemOf (c.ty t) with
 | none=>rfl
 | some e=>
  simp only [Option.bind_some]
  cases rowsOf H x with
  | none=>rfl
  | some src=>
   simp only [Option.bind_some]
   cases H[b]? with
   | none=>rfl
   | some k=>cases k with
    | rows z p es=>cases p with
     | false=>rfl
     | true=>
      simp only [Option.bind_some]
      cases Qbp x H with
      | false=>rfl
      | true=>
       simp only [if_true,Qap,Qf3,hd]
       by_cases h1:(src.all fun r=>Nat.beq r.length z)=true<;>by_cases h2:Nat.beq z (c.ty e).size=true<;>by_cases h3:off+len≤es.length<;>simp [h1,h2,h3]
    | _=>rfl
theorem QEi (i:TI)(H:Heap)(x:AV):Qs3 c i H x=(QkI c i H x).bind fun n=>some (.int .i64 n,H):=by
 unfold Qs3; cases QkI c i H x<;>rfl
theorem QGM (k:IntKind)(x y:Int):QfT .quo k x y=if y=0 then none else some (.int k (wr k (x.tdiv y))):=by
 simp only [QfT,Qf4]; by_cases h:y=0<;>simp [h]
theorem QGN (k:IntKind)(x y:Int):QfT .rem k x y=if y=0 then none else some (.int k (x.tmod y)):=by
 simp only [QfT,Qf4]; by_cases h:y=0<;>simp [h]
theorem QGO (i:TI)(cst:Bool)(k j:IntKind)(a b:Int):binop c i cst .shl (.int k a) (.int j b)=if b<0 then none else some (.int k (wr k (a * 2 ^ (min b.toNat k.bits)))):=by
 simp only [binop,Qfx]; by_cases h:b<0<;>simp [h]
theorem QGP (i:TI)(cst:Bool)(k j:IntKind)(a b:Int):binop c i cst .shr (.int k a) (.int j b)=if b<0 then none else some (.int k (a.fdiv (2 ^ (min b.toNat k.bits)))):=by
 simp only [binop,Qfx]; by_cases h:b<0<;>simp [h]
theorem QCy (x y:List UInt8):QiI .add x y=if hd x+hd y≤9223372036854775807 then some (.str (x++y)) else none:=by
 simp only [QiI,Qf3,hd]; by_cases h:x.length+y.length≤9223372036854775807<;>simp [h]
theorem Qq2 (m:Nat)(e:TypeId)(cs:List AV)(n:Int):Qn8 c m e cs n=(atIdx n m).bind fun i=>pack (c.ty e) (cs.drop (i * (c.ty e).size)):=by
 simp only [Qn8]; cases atIdx n m<;>rfl
end
end Go.Ev
end
noncomputable section
namespace Go.Ev
theorem QGQ (m n:Nat):tb m n=decide ((m >>> n) &&& 1=1):=by
 unfold tb
 rw [Qy6]
 rfl
theorem Qeb {k:Nat}(h:k<4611686018427387904):wr .i64 ((k:Int)+1)=((k+1:Nat):Int):=by
 rw [Qs8,IntKind.wrap_i64]; omega
end Go.Ev
end
noncomputable section
namespace Go.Ev
section
variable {α β γ:Type}
inductive Tick where
 | mk
theorem Tick.one (a b:Tick):a=b:=by cases a; cases b; rfl
def tick:Tick:=.mk
def tock:Tick:=.mk
theorem QFD:tick=tock:=Tick.one _ _
theorem QHj {tk:Tick}(ht:tick=tk){o o':Option α}(h:o=o')(f:α→Option β):o.bind f=o'.bind f:=by rw [h]
theorem QHk {tk:Tick}(ht:tick=tk){o o':Option α}(h:o=o')(f:α→β):o.map f=o'.map f:=by rw [h]
end
section
variable (c:Ctx) (rec:Task→Option Res)
def renF (σ:Nat→Nat):Fr→Fr
 | []=>[]
 | p::r=>(p.1,renN σ 8 p.2)::renF σ r
theorem Qq6 (p:List AV→Option AV)(args:List AV)(H:Heap):Qh3 p args H=
  (mapM' (Qah H 12) args).bind fun fs=>(p fs).bind fun v=>if QgL 8 v=true then some (v,H) else (Qbr (args.flatMap (frozenIn 12)) H).bind fun H=>some (v,H):=by
 unfold Qh3
 cases mapM' (Qah H 12) args with
 | none=>rfl
 | some fs=>
  simp only [Option.bind_some]
  cases p fs with
  | none=>rfl
  | some v=>
   simp only [Option.bind_some]
   cases QgL 8 v with
   | true=>rfl
   | false=>simp only; cases Qbr (args.flatMap (frozenIn 12)) H<;>rfl
end
def QFE:Code→Option Nat
 | .region id _ _=>some id
 | .seq a _=>QFE a
 | _=>none
section
variable (c:Ctx) (rec:Task→Option Res)
def after (f m n blk:Nat):Code→St→Option (Ex×St)
 | .region id ops d,s=>QbN c rec f m n id ops d s
 | .seq a b,s=>(after f m n blk a s).bind (seqK (Qar c rec f m n blk b))
 | co,s=>Qar c rec f m n blk co s
end
section
variable {β:Type}
theorem QGR {tk:Tick}(ht:tick=tk)(m:Nat){vs vs':List AV}{H H':Heap}(h1:vs=vs')(h2:H=H')(k:List Nat→Option β):reach m vs H k=reach m vs' H' k:=by rw [h1,h2]
theorem QEq {tk:Tick}(ht:tick=tk)(c:Ctx){zs zs':List Nat}{v v':List AV}{H H':Heap}(h0:zs=zs')(h1:v=v')(h2:H=H')(k:List AV→Heap→β):Qau c zs v H k=Qau c zs' v' H' k:=by rw [h0,h1,h2]
end
end Go.Ev
end
