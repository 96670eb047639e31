/- The words by which the evaluator is walked through. -/
import Derived.Test.YtkecfadnfnnfaaaGreatDoorEvL
import Derived.Attr
set_option linter.unusedVariables false
set_option linter.unusedSimpArgs false
noncomputable section
namespace Go.Ev
def hd {α:Type}(l:List α):Nat:=l.length
def tg (e:Nat)(es:List (List AV)):List (List AV):=es
def idx {α:Type}(l:List α)(n:Int):Option α:=(atIdx n l.length).bind fun i=>l[i]?
section
variable {α β γ:Type}
end
section
variable (c:Ctx) (rec:Task→Option Res)
theorem QEf {α β:Type}(a:Option α)(f:α→Option β):Qrv a f=a.bind f:=by cases a<;>rfl
theorem Qi5 {β:Type}(a:Option β)(l:Option (List β)):QB1 a l=a.bind fun b=>l.bind fun m=>some (b::m):=by cases a<;>cases l<;>rfl
theorem Qxv (n:Nat)(ops:Array Oper)(o:Oper)(st:St):QbQ c rec n ops o st=
  if Qru n o.dst=true then (QaV ops o st.fr).bind fun w=>if w=true then (evOp c rec o st.fr st.H).bind fun p=>some ⟨st.fr.put o.dst p.1,p.2⟩ else some ⟨st.fr.put o.dst (.tup []),st.H⟩ else none:=by
 unfold QbQ
 cases Qru n o.dst with
 | false=>rfl
 | true=>
  simp only [if_true]
  cases QaV ops o st.fr with
  | none=>rfl
  | some w=>cases w with
   | false=>rfl
   | true=>
    simp only [Option.bind_some,if_true,evDo,QsP,Fr.Qvy]
    cases evOp c rec o st.fr st.H<;>rfl
theorem QCB (n:Nat)(ops:Array Oper)(o:Oper)(l:List Oper)(st:St):Qbu c rec n ops (o::l) st=(QbQ c rec n ops o st).bind (Qbu c rec n ops l):=by rw [Qfh,QEf]
theorem QAd (f m n id:Nat)(ops:Array Oper)(st:St):QbV c rec f m n id ops false st=(Qbu c rec n ops ops.toList st).bind fun s=>some (.norm,⟨s.fr.only (c.keep f id),s.H⟩):=by
 unfold QbV; simp only [Qat]; show (match Qbu c rec n ops ops.toList st with |none=>none |some st=>_)=_; cases Qbu c rec n ops ops.toList st<;>rfl
theorem QFv (f m n id:Nat)(ops:Array Oper)(st:St):QbV c rec f m n id ops true st=(Qa4 c rec m n ops (ops.size+1) (c.plan f id) ⟨st,[]⟩).bind fun s=>some (.norm,⟨s.fr.only (c.keep f id),s.H⟩):=by
 unfold QbV; simp only [Qat]; show (match Qa4 c rec m n ops (ops.size+1) (c.plan f id) ⟨st,[]⟩ with |none=>none |some st=>_)=_; cases Qa4 c rec m n ops (ops.size+1) (c.plan f id) ⟨st,[]⟩<;>rfl
theorem Qyx (m n:Nat)(ops:Array Oper)(k i:Nat)(p:Plan)(t:Tra):Qa4 c rec m n ops (k+1) (.take i p) t=
  (ops[i]?).bind fun o=>(QaV ops o t.st.fr).bind fun w=>(QbQ c rec n ops o t.st).bind fun st=>Qa4 c rec m n ops k p ⟨st,if w=true then QgC i o t.st++t.rd else t.rd⟩:=by
 simp only [Qa4]
 cases ops[i]? with
 | none=>rfl
 | some o=>
  simp only [Option.bind_some]
  cases QaV ops o t.st.fr with
  | none=>rfl
  | some w=>
   simp only [Option.bind_some]
   cases QbQ c rec n ops o t.st with
   | none=>rfl
   | some st=>cases w<;>rfl
theorem QEg (m n:Nat)(ops:Array Oper)(k i:Nat)(w:List Nat)(p:Plan)(t:Tra):Qa4 c rec m n ops (k+1) (.fork [(i,w,p)]) t=(QaW c rec n ops i w t).bind fun t=>Qa4 c rec m n ops k p t:=by
 simp only [Qa4]; cases QaW c rec n ops i w t<;>rfl
theorem QEh (m n:Nat)(ops:Array Oper)(k i:Nat)(w:List Nat)(p:Plan)(q:Nat×List Nat×Plan)(r:List (Nat×List Nat×Plan))(t:Tra):Qa4 c rec m n ops (k+1) (.fork ((i,w,p)::q::r)) t=
  (QaW c rec n ops i w t).bind fun t0=>(Qa4 c rec m n ops k p t0).bind fun t1=>t1.canon m fun c1=>if (q::r).all (Qh1 c rec m n ops k t c1)=true then some c1 else none:=by
 rw [Ql2]
 cases QaW c rec n ops i w t with
 | none=>rfl
 | some t0=>
  simp only [Option.bind_some]
  cases Qa4 c rec m n ops k p t0 with
  | none=>rfl
  | some t1=>
   simp only [Option.bind_some]
   congr 1
   funext c1
   cases (q::r).all (Qh1 c rec m n ops k t c1)<;>rfl
def okB:Option Bool→Bool
 | some b=>b
 | none=>false
theorem QAe (m n:Nat)(ops:Array Oper)(k:Nat)(t:Tra)(c1:St)(i:Nat)(w:List Nat)(p:Plan):Qh1 c rec m n ops k t c1 (i,w,p)=
  okB ((QaW c rec n ops i w t).bind fun u=>(Qa4 c rec m n ops k p u).bind fun t2=>t2.canon m fun c2=>some (Qox c1 c2)):=by
 unfold Qh1
 cases QaW c rec n ops i w t with
 | none=>rfl
 | some u=>
  simp only [Option.bind_some]
  cases Qa4 c rec m n ops k p u with
  | none=>rfl
  | some t2=>
   simp only [Option.bind_some]
   cases (t2.canon m fun c2=>some (Qox c1 c2)) with
   | none=>rfl
   | some b=>cases b<;>rfl
theorem QCC (b:Bool):okB (some b)=b:=rfl
theorem Qyy (n:Nat)(ops:Array Oper)(i:Nat)(w:List Nat)(t:Tra):QaW c rec n ops i w t=
  (ops[i]?).bind fun o=>(QbQ c rec n ops o t.st).bind fun st=>if (t.rd.filter fun q=>w.contains q.1).all (QgB t.st.H st.H)=true then some ⟨st,t.rd.filter fun q=>w.contains q.1⟩ else none:=by
 unfold QaW
 cases ops[i]? with
 | none=>rfl
 | some o=>
  simp only [Option.bind_some]
  cases QbQ c rec n ops o t.st with
  | none=>rfl
  | some st=>
   simp only [Option.bind_some]
   cases (t.rd.filter fun q=>w.contains q.1).all (QgB t.st.H st.H)<;>rfl
def seqK (b:St→Option (Ex×St))(p:Ex×St):Option (Ex×St):=match p with
 | (.norm,st)=>b st
 | p=>some p
theorem QCD (p:Bool)(a b:St→Option (Ex×St))(st:St):QrV (.bool p) a b st=if p=true then a st else b st:=by cases p<;>rfl
def QHe (id:Nat)(p:Ex×St):Option (Ex×St):=match p with
 | (.exit k,st)=>if k=id then some (.norm,st) else some (.exit k,st)
 | p=>some p
def QGI {β:Type}(k:Ex→St→Option β):Res→Option β
 | .code e st=>k e st
 | .val _ _=>none
def valK {β:Type}(k:AV→Heap→Option β):Res→Option β
 | .val v H=>k v H
 | .code _ _=>none
theorem QCE (r:Option Res):Qoy r=r.bind (QGI fun e st=>some (e,st)):=by
 unfold Qoy
 cases r with
 | none=>rfl
 | some r=>cases r<;>rfl
theorem QAf {β:Type}(k:AV→Heap→Option β)(v:AV)(H:Heap):valK k (.val v H)=k v H:=rfl
def QFw (f id:Nat)(s:St)(k:St→Option (Ex×St)):Option (Ex×St):=k s
theorem QAg (f m id:Nat)(st:St)(k:St→Option (Ex×St)):Qkg c f m id st k=if c.pre f id=0 then k st else st.norm c (c.nilz f) (c.pre f id) m fun s=>QFw f id s k:=by
 unfold Qkg
 cases c.pre f id<;>rfl
def finP (rs:List ResultVar)(p:Ex×St):Option Res:=match p with
 | (.exit _,_)=>none
 | (_,st)=>(mapM' (QbE c st) rs).bind fun vs=>(Qf0 st.H (match vs with |[v]=>v |vs=>.tup vs)).bind fun v=>some (.val v [])
theorem QuM (F:Func)(st:St):Qfx c F st=(mapM' (QbE c st) F.results.toList).bind fun vs=>some (match vs with |[v]=>v |vs=>.tup vs):=by
 unfold Qfx
 cases mapM' (QbE c st) F.results.toList with
 | none=>rfl
 | some vs=>cases vs with
  | nil=>rfl
  | cons v vs=>cases vs<;>rfl
theorem QGJ (f:FuncId)(args:List AV)(F:Func)(b:Code)(hF:c.fn f=some F)(hb:F.body=some b)(hn:Nat.ble args.length F.ntmps=true):
  QaX c rec (.pfn f args)=(Qaw c rec f 0 F.ntmps 0 b ⟨Qhk 0 args,[]⟩).bind (finP c F.results.toList):=by
 simp only [QaX,hF,hb,hn,Qat]
 cases Qaw c rec f 0 F.ntmps 0 b ⟨Qhk 0 args,[]⟩ with
 | none=>rfl
 | some p=>
  obtain ⟨e,st⟩:=p
  cases e with
  | exit k=>rfl
  | _=>
   simp only [Option.bind_some,finP,QuM]
   cases mapM' (QbE c st) F.results.toList with
   | none=>rfl
   | some v=>
    simp only [Option.bind_some]
    cases Qf0 st.H _<;>rfl
def finF (rs:List ResultVar)(m:Nat)(p:Ex×St):Option Res:=match p with
 | (.exit _,_)=>none
 | (_,st)=>(mapM' (QbE c st) rs).bind fun vs=>({ fr:=[(0,match vs with |[v]=>v |vs=>.tup vs)],H:=st.H }:St).canon m fun st1=>some (.val (st1.fr.get 0) st1.H)
theorem s_fn (f:FuncId)(args:List AV)(H:Heap)(F:Func)(b:Code)(hF:c.fn f=some F)(hb:F.body=some b)(hn:Nat.ble args.length F.ntmps=true):
  QaX c rec (.fn f args H)=(mvIf c f args H fun H1=>Qaw c rec f H.length F.ntmps 0 b ⟨Qhk 0 args,H1⟩).bind (finF c F.results.toList H.length):=by
 simp only [QaX,hF,hb,hn,Qat,fLen,QhZ,QsP]
 cases (mvIf c f args H fun H1=>Qaw c rec f H.length F.ntmps 0 b ⟨Qhk 0 args,H1⟩) with
 | none=>rfl
 | some p=>
  obtain ⟨e,st⟩:=p
  cases e with
  | exit k=>rfl
  | _=>
   simp only [Option.bind_some,finF,QuM]
   cases mapM' (QbE c st) F.results.toList<;>rfl
def QCF (f id m:Nat)(b:Code)(p:Ex×St):Option Res:=match p with
 | (.norm,st)=>st.norm c (c.nilz f) (c.live f id) m fun st=>rec (.loop f id m b st)
 | (e,st)=>some (.code e st)
theorem Qyz (f id m:Nat)(b:Code)(st:St):QCF c rec f id m b (.norm,st)=st.norm c (c.nilz f) (c.live f id) m fun st=>rec (.loop f id m b st):=rfl
theorem QyA (f id m:Nat)(b:Code)(k:Nat)(st:St):QCF c rec f id m b (.exit k,st)=some (.code (.exit k) st):=rfl
theorem QAh (f id m:Nat)(b:Code)(st:St):QCF c rec f id m b (.ret,st)=some (.code .ret st):=rfl
theorem QFx (f id m:Nat)(b:Code)(st:St)(F:Func)(hF:c.fn f=some F):QaX c rec (.loop f id m b st)=(Qaw c rec f m F.ntmps id b st).bind (QCF c rec f id m b):=by
 simp only [QaX,hF]
 cases Qaw c rec f m F.ntmps id b st with
 | none=>rfl
 | some p=>
  obtain ⟨e,st⟩:=p
  cases e<;>rfl
end
section
variable {c:Ctx}
end
end Go.Ev
end
noncomputable section
namespace Go.Ev
section
variable (c:Ctx) (rec:Task→Option Res)
theorem QFy {β:Type}(nz:Nat→List Nat)(mask m:Nat)(st:St)(k:St→Option β):st.norm c nz mask m k=QlA c nz (st.fr.only mask) st.H fun fr H=>St.canon m { fr:=fr,H:=H } k:=by
 unfold St.norm; rw [Qat]
theorem QyB {β:Type}(nz:Nat→List Nat)(t:Nat)(v:AV)(r:Fr)(H:Heap)(k:Fr→Heap→β):QlA c nz ((t,v)::r) H k=Qot c (nz t) v H fun v H=>QlA c nz r H fun r H=>k ((t,v)::r) H:=rfl
theorem QAi {β:Type}(z:Nat)(zs:List Nat)(cs:List AV)(H:Heap)(k:AV→Heap→β):Qot c (z::zs) (.agg cs) H k=Qay c (z::zs) cs H fun cs H=>k (.agg cs) H:=rfl
theorem Qv6 {β:Type}(e:Nat)(zs:List Nat)(vs:List AV)(H:Heap)(k:List AV→Heap→β):Qay c ((e+1)::zs) (.nils::vs) H k=
  Qay c zs vs (H++[.rows (c.ty e).size true (tg e [])]) fun vs H'=>k (.sl H.length 0 (hd (tg e []))::vs) H':=by
 simp only [Qay,QhZ,Qat]; rfl
theorem QyC {β:Type}(e:Nat)(zs:List Nat)(vs:List AV)(H:Heap)(k:List AV→Heap→β):Qay c ((e+1)::zs) (.emp::vs) H k=
  Qay c zs vs (H++[.rows (c.ty e).size true (tg e [])]) fun vs H'=>k (.sl H.length 0 (hd (tg e []))::vs) H':=by
 simp only [Qay,QhZ,Qat]; rfl
theorem QAj (f:FuncId)(args:List AV)(H:Heap):QiW rec f args H=
  reach 0 args H fun seen=>Qpy (fun b=>QaT b seen 0) H seen fun H0=>(rec (.fn f (args.map (ren fun b=>QaT b seen 0)) H0)).bind (valK fun v H'=>
   QiV (QdA seen seen.length H.length) seen H' H fun rest H1=>QpA (QdA seen seen.length H.length) rest fun new=>some (ren (QdA seen seen.length H.length) v,H1++new)):=by
 unfold QiW
 congr 1
 funext seen
 simp only [Qw5,Qep]
 cases rec (.fn f (args.map (ren fun b=>QaT b seen 0)) (seen.map fun b=>(Qb8 H b).rn fun b=>QaT b seen 0)) with
 | none=>rfl
 | some r=>
  cases r with
  | code=>rfl
  | val v H'=>simp only [Option.bind_some,valK,fLen,QhZ,QsP,Qat]
theorem Qsf (f:FuncId)(args:List AV)(H:Heap):Qhn rec f args H=
  (mapM' (Qal H 12) args).bind fun fs=>(rec (.pfn f fs)).bind (valK fun v _=>if Qhj 8 v=true then some (v,H) else (Qbt (args.flatMap (frozenIn 12)) H).bind fun H=>some (v,H)):=by
 unfold Qhn
 cases mapM' (Qal H 12) args with
 | none=>rfl
 | some fs=>
  simp only [Option.bind_some]
  cases rec (.pfn f fs) with
  | none=>rfl
  | some r=>
   cases r with
   | code=>rfl
   | val v H'=>
    simp only [Option.bind_some,valK]
    cases Qhj 8 v with
    | true=>rfl
    | false=>
     simp only
     cases Qbt (args.flatMap (frozenIn 12)) H<;>rfl
theorem Qv7 (f:FuncId)(args:List AV)(H:Heap)(e:TypeId)(h:c.prim f=.clone e):Qjz c rec f args H=Qkd c e args H:=by unfold Qjz; rw [h]
theorem Qtn (f:FuncId)(args:List AV)(H:Heap)(h:c.prim f=.no):Qjz c rec f args H=if (c.raw f||!(args.all fun v=>(Qal H 12 v).isSome))=true then QiW rec f args H else Qhn rec f args H:=by
 unfold Qjz; rw [h]
 cases (c.raw f||!(args.all fun v=>(Qal H 12 v).isSome))<;>rfl
theorem QFz (H:Heap)(b:Nat):shut H b=(H[b]?).bind fun k=>match k with
  | .rows z true es=>some (H.set b (.ro z es))
  | .ro _ _=>some H
  | _=>none:=by
 unfold shut
 cases H[b]? with
 | none=>rfl
 | some k=>cases k with
  | rows z p es=>cases p<;>simp [Qat]
  | _=>rfl
theorem QAk (b:Nat)(l:List Nat)(H:Heap):Qbt (b::l) H=(shut H b).bind (Qbt l):=by
 simp only [Qbt]; cases shut H b<;>rfl
theorem Qsg (H:Heap)(n b off len:Nat):Qal H (n+1) (.sl b off len)=(H[b]?).bind fun k=>match k with
  | .rows _ true es=>QcW es off len fun es=>some (.lst es)
  | .ro _ es=>QcW es off len fun es=>some (.lst es)
  | _=>none:=by
 simp only [Qal]
 cases H[b]? with
 | none=>rfl
 | some k=>cases k with
  | rows z p es=>cases p<;>rfl
  | _=>rfl
theorem Qqi (H:Heap)(n:Nat)(cs:List AV):Qal H (n+1) (.agg cs)=(mapM' (Qal H n) cs).bind fun cs=>some (.agg cs):=by
 simp only [Qal]; cases mapM' (Qal H n) cs<;>rfl
theorem QAl (H:Heap)(v:AV):QeD H v=(Qal H 12 v).bind fun x=>(Qbt (frozenIn 12 v) H).bind fun H=>some (x,H):=by
 unfold QeD freeze
 cases Qal H 12 v with
 | none=>rfl
 | some x=>simp only [Option.bind_some]; cases Qbt (frozenIn 12 v) H<;>rfl
theorem QyD (H:Heap)(vs:List AV):Qf0 H (.tup vs)=(mapM' (Qal H 12) vs).bind fun vs=>some (.tup vs):=by
 simp only [Qf0]
 show (match mapM' (Qal H 12) vs with |some vs=>some (AV.tup vs) |none=>none)=_
 cases mapM' (Qal H 12) vs<;>rfl
theorem QmF {α β:Type}(es:List α)(off len:Nat)(k:List α→Option β):QcW es off len k=if off+len≤es.length then k ((es.drop off).take len) else none:=by
 unfold QcW
 rw [QgG]
 by_cases h:off+len≤es.length<;>simp [h,Qat]
theorem Qxw (e:TypeId)(H:Heap)(n:Int)(b off len:Nat):QiY c e H n (.sl b off len)=(atIdx n len).bind fun i=>if Qgz H b (c.ty e).size=true then some (.ptr b (off+i) 0) else none:=by
 simp only [QiY]
 cases atIdx n len with
 | none=>rfl
 | some i=>simp only [Option.bind_some]; cases Qgz H b (c.ty e).size<;>rfl
theorem QAm (t:TypeId)(H:Heap)(b i o:Nat):Qhm c t H (.ptr b i o)=(rowAt H b i).bind fun r=>pack (c.ty t) (r.drop o):=by
 simp only [Qhm,rowAt]
 cases H[b]? with
 | none=>rfl
 | some k=>cases k with
  | rows z p es=>simp only; cases es[i]?<;>rfl
  | ro z es=>simp only; cases es[i]?<;>rfl
  | _=>rfl
theorem QEi (H:Heap)(b i:Nat):rowAt H b i=(H[b]?).bind fun k=>match k with
  | .rows _ _ es=>es[i]?
  | .ro _ es=>es[i]?
  | _=>none:=by
 unfold rowAt
 cases H[b]? with
 | none=>rfl
 | some k=>cases k<;>rfl
theorem QuN (t:TypeId)(b i o:Nat)(v:List AV)(H:Heap):Qh0 c t b i o v H=(H[b]?).bind fun k=>match k with
  | .rows z pu es=>(es[i]?).bind fun r=>if (Nat.beq v.length (c.ty t).size&&Nat.ble (o+v.length) r.length&&v.all AV.Qaz)=true then (if (c.ty t).known=true then some (H.set b (.rows z pu (es.set i (setFrom r o v)))) else none) else none
  | _=>none:=by
 unfold Qh0
 cases H[b]? with
 | none=>rfl
 | some k=>cases k with
  | rows z pu es=>
   simp only [Option.bind_some]
   cases es[i]? with
   | none=>rfl
   | some r=>
    simp only [Option.bind_some,Qat]
    cases (Nat.beq v.length (c.ty t).size&&Nat.ble (o+v.length) r.length&&v.all AV.Qaz) with
    | false=>rfl
    | true=>simp only [if_true]; cases (c.ty t).known<;>rfl
  | _=>rfl
theorem QAn (t:TypeId)(H:Heap)(b i o:Nat)(v:AV):Qkc c t H (.ptr b i o) v=(H[b]?).bind fun k=>match k with
  | .rows _ true _=>(QeD H v).bind fun p=>Qh0 c t b i o p.1.cells p.2
  | .rows _ false _=>Qay c (c.ty t).zs v.cells H fun v H=>Qh0 c t b i o v H
  | _=>none:=by
 simp only [Qkc]
 cases H[b]? with
 | none=>rfl
 | some k=>cases k with
  | rows z p es=>cases p with
   | true=>simp only [Option.bind_some]; cases QeD H v<;>rfl
   | false=>rfl
  | _=>rfl
theorem QAo (t:TypeId)(a v:AV)(H:Heap):QsS c t a v H=(Qkc c t H a v).bind fun H=>some (.tup [],H):=by
 unfold QsS; cases Qkc c t H a v<;>rfl
theorem QCG (H:Heap)(b off len:Nat):rowsOf H (.sl b off len)=(H[b]?).bind fun k=>match k with
  | .rows _ _ es=>QcW es off len some
  | .ro _ es=>QcW es off len some
  | _=>none:=by
 simp only [rowsOf]
 cases H[b]? with
 | none=>rfl
 | some k=>cases k<;>rfl
theorem QCH (H:Heap)(b off len:Nat):Qbr (.sl b off len) H=okB ((H[b]?).bind fun k=>match k with | .rows _ p _=>some p | .ro _ _=>some true |_=>some false):=by
 simp only [Qbr]
 cases H[b]? with
 | none=>rfl
 | some k=>cases k<;>rfl
def QAp (e:TypeId)(H:Heap)(new:List (List AV)):AV→Option (AV×Heap)
 | .nils=>Qbj c e H new
 | .emp=>Qbj c e H new
 | .sl b o len=>if o=0 then (H[b]?).bind fun k=>match k with
  | .rows z true es=>if Nat.beq z (c.ty e).size=true∧(len+new.length) * (c.ty e).bytes≤35184372088832∧len≤es.length∧1≤(c.ty e).bytes then some (.sl H.length 0 (hd (es.take len++new)),H.set b .dead++[.rows z true (es.take len++new)]) else none
  | _=>none else none
 | _=>none
theorem QCI (t tx:TypeId)(H:Heap)(s x:AV):QeF c t tx H s x=if (elemOf (c.ty tx)).isSome=true then (elemOf (c.ty t)).bind fun e=>(rowsOf H x).bind fun new=>
  if Qbr x H=true then (if (new.all fun r=>Nat.beq r.length (c.ty e).size)=true then QAp c e H new s else none) else none else none:=by
 unfold QeF
 cases (elemOf (c.ty tx)).isSome with
 | false=>rfl
 | true=>
  simp only [if_true]
  cases elemOf (c.ty t) with
  | none=>rfl
  | some e=>
   simp only [Option.bind_some]
   cases rowsOf H x with
   | none=>rfl
   | some new=>
    simp only [Option.bind_some]
    cases Qbr x H with
    | false=>rfl
    | true=>
     simp only [if_true]
     cases (new.all fun r=>Nat.beq r.length (c.ty e).size) with
     | false=>rfl
     | true=>
      simp only [if_true]
      cases s with
      | sl b o len=>
       cases o with
       | succ o=>rfl
       | zero=>
        simp only [QAp,if_true]
        cases H[b]? with
        | none=>rfl
        | some k=>cases k with
         | rows z p es=>cases p with
          | false=>rfl
          | true=>
           simp only [Option.bind_some,Qat,QgG]
           by_cases h1:Nat.beq z (c.ty e).size=true<;>by_cases h2:(len+new.length) * (c.ty e).bytes≤35184372088832<;>by_cases h3:len≤es.length<;>by_cases h4:1≤(c.ty e).bytes<;>simp [h1,h2,h3,h4,hd]
         | _=>rfl
      | _=>rfl
theorem Qv8 (e:TypeId)(H:Heap)(new:List (List AV)):Qbj c e H new=if new.length * (c.ty e).bytes≤35184372088832∧1≤(c.ty e).bytes then some (.sl H.length 0 (hd new),H++[.rows (c.ty e).size true new]) else none:=by
 unfold Qbj
 simp only [Qat,QgG]
 by_cases h1:new.length * (c.ty e).bytes≤35184372088832<;>by_cases h2:1≤(c.ty e).bytes<;>simp [h1,h2,hd]
theorem QEj (e:TypeId)(x:AV)(H:Heap):Qkd c e [x] H=(rowsOf H x).bind fun new=>if Qbr x H=true then (if (new.all fun r=>Nat.beq r.length (c.ty e).size)=true then Qbj c e H new else none) else none:=by
 simp only [Qkd]
 cases rowsOf H x with
 | none=>rfl
 | some new=>
  simp only [Option.bind_some]
  cases Qbr x H with
  | false=>rfl
  | true=>
   simp only [if_true]
   cases (new.all fun r=>Nat.beq r.length (c.ty e).size)<;>rfl
theorem QyE (size:Nat)(rows:List (List AV))(i:Nat)(v:AV)(rest:List (Nat×AV))(H:Heap):QeE size rows ((i,v)::rest) H=(QeD H v).bind fun p=>
  if (Nat.beq p.1.cells.length size&&Nat.blt i rows.length&&p.1.cells.all AV.Qaz)=true then QeE size (rows.set i p.1.cells) rest p.2 else none:=by
 simp only [QeE]
 cases QeD H v with
 | none=>rfl
 | some p=>
  simp only [Option.bind_some,Qat]
  cases (Nat.beq p.1.cells.length size&&Nat.blt i rows.length&&p.1.cells.all AV.Qaz)<;>rfl
theorem QuO (i:TI)(len:Nat)(parts:List (Nat×AV))(H:Heap):Qen c i len parts H=(elemOf i).bind fun e=>
  if (Nat.ble (len * (c.ty e).size) 16777216&&(c.ty e).zero.all AV.Qaz)=true then (QeE (c.ty e).size (List.replicate len ((c.ty e).zero.map lstZ)) parts H).bind fun p=>some (.sl p.2.length 0 (if p.1.length=len then hd (tg e p.1) else len),p.2++[.rows (c.ty e).size true (tg e p.1)]) else none:=by
 unfold Qen
 cases elemOf i with
 | none=>rfl
 | some e=>
  simp only [Option.bind_some]
  cases (Nat.ble (len * (c.ty e).size) 16777216&&(c.ty e).zero.all AV.Qaz) with
  | false=>rfl
  | true=>
   simp only [if_true]
   cases QeE (c.ty e).size (List.replicate len ((c.ty e).zero.map lstZ)) parts H with
   | none=>rfl
   | some p=>
    simp only [Option.bind_some,Qat]
    have:(if p.1.length=len then hd (tg e p.1) else len)=len:=by split<;>simp_all [hd,tg]
    rw [this]; rfl
theorem QCJ {α:Type}(a b c d e:Bool)(x:Option α):(match a&&b&&c&&d&&e with |true=>x |false=>none)=if a=true then if b=true then if c=true then if d=true then if e=true then x else none else none else none else none else none:=by
 cases a<;>cases b<;>cases c<;>cases d<;>cases e<;>rfl
theorem Qv9 (i:TI)(n m:Int)(H:Heap):Qfg c i (.int .i64 n) (.int .i64 m) H=(elemOf i).bind fun e=>
  if 0≤n then if n=m then if n.toNat * (c.ty e).bytes≤140737488355328 then if 1≤(c.ty e).bytes then if (c.ty e).zero.all AV.Qaz=true then
   some (.sl H.length 0 (hd (tg e (List.replicate n.toNat ((c.ty e).zero.map lstZ)))),H++[.rows (c.ty e).size true (tg e (List.replicate n.toNat ((c.ty e).zero.map lstZ)))]) else none else none else none else none else none:=by
 unfold Qfg
 cases elemOf i with
 | none=>rfl
 | some e=>
  simp only [Option.bind_some,Qat,QgG,Qf5,QgH]
  refine (QCJ _ _ _ _ _ _).trans ?_
  simp only [decide_eq_true_eq,hd,tg,List.length_replicate]
def bnd (n:Int)(most:Nat):Option Nat:=if 0≤n∧n≤(most:Int) then some n.toNat else none
theorem QCK (k:IntKind)(n:Int)(d most:Nat):bound (some (.int k n)) d most=bnd n most:=by
 simp only [bound,bnd,Qf5]
 by_cases h1:0≤n<;>by_cases h2:n≤(most:Int)<;>simp [h1,h2]
theorem QyF (t:TypeId)(H:Heap)(s:List UInt8)(lo hi:Option AV)(ht:(c.ty t).d=.str):Qeb c t H (.str s) lo hi=(bound hi (hd s) (hd s)).bind fun h=>(bound lo 0 h).bind fun l=>some (.str ((s.drop l).take (h - l))):=by
 simp only [Qeb,ht,hd,Qat]
 cases bound hi s.length s.length with
 | none=>rfl
 | some h=>simp only [Option.bind_some]; cases bound lo 0 h<;>rfl
theorem QyG (t:TypeId)(H:Heap)(es:List (List AV))(lo hi:Option AV):Qeb c t H (.lst es) lo hi=(elemOf (c.ty t)).bind fun e=>(bound hi (hd es) (hd es)).bind fun h=>(bound lo 0 h).bind fun l=>
  if (es.all fun r=>Nat.beq r.length (c.ty e).size)=true then some (.lst ((es.drop l).take (h - l))) else none:=by
 simp only [Qeb,hd,Qat]
 cases elemOf (c.ty t) with
 | none=>rfl
 | some e=>
  simp only [Option.bind_some]
  cases bound hi es.length es.length with
  | none=>rfl
  | some h=>
   simp only [Option.bind_some]
   cases bound lo 0 h with
   | none=>rfl
   | some l=>simp only [Option.bind_some]; cases (es.all fun r=>Nat.beq r.length (c.ty e).size)<;>rfl
theorem QAq (t:TypeId)(H:Heap)(b off len:Nat)(lo hi:Option AV):Qeb c t H (.sl b off len) lo hi=(elemOf (c.ty t)).bind fun e=>(bound hi len len).bind fun h=>(bound lo 0 h).bind fun l=>
  if Qgz H b (c.ty e).size=true then some (.sl b (off+l) (h - l)) else none:=by
 simp only [Qeb]
 cases elemOf (c.ty t) with
 | none=>rfl
 | some e=>
  simp only [Option.bind_some]
  cases bound hi len len with
  | none=>rfl
  | some h=>
   simp only [Option.bind_some]
   cases bound lo 0 h with
   | none=>rfl
   | some l=>simp only [Option.bind_some]; cases Qgz H b (c.ty e).size<;>rfl
theorem Qwa (t:TypeId)(H:Heap)(lo hi:Option AV):Qeb c t H .nils lo hi=(elemOf (c.ty t)).bind fun _=>(bound hi 0 0).bind fun _=>(bound lo 0 0).bind fun _=>some .nils:=by
 simp only [Qeb]
 cases elemOf (c.ty t) with
 | none=>rfl
 | some e=>
  simp only [Option.bind_some]
  cases bound hi 0 0 with
  | none=>rfl
  | some h=>simp only [Option.bind_some]; cases bound lo 0 0<;>rfl
theorem QFA (t:TypeId)(H:Heap)(b off len:Nat)(x:AV):Qou c t H (.sl b off len) x=(elemOf (c.ty t)).bind fun e=>(rowsOf H x).bind fun src=>(H[b]?).bind fun k=>match k with
  | .rows z true es=>if Qbr x H=true then (if (src.all fun r=>Nat.beq r.length z)=true∧Nat.beq z (c.ty e).size=true∧off+len≤es.length then
    some (.int .i64 (hd (src.take len):Int),H.set b (.rows z true (es.take off++src.take len++es.drop (off+hd (src.take len))))) else none) else none
  | _=>none:=by
 simp only [Qou]
 cases elemOf (c.ty t) with
 | none=>rfl
 | some e=>
  simp only [Option.bind_some]
  cases rowsOf H x with
  | none=>rfl
  | some src=>
   simp only [Option.bind_some]
   cases H[b]? with
   | none=>rfl
   | some k=>cases k with
    | rows z p es=>cases p with
     | false=>rfl
     | true=>
      simp only [Option.bind_some]
      cases Qbr x H with
      | false=>rfl
      | true=>
       simp only [if_true,Qat,QgG,hd]
       by_cases h1:(src.all fun r=>Nat.beq r.length z)=true<;>by_cases h2:Nat.beq z (c.ty e).size=true<;>by_cases h3:off+len≤es.length<;>simp [h1,h2,h3]
    | _=>rfl
theorem QEk (i:TI)(H:Heap)(x:AV):Que c i H x=(QlB c i H x).bind fun n=>some (.int .i64 n,H):=by
 unfold Que; cases QlB c i H x<;>rfl
theorem QGK (k:IntKind)(x y:Int):Qgw .quo k x y=if y=0 then none else some (.int k (wr k (x.tdiv y))):=by
 simp only [Qgw,QgH]; by_cases h:y=0<;>simp [h]
theorem QGL (k:IntKind)(x y:Int):Qgw .rem k x y=if y=0 then none else some (.int k (x.tmod y)):=by
 simp only [Qgw,QgH]; by_cases h:y=0<;>simp [h]
theorem QGM (i:TI)(cst:Bool)(k j:IntKind)(a b:Int):binop c i cst .shl (.int k a) (.int j b)=if b<0 then none else some (.int k (wr k (a * 2 ^ (min b.toNat k.bits)))):=by
 simp only [binop,Qf4]; by_cases h:b<0<;>simp [h]
theorem QGN (i:TI)(cst:Bool)(k j:IntKind)(a b:Int):binop c i cst .shr (.int k a) (.int j b)=if b<0 then none else some (.int k (a.fdiv (2 ^ (min b.toNat k.bits)))):=by
 simp only [binop,Qf4]; by_cases h:b<0<;>simp [h]
theorem QCL (x y:List UInt8):Qjy .add x y=if hd x+hd y≤9223372036854775807 then some (.str (x++y)) else none:=by
 simp only [Qjy,QgG,hd]; by_cases h:x.length+y.length≤9223372036854775807<;>simp [h]
theorem Qsh (m:Nat)(e:TypeId)(cs:List AV)(n:Int):Qpd c m e cs n=(atIdx n m).bind fun i=>pack (c.ty e) (cs.drop (i * (c.ty e).size)):=by
 simp only [Qpd]; cases atIdx n m<;>rfl
end
end Go.Ev
end
noncomputable section
namespace Go.Ev
theorem QGO (m n:Nat):tb m n=decide ((m >>> n) &&& 1=1):=by
 unfold tb
 rw [Qzv]
 rfl
theorem QcZ {k:Nat}(h:k<4611686018427387904):wr .i64 ((k:Int)+1)=((k+1:Nat):Int):=by
 rw [Quj,IntKind.wrap_i64]; omega
end Go.Ev
end
noncomputable section
namespace Go.Ev
section
variable {α β γ:Type}
inductive Tick where
 | mk
theorem Tick.one (a b:Tick):a=b:=by cases a; cases b; rfl
def tick:Tick:=.mk
def tock:Tick:=.mk
theorem QFC:tick=tock:=Tick.one _ _
theorem QHf {tk:Tick}(ht:tick=tk){o o':Option α}(h:o=o')(f:α→Option β):o.bind f=o'.bind f:=by rw [h]
theorem QHg {tk:Tick}(ht:tick=tk){o o':Option α}(h:o=o')(f:α→β):o.map f=o'.map f:=by rw [h]
end
section
variable (c:Ctx) (rec:Task→Option Res)
def renF (σ:Nat→Nat):Fr→Fr
 | []=>[]
 | p::r=>(p.1,renN σ 8 p.2)::renF σ r
theorem Qsl (p:List AV→Option AV)(args:List AV)(H:Heap):QiX p args H=
  (mapM' (Qal H 12) args).bind fun fs=>(p fs).bind fun v=>if Qhj 8 v=true then some (v,H) else (Qbt (args.flatMap (frozenIn 12)) H).bind fun H=>some (v,H):=by
 unfold QiX
 cases mapM' (Qal H 12) args with
 | none=>rfl
 | some fs=>
  simp only [Option.bind_some]
  cases p fs with
  | none=>rfl
  | some v=>
   simp only [Option.bind_some]
   cases Qhj 8 v with
   | true=>rfl
   | false=>simp only; cases Qbt (args.flatMap (frozenIn 12)) H<;>rfl
end
def QFD:Code→Option Nat
 | .region id _ _=>some id
 | .seq a _=>QFD a
 | _=>none
section
variable (c:Ctx) (rec:Task→Option Res)
def after (f m n blk:Nat):Code→St→Option (Ex×St)
 | .region id ops d,s=>QbV c rec f m n id ops d s
 | .seq a b,s=>(after f m n blk a s).bind (seqK (Qaw c rec f m n blk b))
 | co,s=>Qaw c rec f m n blk co s
end
section
variable {β:Type}
theorem QGP {tk:Tick}(ht:tick=tk)(m:Nat){vs vs':List AV}{H H':Heap}(h1:vs=vs')(h2:H=H')(k:List Nat→Option β):reach m vs H k=reach m vs' H' k:=by rw [h1,h2]
theorem QEs {tk:Tick}(ht:tick=tk)(c:Ctx){zs zs':List Nat}{v v':List AV}{H H':Heap}(h0:zs=zs')(h1:v=v')(h2:H=H')(k:List AV→Heap→β):Qay c zs v H k=Qay c zs' v' H' k:=by rw [h0,h1,h2]
end
end Go.Ev
end
