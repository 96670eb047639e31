/- Symbolic runs of the evaluator: operations, regions, code, calls, loops. Definitions only, nothing is claimed here. -/
import Derived.Test.YtkecfadnfnnfaaaGreatDoorSyB
set_option linter.unusedVariables false
noncomputable section
namespace Go.Sy
open Go Go.Ev
inductive Hk where
 | par (i:Nat)
 | con (e:Ex)
 | new
 deriving Inhabited
structure Out where
 ex:Go.Ev.Ex
 fr:SF
 H:SH
 hs:List (Hk×Ty)
 deriving Inhabited
structure Fam where
 kind:Nat
 f:FuncId
 id:Nat:=0
 m:Nat:=0
 fr:SF:=[]
 H:SH:=[]
 ps:List Ty:=[]
 outs:List Out:=[]
 ext:Bool:=false
 deriving Inhabited
def Qf0:List (Hk×Ty)→List Ty
 | []=>[]
 | (.new,t)::l=>t::Qf0 l
 | _::l=>Qf0 l
def Out.ts (o:Out):List Ty:=Qf0 o.hs
structure Tab where
 fam:Nat→Fam
 pfn:FuncId→Option Nat
 fns:FuncId→List Nat
 loops:FuncId→Nat→List Nat
 deriving Inhabited
def Tab.P (T:Tab)(i:Nat):List Ty:=(T.fam i).ps
def Tab.O (T:Tab)(i:Nat):List (List Ty):=(T.fam i).outs.map Out.ts
structure Ab where
 n:Nat
 l:List (Ty×Ex)
def Ab.add (a:Ab)(t:Ty)(e:Ex):Ex×Ab:=(.v a.n,{ n:=a.n+1,l:=(t,e)::a.l })
def rootOf:List SV→Option (Ty×Ex)
 | .ii k (.o1 (.fst u) e)::_=>some (.pair (.int k) u,e)
 | .bb (.o1 (.fst u) e)::_=>some (.pair .bool u,e)
 | .ss (.o1 (.fst u) e)::_=>some (.pair .str u,e)
 | .tl t (.o1 (.fst u) e)::_=>some (.pair (.lst t) u,e)
 | _=>none
def Qwl (cs:List SV):Option (Ty×Ex):=match rootOf cs with
 | none=>none
 | some (t,e)=>match SV.beqL cs (cellsOf t e) with |true=>some (t,e) |false=>none
abbrev Bs:=List (Option (Ty×Ex×Ex))
def lenOf (bs:Bs)(b:Nat)(len:Ex):Option Ex:=match bs[b]? with
 | some (some (t,e,h))=>match Ex.beq len (mk1 (.len t) e) with |true=>some (.o1 (.len t) h) |false=>none
 | _=>none
def isLit:Ex→Bool | .nn _=>true |_=>false
mutual
def absV (bs:Bs):SV→Ab→Option (SV×Ab)
 | .ii k e,a=>some ((.ii k (a.add (.int k) e).1),(a.add (.int k) e).2)
 | .bb e,a=>some ((.bb (a.add .bool e).1),(a.add .bool e).2)
 | .ss e,a=>some ((.ss (a.add .str e).1),(a.add .str e).2)
 | .tl t e,a=>some ((.tl t (a.add (.lst t) e).1),(a.add (.lst t) e).2)
 | .ptr b i o,a=>match isLit i with
  | true=>some (.ptr b i o,a)
  | false=>some (.ptr b (a.add .nat i).1 o,(a.add .nat i).2)
 | .iptr cs,a=>match absL bs cs a with |some (cs,a)=>some (.iptr cs,a) |none=>none
 | .sl b off len,a=>match isLit off with
  | true=>match lenOf bs b len with
   | some h=>some (.sl b off h,a)
   | none=>some (.sl b off (a.add .nat len).1,(a.add .nat len).2)
  | false=>none
 | .fn f cs,a=>match absL bs cs a with |some (cs,a)=>some (.fn f cs,a) |none=>none
 | .iface t v,a=>match absV bs v a with |some (v,a)=>some (.iface t v,a) |none=>none
 | .agg cs,a=>match Qwl cs with
  | some (t,e)=>some (.agg (cellsOf t (a.add t e).1),(a.add t e).2)
  | none=>match absL bs cs a with |some (cs,a)=>some (.agg cs,a) |none=>none
 | .tup cs,a=>match absL bs cs a with |some (cs,a)=>some (.tup cs,a) |none=>none
 | v,a=>some (v,a)
def absL (bs:Bs):List SV→Ab→Option (List SV×Ab)
 | [],a=>some ([],a)
 | v::l,a=>match absV bs v a with
  | none=>none
  | some (v,a)=>match absL bs l a with |some (l,a)=>some (v::l,a) |none=>none
end
def absB:SH→Ab→SH×Bs×Ab
 | [],a=>([],[],a)
 | .rows z t e::H,a=>let p:=absB H (a.add (.lst t) e).2; (.rows z t (a.add (.lst t) e).1::p.1,some (t,e,(a.add (.lst t) e).1)::p.2.1,p.2.2)
 | .ro z t e::H,a=>let p:=absB H (a.add (.lst t) e).2; (.ro z t (a.add (.lst t) e).1::p.1,some (t,e,(a.add (.lst t) e).1)::p.2.1,p.2.2)
 | .map tk tv e::H,a=>let p:=absB H (a.add (.lst (.pair tk tv)) e).2; (.map tk tv (a.add (.lst (.pair tk tv)) e).1::p.1,none::p.2.1,p.2.2)
 | b::H,a=>let p:=absB H a; (b::p.1,none::p.2.1,p.2.2)
def QFU (tg:Option Ty)(r:List SV):Option (Ty×Ex):=match tg with
 | none=>none
 | some t=>match QhA t r with |some e=>some (t,e) |none=>none
def QAx (bs:Bs)(tg:Option Ty)(r:List SV)(a:Ab):Option (List SV×Ab):=match QFU tg r with
 | some (t,e)=>some (cellsOf t (a.add t e).1,(a.add t e).2)
 | none=>absL bs r a
def Qqk (bs:Bs)(tg:Option Ty):List (List SV)→Ab→Option (List (List SV)×Ab)
 | [],a=>some ([],a)
 | r::l,a=>match QAx bs tg r a with
  | none=>none
  | some (r,a)=>match Qqk bs tg l a with |some (l,a)=>some (r::l,a) |none=>none
def absX (bs:Bs):SH→Ab→Option (SH×Ab)
 | [],a=>some ([],a)
 | .box z tg es::H,a=>match Qqk bs tg es a with
  | none=>none
  | some (es,a)=>match absX bs H a with |some (H,a)=>some (.box z tg es::H,a) |none=>none
 | b::H,a=>match absX bs H a with |some (H,a)=>some (b::H,a) |none=>none
def absF (bs:Bs):SF→Ab→Option (SF×Ab)
 | [],a=>some ([],a)
 | p::r,a=>match absV bs p.2 a with
  | none=>none
  | some (v,a)=>match absF bs r a with |some (r,a)=>some ((p.1,v)::r,a) |none=>none
def absS (fr:SF)(H:SH):Option (SF×SH×List (Ty×Ex)):=
 let p:=absB H { n:=0,l:=[] }
 match absX p.2.1 p.1 p.2.2 with
 | none=>none
 | some (H,a)=>match absF p.2.1 fr a with
  | none=>none
  | some (fr,a)=>some (fr,H,a.l.reverse)
mutual
def SV.fill (σ:Nat→Ex):SV→SV
 | .ii k e=>.ii k (e.subst σ)
 | .bb e=>.bb (e.subst σ)
 | .ss e=>.ss (e.subst σ)
 | .tl t e=>.tl t (e.subst σ)
 | .ptr b i o=>.ptr b (i.subst σ) o
 | .iptr cs=>.iptr (SV.QuU σ cs)
 | .sl b o l=>.sl b (o.subst σ) (l.subst σ)
 | .fn f cs=>.fn f (SV.QuU σ cs)
 | .iface t v=>.iface t (v.fill σ)
 | .agg cs=>.agg (SV.QuU σ cs)
 | .tup cs=>.tup (SV.QuU σ cs)
 | v=>v
def SV.QuU (σ:Nat→Ex):List SV→List SV
 | []=>[]
 | v::l=>v.fill σ::SV.QuU σ l
end
def SB.fill (σ:Nat→Ex):SB→SB
 | .rows z t e=>.rows z t (e.subst σ)
 | .box z tg es=>.box z tg (es.map (SV.QuU σ))
 | .ro z t e=>.ro z t (e.subst σ)
 | .map a b e=>.map a b (e.subst σ)
 | .dead=>.dead
def QrJ (σ:Nat→Ex)(fr:SF):SF:=fr.map fun p=>(p.1,p.2.fill σ)
def Qtk (σ:Nat→Ex)(H:SH):SH:=H.map (SB.fill σ)
def QyV:List Ty→List Ty→Bool
 | [],[]=>true
 | a::l,b::m=>Ty.beq a b&&QyV l m
 | _,_=>false
def QlV (θ:List Ex):List (Hk×Ty)→Nat→List Ex
 | [],_=>[]
 | (.par i,_)::l,n=>θ.getD i .un::QlV θ l n
 | (.con e,_)::l,n=>e::QlV θ l n
 | (.new,_)::l,n=>.v n::QlV θ l (n+1)
def Out.σ (o:Out)(θ:List Ex)(n:Nat):Nat→Ex:=fun i=>(QlV θ o.hs n).getD i .un
def tyAt:List Ty→Nat→Ty→Bool
 | [],_,_=>false
 | a::_,0,t=>Ty.beq a t
 | _::l,i+1,t=>tyAt l i t
def QmR (ps:List Ty):List (Hk×Ty)→List (Ty×Ex)→Option (List Ex)
 | [],[]=>some []
 | (.par i,t)::l,(u,e)::r=>match Ty.beq t u&&(Ex.beq e (.v i)&&tyAt ps i t) with |true=>QmR ps l r |false=>none
 | (.con x,t)::l,(u,e)::r=>match Ty.beq t u&&(Ex.beq e x&&x.bnd 0) with |true=>QmR ps l r |false=>none
 | (.new,t)::l,(u,e)::r=>match Ty.beq t u with |true=>(match QmR ps l r with |some es=>some (e::es) |none=>none) |false=>none
 | _,_=>none
def QuV (a b:Go.Ev.Ex):Bool:=match a,b with
 | .norm,.norm=>true
 | .ret,.ret=>true
 | .exit i,.exit j=>Nat.beq i j
 | _,_=>false
def Qma (ps:List Ty):List Out→Nat→Go.Ev.Ex→SF→SH→List (Ty×Ex)→Option (Nat×List Ex)
 | [],_,_,_,_,_=>none
 | o::l,j,ex,fr,H,θ=>match QuV o.ex ex&&(beqF o.fr fr&&beqH o.H H) with
  | true=>match QmR ps o.hs θ with |some es=>some (j,es) |none=>Qma ps l (j+1) ex fr H θ
  | false=>Qma ps l (j+1) ex fr H θ
def QlW (ps:List Ty)(outs:List Out)(ex:Go.Ev.Ex)(fr:SF)(H:SH):Option (Nat×List Ex):=match absS fr H with
 | none=>none
 | some (fr,H,θ)=>Qma ps outs 0 ex fr H θ
def outT {α:Type}(o:Option (Nat×List Ex)):T α:=match o with |some (j,es)=>.out j es |none=>.fail
section
variable (c:Ctx) (tb:Tab) {α:Type}
def Out.state (o:Out)(θ:List Ex)(n:Nat):SF×SH:=(QrJ (o.σ θ n) o.fr,Qtk (o.σ θ n) o.H)
def alts (f:Nat)(θ:List Ex)(s:SS)(K:Out→Nat→SS→T α):List Out→Nat→T α
 | [],_=>.fail
 | o::l,j=>.alt (K o s.nx { s with nx:=s.nx+o.ts.length,fs:=.call f θ j s.nx o.ts.length::s.fs }) (alts f θ s K l (j+1))
def QrK (f:Nat)(θ:List Ex)(pend:List SV)(s:SS)(K:Out→Nat→SS→T α):T α:=match QuR f θ s.fs with
 | some (j,n)=>match (tb.fam f).outs[j]? with |some o=>K o n s |none=>.fail
 | none=>match s.bnd&&(SV.bndL s.nx pend&&θ.all (Ex.bnd s.nx)) with
  | true=>.call f θ s.nx (alts f θ s K (tb.fam f).outs 0)
  | false=>.fail
def QkM:List Nat→SF→SH→List (Ty×Ex)→Option Nat
 | [],_,_,_=>none
 | i::l,fr,H,θ=>match beqF (tb.fam i).fr fr&&(beqH (tb.fam i).H H&&QyV (tb.fam i).ps (θ.map (·.1))) with
  | true=>some i
  | false=>QkM l fr H θ
def Qf1:List Ty→List SV→Option (List Ex)
 | [],[]=>some []
 | t::ts,v::vs=>match Qsl t v,Qf1 ts vs with |some e,some es=>some (e::es) |_,_=>none
 | _,_=>none
def QnN (H:SH)(l:List SV):Option (List SV×List Ex):=Qjo (Qbq H 12) l
def Qwm:List Ty→Nat→List SV
 | [],_=>[]
 | t::l,n=>sval t (.v n)::Qwm l (n+1)
def getZ:SF→SV:=fun fr=>getF fr 0
def argF:Nat→List SV→SF
 | _,[]=>[]
 | k,v::l=>(k,v)::argF (k+1) l
def Qwn (f:FuncId)(fs:List SV):Option (Nat×List Ex):=match tb.pfn f with
 | some fam=>(match Qf1 (tb.fam fam).ps fs with
  | some θ=>(match SV.beqL ((tb.fam fam).fr.map (·.2)) (Qwm (tb.fam fam).ps 0) with |true=>some (fam,θ) |false=>none)
  | none=>none)
 | none=>match absS (argF 0 fs) [] with
  | some (fr,H,θ)=>(match QkM tb (tb.fns f) fr H θ with |some fam=>some (fam,θ.map (·.2)) |none=>none)
  | none=>none
def QAy (f:FuncId)(args:List SV)(fs:List SV)(s:SS)(K:SV→SS→T α):T α:=
 opt (Qwn tb f fs) fun q=>
 iff ((Nat.beq (tb.fam q.1).kind 0||Nat.beq (tb.fam q.1).kind 3)&&Nat.beq (tb.fam q.1).f f) <|
 QrK tb q.1 q.2 (args++fs) s fun o n s=>
  let v:=getZ (o.state q.2 n).1
  match QuS 8 v with
  | true=>K v s
  | false=>opt (Qls (args.flatMap (QfZ 12)) s.H) fun H=>K v { s with H:=H }
def Qg0 (τ:Nat→Nat):List Nat→SH→SH→SH×SH
 | [],H',H=>(H',H)
 | _::l,[],H=>Qg0 τ l [] H
 | b::l,x::H',H=>Qg0 τ l H' (H.set b (x.ren τ))
def rawT (f:FuncId)(args:List SV)(s:SS)(K:SV→SS→T α):T α:=
 opt (QxN 0 args s.H) fun seen=>
 let args':=args.map (renS (fun b=>QaY b seen 0) 8)
 let H0:=Qpn (fun b=>QaY b seen 0) s.H seen
 opt (absS (argF 0 args') H0) fun (fr,H,θ)=>
 opt (QkM tb (tb.fns f) fr H θ) fun fam=>
 iff (Nat.beq (tb.fam fam).kind 1&&Nat.beq (tb.fam fam).f f) <|
 QrK tb fam (θ.map (·.2)) args s fun o n s=>
  let q:=o.state (θ.map (·.2)) n
  let τ:=Qd2 seen seen.length s.H.length
  let p:=Qg0 τ seen q.2 s.H
  K (renS τ 8 (getZ q.1)) { s with H:=p.2++p.1.map (SB.ren τ) }
def QkG (e:TypeId)(t:Ty)(x:Ex)(s:SS)(K:SV→SS→T α):T α:=
 iff (Nat.ble 1 (c.ty e).bytes) <|
 guard (nleE (mk2 .nmul (mk1 (.len t) x) (natE (c.ty e).bytes)) (natE 35184372088832)) s fun s=>
 K (.sl s.H.length (natE 0) (mk1 (.len t) x)) { s with H:=s.H++[.rows (c.ty e).size t x] }
def QAz (e:TypeId)(args:List SV)(s:SS)(K:SV→SS→T α):T α:=match args with
 | [x]=>opt (tyOf c e) fun t=>opt (Ql8 t s.H x) fun (l,g)=>guards g s fun s=>QkG c e t l s K
 | _=>.fail
def Qii (f:FuncId)(args:List SV)(s:SS)(K:SV→SS→T α):T α:=match c.prim f with
 | .clone e=>QAz c e args s K
 | .pure _=>opt (QnN s.H args) fun (fs,g)=>guards g s fun s=>QAy tb f args fs s K
 | .no=>match c.raw f with
  | true=>rawT tb f args s K
  | false=>match QnN s.H args with
   | none=>rawT tb f args s K
   | some (fs,g)=>guards g s fun s=>QAy tb f args fs s K
def QAA (kt:TD)(x y:SV):Option Ex:=match kt with
 | .int _=>match x,y with | .ii k a,.ii j b=>(match kEq k j with |true=>some (eqE k a b) |false=>none) |_,_=>none
 | .bool=>match x,y with | .bb a,.bb b=>some (mk2 .beq a b) |_,_=>none
 | .str=>match x,y with | .ss a,.ss b=>some (mk2 (.scmp .eql) a b) |_,_=>none
 | _=>none
def QeY:List (Nat×TypeId)→List SV→List SV→Option Ex
 | [],[],[]=>some (.bl true)
 | p::fs,x::xs,y::ys=>match QAA (c.ty p.2).d x y,QeY fs xs ys with
  | some e,some r=>some (mk2 .and e r)
  | _,_=>none
 | _,_,_=>none
def eqS (i:TI)(cst:Bool)(x y:SV):Option (Ex×Ex):=match i.d with
 | .bool=>match x,y with | .bb a,.bb b=>some (mk2 .beq a b,.bl true) |_,_=>none
 | .ptr _=>match x,y with
  | .nilp,.nilp=>some (.bl true,.bl true)
  | .nilp,.ptr ..=>some (.bl false,.bl true)
  | .ptr ..,.nilp=>some (.bl false,.bl true)
  | .nilp,.iptr _=>some (.bl false,.bl true)
  | .iptr _,.nilp=>some (.bl false,.bl true)
  | _,_=>none
 | .slice _=>match x,y with
  | .nils,.nils=>some (.bl true,.bl true)
  | .sl _ _ len,.nils=>some (.bl false,nleE (natE 1) len)
  | .nils,.sl _ _ len=>some (.bl false,nleE (natE 1) len)
  | .nils,.tl t e=>some (.bl false,nleE (natE 1) (mk1 (.len t) e))
  | .tl t e,.nils=>some (.bl false,nleE (natE 1) (mk1 (.len t) e))
  | _,_=>none
 | .map _ _=>match x,y with
  | .nilm,.nilm=>some (.bl true,.bl true)
  | .nilm,.map _=>some (.bl false,.bl true)
  | .map _,.nilm=>some (.bl false,.bl true)
  | _,_=>none
 | .func=>match x,y with
  | .nilf,.nilf=>some (.bl true,.bl true)
  | .nilf,.fn ..=>some (.bl false,.bl true)
  | .fn ..,.nilf=>some (.bl false,.bl true)
  | _,_=>none
 | .iface=>match x,y with
  | .nili,.nili=>match cst with |true=>some (.bl true,.bl true) |false=>none
  | .nili,.iface ..=>some (.bl false,.bl true)
  | .iface ..,.nili=>some (.bl false,.bl true)
  | _,_=>none
 | .Qbk fs=>match x,y with
  | .agg xs,.agg ys=>match i.flat with |true=>(match QeY c fs xs ys with |some e=>some (e,.bl true) |none=>none) |false=>none
  | _,_=>none
 | _=>none
def Qwo (op:BinOp)(k:IntKind)(a b:Ex):Option (SV×Ex):=match op with
 | .add | .sub | .mul | .and | .or | .xor | .andNot=>some (.ii k (mk2 (.arith op k) a b),.bl true)
 | .quo | .rem=>some (.ii k (mk2 (.arith op k) a b),notE (eqE k b (.il 0)))
 | .eql=>some (.bb (eqE k a b),.bl true)
 | .neq=>some (.bb (notE (eqE k a b)),.bl true)
 | .lss=>some (.bb (ltE k a b),.bl true)
 | .leq=>some (.bb (leE k a b),.bl true)
 | .gtr=>some (.bb (ltE k b a),.bl true)
 | .geq=>some (.bb (leE k b a),.bl true)
 | _=>none
def Qwp (op:BinOp)(a b:Ex):Option (SV×Ex):=match op with
 | .add=>some (.ss (mk2 .cat a b),nleE (mk2 .nadd (mk1 .slen a) (mk1 .slen b)) (natE 9223372036854775807))
 | .eql=>some (.bb (mk2 (.scmp .eql) a b),.bl true)
 | .neq=>some (.bb (notE (mk2 (.scmp .eql) a b)),.bl true)
 | .lss=>some (.bb (mk2 (.scmp .lss) a b),.bl true)
 | .leq=>some (.bb (mk2 (.scmp .leq) a b),.bl true)
 | .gtr=>some (.bb (notE (mk2 (.scmp .leq) a b)),.bl true)
 | .geq=>some (.bb (notE (mk2 (.scmp .lss) a b)),.bl true)
 | _=>none
def QxO (i:TI)(cst:Bool)(op:BinOp)(x y:SV):Option (SV×Ex):=match x,y with
 | .ii k a,.ii j b=>match op with
  | .shl=>some (.ii k (.o2 (.shift .shl k j) a b),leE j (.il 0) b)
  | .shr=>some (.ii k (.o2 (.shift .shr k j) a b),leE j (.il 0) b)
  | op=>match kEq k j with |true=>Qwo op k a b |false=>none
 | .ss a,.ss b=>Qwp op a b
 | x,y=>match op with
  | .eql=>match eqS c i cst x y with |some (e,g)=>some (.bb e,g) |none=>none
  | .neq=>match eqS c i cst x y with |some (e,g)=>some (.bb (notE e),g) |none=>none
  | _=>none
def QEE (op:UnOp)(x:SV):Option SV:=match op,x with
 | .neg,.ii k e=>some (.ii k (.o1 (.unop .neg k) e))
 | .xor,.ii k e=>some (.ii k (.o1 (.unop .xor k) e))
 | .not,.bb e=>some (.bb (notE e))
 | _,_=>none
def QFV (j k:IntKind)(e:Ex):Ex:=match e with
 | .il n=>.il (wr k n)
 | e=>.o1 (.conv j) e
def Qtl (s i:TI)(x:SV):Option SV:=match s.known with
 | false=>none
 | true=>match i.d,x with
  | .int k,.ii j e=>some (.ii k (QFV j k e))
  | .str,.ss e=>some (.ss e)
  | _,_=>none
def Qlt:List SV→Nat→List SV→List SV
 | cs,0,[]=>cs
 | cs,0,v::vs=>match cs with |[]=>[] |_::r=>v::Qlt r 0 vs
 | cs,o+1,vs=>match cs with |[]=>[] |c::r=>c::Qlt r o vs
def QnO (place:Nat→Option (Nat×Nat))(cells:List SV):List (Nat×SV)→Option (List SV)
 | []=>some cells
 | (i,v)::rest=>match place i with
  | none=>none
  | some (off,size)=>match Nat.beq v.cells.length size&&Nat.ble (off+size) cells.length&&v.cells.all SV.Qax with
   | true=>QnO place (Qlt cells off v.cells) rest
   | false=>none
def QAB (i:TI)(parts:List (Nat×SV)):Option SV:=match Qwj i.zero with
 | none=>none
 | some zero=>match i.d with
  | .Qbk fs=>match QnO (Qr6 c fs) zero parts with |some cs=>some (.agg cs) |none=>none
  | .arr _ e=>match QnO (fun k=>some (k * (c.ty e).size,(c.ty e).size)) zero parts with |some cs=>some (.agg cs) |none=>none
  | _=>none
def QAC:List Ex→Ex
 | []=>.nl
 | e::l=>.o2 .cons e (QAC l)
def QFW:SV→SV
 | .nils=>.tl .unit .nl
 | .emp=>.tl .unit .nl
 | v=>v
def QAD (t:Ty)(e:TypeId):Option Ex:=match Qwj (c.ty e).zero with
 | none=>none
 | some z=>QhA t (z.map QFW)
def QmS (t:Ty)(size:Nat)(xs:List Ex):List (Nat×SV)→SS→(List Ex→SS→T α)→T α
 | [],s,K=>K xs s
 | (i,v)::rest,s,K=>Qti v s fun v s=>
  iff (Nat.beq v.cells.length size&&Nat.blt i xs.length&&v.cells.all SV.Qax) <|
  opt (QhA t v.cells) fun x=>QmS t size (xs.set i x) rest s K
def Qmb (i:TI)(len:Nat)(parts:List (Nat×SV))(s:SS)(K:SV→SS→T α):T α:=
 opt (Ev.elemOf i) fun e=>opt (tyOf c e) fun t=>opt (QAD c t e) fun z=>
 iff (Nat.ble (len * (c.ty e).size) 16777216&&(c.ty e).zero.all AV.Qax) <|
 QmS t (c.ty e).size (List.replicate len z) parts s fun xs s=>
 K (.sl s.H.length (natE 0) (natE len)) { s with H:=s.H++[.rows (c.ty e).size t (QAC xs)] }
def Qsn:Ex→Option Nat | .nn n=>some n |_=>none
def QD6:Ex→Option Nat | .il (.ofNat n)=>some n |_=>none
def loadT (t:TypeId)(a:SV)(s:SS)(K:SV→SS→T α):T α:=match a with
 | .ptr b i o=>match s.H[b]? with
  | some (.rows _ u l)=>getN u l i [] s fun x s=>opt (QuQ (c.ty t) ((cellsOf u x).drop o)) fun v=>K v s
  | some (.ro _ u l)=>getN u l i [] s fun x s=>opt (QuQ (c.ty t) ((cellsOf u x).drop o)) fun v=>K v s
  | some (.box _ _ es)=>opt (Qsn i) fun i=>opt (es[i]?) fun r=>opt (QuQ (c.ty t) (r.drop o)) fun v=>K v s
  | _=>.fail
 | .iptr cs=>opt (QuQ (c.ty t) cs) fun v=>K v s
 | _=>.fail
def storeT (t:TypeId)(a v:SV)(s:SS)(K:SS→T α):T α:=match a with
 | .ptr b i o=>match s.H[b]? with
  | some (.rows z u l)=>
   Qti v s fun v s=>match s.H[b]? with
   | some (.rows z u l)=>getN u l i [v] s fun x s=>
    iff (Nat.beq v.cells.length (c.ty t).size&&Nat.ble (o+v.cells.length) u.size&&v.cells.all SV.Qax&&(c.ty t).known) <|
    opt (QhA u (Qlt (cellsOf u x) o v.cells)) fun y=>
    let l':=mk3 .set l i y
    K { s with H:=s.H.set b (.rows z u l'),fs:=.idx u (asInt i).1 l' (asInt i).2 y::s.fs }
   | _=>.fail
  | some (.box _ _ _)=>opt (QlL c (c.ty t).zs v.cells s.H) fun (cs,H)=>match H[b]? with
   | some (.box z tg es)=>opt (Qsn i) fun i=>opt (es[i]?) fun r=>
    iff (Nat.beq cs.length (c.ty t).size&&Nat.ble (o+cs.length) r.length&&cs.all SV.Qax&&(c.ty t).known) <|
    K { s with H:=H.set b (.box z tg (es.set i (Qlt r o cs))) }
   | _=>.fail
  | _=>.fail
 | _=>.fail
def QjU (n:Option SV)(dflt most:Ex):Option (Ex×List Ex):=match n with
 | none=>some (dflt,[])
 | some (.ii k n)=>some (mk1 (.toN k) n,[leE k (.il 0) n,leE k n (mk1 .ofN most)])
 | some _=>none
def Qlu (H:SH)(b:Nat):Option Nat:=match H[b]? with |some (.rows z _ _)=>some z |some (.box z _ _)=>some z |some (.ro z _ _)=>some z |_=>none
def Qtm (H:SH)(b n:Nat):Bool:=match Qlu H b with |some z=>Nat.beq z n |none=>false
def QAE (t:TypeId)(H:SH)(x:SV)(lo hi:Option SV):Option (SV×List Ex):=match x with
 | .ss e=>match (c.ty t).d with
  | .str=>match QjU hi (mk1 .slen e) (mk1 .slen e) with
   | some (h,g)=>match QjU lo (natE 0) h with |some (l,g')=>some (.ss (mk3 .ssub e l h),g++g') |none=>none
   | none=>none
  | _=>none
 | .tl u e=>match Ev.elemOf (c.ty t),QjU hi (mk1 (.len u) e) (mk1 (.len u) e) with
  | some el,some (h,g)=>match QjU lo (natE 0) h with
   | some (l,g')=>match Nat.beq u.size (c.ty el).size with
    | true=>some (.tl u (.o2 .tk (mk2 .nsub h l) (mk2 .dr l e)),g++g')
    | false=>none
   | none=>none
  | _,_=>none
 | .sl b off len=>match Ev.elemOf (c.ty t),QjU hi len len with
  | some el,some (h,g)=>match QjU lo (natE 0) h with
   | some (l,g')=>match Qtm H b (c.ty el).size with |true=>some (.sl b (mk2 .nadd off l) (mk2 .nsub h l),g++g') |false=>none
   | none=>none
  | _,_=>none
 | .nils=>match Ev.elemOf (c.ty t),QjU hi (natE 0) (natE 0),QjU lo (natE 0) (natE 0) with
  | some _,some (_,g),some (_,g')=>some (.nils,g++g')
  | _,_,_=>none
 | .emp=>match Ev.elemOf (c.ty t),QjU hi (natE 0) (natE 0),QjU lo (natE 0) (natE 0) with
  | some _,some (_,g),some (_,g')=>some (.emp,g++g')
  | _,_,_=>none
 | _=>none
def Qwq (t tx:TypeId)(a x:SV)(s:SS)(K:SV→SS→T α):T α:=
 opt (Ev.elemOf (c.ty tx)) fun _=>opt (Ev.elemOf (c.ty t)) fun e=>opt (tyOf c e) fun u=>
 opt (Ql8 u s.H x) fun (new,g)=>guards g s fun s=>
 match a with
 | .nils=>QkG c e u new s K
 | .emp=>QkG c e u new s K
 | .sl b off len=>iff (Ex.beq off (natE 0)) <|match s.H[b]? with
  | some (.rows z w l)=>iff (Ty.beq w u&&(Nat.beq z (c.ty e).size&&Nat.ble 1 (c.ty e).bytes)) <|
   guard (nleE (mk2 .nmul (mk2 .nadd len (mk1 (.len u) new)) (natE (c.ty e).bytes)) (natE 35184372088832)) s fun s=>
   match Ex.beq len (mk1 (.len u) l) with
   | true=>let l':=mk2 .app l new; K (.sl s.H.length (natE 0) (mk1 (.len u) l')) { s with H:=s.H.set b .dead++[.rows z u l'] }
   | false=>guard (nleE len (mk1 (.len u) l)) s fun s=>let l':=mk2 .app (mk2 .tk len l) new; K (.sl s.H.length (natE 0) (mk1 (.len u) l')) { s with H:=s.H.set b .dead++[.rows z u l'] }
  | _=>.fail
 | _=>.fail
def Qtn (t:TypeId)(a x:SV)(s:SS)(K:SV→SS→T α):T α:=match a with
 | .nils=>opt (Ev.elemOf (c.ty t)) fun e=>opt (tyOf c e) fun u=>opt (QAD c u e) fun z=>match x with
  | .ii .i64 n=>
   iff (Nat.ble 1 (c.ty e).bytes&&(Nat.ble 1 (c.ty e).size&&(c.ty e).zero.all AV.Qax)) <|
   guards [leE .i64 (.il 1) n,nleE (mk2 .nmul (mk1 (.toN .i64) n) (natE (c.ty e).bytes)) (natE 140737488355328)] s fun s=>
   let l:=Ex.o2 .rep (mk1 (.toN .i64) n) z
   K (.sl s.H.length (natE 0) (mk1 (.len u) l)) { s with H:=s.H++[.rows (c.ty e).size u l] }
  | _=>.fail
 | _=>.fail
def Qto (t tx:TypeId)(a x:SV)(s:SS)(K:SV→SS→T α):T α:=match QyC (c.ty tx) with |true=>Qtn c t a x s K |false=>Qwq c t tx a x s K
def QEF (t:TypeId)(d x:SV)(s:SS)(K:SV→SS→T α):T α:=match d with
 | .sl b off len=>opt (Ev.elemOf (c.ty t)) fun e=>opt (tyOf c e) fun u=>opt (Ql8 u s.H x) fun (src,g)=>guards g s fun s=>match s.H[b]? with
  | some (.rows z w l)=>iff (Ty.beq w u&&(Nat.beq z (c.ty e).size&&Nat.beq u.size z)) <|
   guard (match Qqj u l off len with |true=>.bl true |false=>nleE (mk2 .nadd off len) (mk1 (.len u) l)) s fun s=>
   let new:=Ex.o2 .tk len src
   K (.ii .i64 (mk1 .ofN (mk1 (.len u) new))) { s with H:=s.H.set b (.rows z u (mk2 .app (mk2 .tk off l) (mk2 .app new (mk2 .dr (mk2 .nadd off (mk1 (.len u) new)) l)))) }
  | _=>.fail
 | _=>.fail
def lenE (i:TI)(H:SH)(x:SV):Option Ex:=match i.d with
 | .arr n _=>some (.il (n:Int))
 | .ptr e=>match (c.ty e).d with | .arr n _=>some (.il (n:Int)) |_=>none
 | .str=>match x with | .ss e=>some (mk1 .ofN (mk1 .slen e)) |_=>none
 | .slice _=>match x with
  | .nils=>some (.il 0)
  | .emp=>some (.il 0)
  | .tl t e=>some (mk1 .ofN (mk1 (.len t) e))
  | .sl _ _ len=>some (mk1 .ofN len)
  | _=>none
 | .map _ _=>match x with
  | .nilm=>some (.il 0)
  | .map b=>match H[b]? with |some (.map tk tv e)=>some (mk1 .ofN (mk1 (.len (.pair tk tv)) e)) |_=>none
  | _=>none
 | _=>none
def Qtp (b:Builtin)(argTypes:Array TypeId)(args:List SV)(s:SS)(K:SV→SS→T α):T α:=match b,args with
 | .len,[x]=>iff (Nat.ble 1 argTypes.size) <|opt (lenE c (c.ty (argTypes.getD 0 0)) s.H x) fun e=>K (.ii .i64 e) s
 | .cap,[x]=>iff (Nat.ble 1 argTypes.size) <|opt (Ev.elemOf (c.ty (argTypes.getD 0 0))) fun _=>match x with | .nils=>K (.ii .i64 (.il 0)) s | .emp=>K (.ii .i64 (.il 0)) s |_=>.fail
 | .append,[a,x]=>iff (Nat.beq argTypes.size 2) <|Qto c (argTypes.getD 0 0) (argTypes.getD 1 0) a x s K
 | .copy,[d,x]=>iff (Nat.beq argTypes.size 2) <|QEF c (argTypes.getD 0 0) d x s K
 | _,_=>.fail
def QEG (p a b:SV)(s:SS)(K:SV→SS→T α):T α:=match p with
 | .bb e=>branch e s fun x s=>match x with |true=>K a s |false=>K b s
 | _=>.fail
def QAF (t:TypeId)(s:SS)(K:SV→SS→T α):T α:=
 iff ((c.ty t).known&&(c.ty t).zero.all AV.Qax) <|opt (Qwj (c.ty t).zero) fun z=>opt (QlL c (c.ty t).zs z s.H) fun (z,H)=>
 K (.ptr H.length (natE 0) 0) { s with H:=H++[.box (c.ty t).size (tyOf c t) [z]] }
def boxT (t:TypeId)(v:SV)(s:SS)(K:SV→SS→T α):T α:=
 iff (v.cells.all SV.Qax) <|opt (QlL c (c.ty t).zs v.cells s.H) fun (cs,H)=>
 K (.ptr H.length (natE 0) 0) { s with H:=H++[.box v.cells.length (tyOf c t) [cs]] }
def Qql:SV→Option SV
 | .ptr b i o=>some (.ptr b i o)
 | .iptr cs=>some (.iptr cs)
 | .fn f caps=>some (.fn f caps)
 | .iface t v=>some (.iface t v)
 | _=>none
def QnP:Nat→SV→Bool
 | 0,_=>false
 | n+1,v=>match v with
  | .ptr .. | .sl .. | .map _ | .undef | .tup _=>false
  | .fn _ caps=>caps.isEmpty
  | .iface _ v=>QnP n v
  | .agg cs=>cs.all (QnP n)
  | _=>true
def QAG (t:TypeId)(i:TI)(v:SV):Option SV:=match i.d with
 | .iface=>none
 | .other=>none
 | _=>match QnP 8 v with |true=>some (.iface t v) |false=>none
def Qqm (fn:Fn)(first:Array Operand)(caps:List SV):Option SV:=match fn with
 | .func f=>match Nat.beq first.size 0 with |true=>some (.fn f caps) |false=>none
 | _=>none
def Qtq (i:TI)(r:Option SV)(s:SS)(K:SV→SS→T α):T α:=match i.d with
 | .map kt e=>opt (tyOf c kt) fun tk=>opt (tyOf c e) fun tv=>match r with
  | none=>K (.map s.H.length) { s with H:=s.H++[.map tk tv .nl] }
  | some (.ii _ _)=>K (.map s.H.length) { s with H:=s.H++[.map tk tv .nl] }
  | some _=>.fail
 | _=>.fail
def QnQ (i:TI)(l cp:SV)(s:SS)(K:SV→SS→T α):T α:=
 opt (Ev.elemOf i) fun e=>opt (tyOf c e) fun t=>opt (QAD c t e) fun z=>match l,cp with
 | .ii .i64 n,.ii .i64 m=>
  iff (Nat.ble 1 (c.ty e).bytes&&(c.ty e).zero.all AV.Qax) <|
  guards [leE .i64 (.il 0) n,match Ex.beq n m with |true=>.bl true |false=>eqE .i64 n m,nleE (mk2 .nmul (mk1 (.toN .i64) n) (natE (c.ty e).bytes)) (natE 140737488355328)] s fun s=>
  let x:=Ex.o2 .rep (mk1 (.toN .i64) n) z
  K (.sl s.H.length (natE 0) (mk1 (.len t) x)) { s with H:=s.H++[.rows (c.ty e).size t x] }
 | _,_=>.fail
def QAH (t:TypeId)(x:SV)(lo hi mx:Option SV)(s:SS)(K:SV→SS→T α):T α:=match mx with
 | none=>opt (QAE c t s.H x lo hi) fun (v,g)=>guards g s fun s=>K v s
 | some _=>.fail
def QnR (i:TI)(x:SV)(f:Nat):Option SV:=match QnA i f with
 | none=>none
 | some (off,u)=>match Nat.ble 1 (c.ty u).size with
  | false=>none
  | true=>match x with
   | .ptr b i o=>some (.ptr b i (o+off))
   | .iptr cs=>some (.iptr (cs.drop off))
   | _=>none
def QAI (i:TI)(x:SV)(f:Nat):Option SV:=match QnA i f with
 | none=>none
 | some (off,u)=>match x with
  | .agg cs=>QuQ (c.ty u) (cs.drop off)
  | _=>none
def Qqn (e:TypeId)(k:IntKind)(n:Ex)(x:SV)(s:SS)(K:SV→SS→T α):T α:=match x with
 | .tl t l=>iff (Nat.beq t.size (c.ty e).size) <|getI t k l n [] s fun y s=>K (.iptr (cellsOf t y)) s
 | .sl b off len=>iff (Qtm s.H b (c.ty e).size) <|match QiB s.H b with
  | none=>.fail
  | some t=>match (match s.H[b]? with |some (.rows _ _ l)=>some l |some (.ro _ _ l)=>some l |_=>none) with
   | none=>.fail
   | some l=>match Qqj t l off len with
    | true=>getI t k l n [] s fun _ s=>K (.ptr b (mk1 (.toN k) n) 0) s
    | false=>guards [leE k (.il 0) n,ltE k n (mk1 .ofN len)] s fun s=>K (.ptr b (mk2 .nadd off (mk1 (.toN k) n)) 0) s
 | _=>.fail
def QxP (m:Nat)(n:Ex):Option Nat:=match QD6 n with |some i=>(match Nat.blt i m with |true=>some i |false=>none) |none=>none
def Qtr (m:Nat)(e:TypeId)(n:Ex)(x:SV):Option SV:=match QxP m n with
 | some i=>match x with
  | .ptr b j o=>some (.ptr b j (o+i * (c.ty e).size))
  | .iptr cs=>some (.iptr (cs.drop (i * (c.ty e).size)))
  | _=>none
 | none=>none
def QnS (i:TI)(x ix:SV)(s:SS)(K:SV→SS→T α):T α:=match ix with
 | .ii k n=>match i.d with
  | .slice e=>Qqn c e k n x s K
  | .arr m e=>opt (Qtr c m e n x) fun v=>K v s
  | _=>.fail
 | _=>.fail
def chunks (t:Ty):Nat→List SV→Option (List Ex)
 | 0,_=>some []
 | m+1,cs=>match reify t cs with
  | none=>none
  | some (x,r)=>match chunks t m r with |some l=>some (x::l) |none=>none
def QxQ (i:TI)(x ix:SV)(s:SS)(K:SV→SS→T α):T α:=match ix with
 | .ii k n=>match i.d,x with
  | .arr m e,.agg cs=>match QxP m n with
   | some j=>opt (QuQ (c.ty e) (cs.drop (j * (c.ty e).size))) fun v=>K v s
   | none=>opt (tyOf c e) fun t=>opt (chunks t m cs) fun l=>
    iff ((c.ty e).known&&(eqB (c.ty e).isAgg (QmO t))) <|
    getI t k (QAC l) n [] s fun y s=>K (sval t y) s
  | .str,.ss e=>getI (.int .u8) k (.o1 .bytes e) n [] s fun y s=>K (.ii .u8 y) s
  | _,_=>.fail
 | _=>.fail
where eqB:Bool→Bool→Bool |true,true=>true |false,false=>true |_,_=>false
def keyT:TD→Ty→Bool
 | .int _,.int _=>true
 | .bool,.bool=>true
 | .str,.str=>true
 | _,_=>false
def zeroV (i:TI)(t:Ty):Option Ex:=match i.known,i.isAgg,i.zero with
 | true,false,[.bool b]=>(match t with | .bool=>some (.bl b) |_=>none)
 | true,false,[.int j n]=>(match t with | .int k=>(match kEq j k with |true=>some (.il n) |false=>none) |_=>none)
 | true,false,[.str s]=>(match t with | .str=>some (.st s) |_=>none)
 | _,_,_=>none
def QAJ:Ty→Bool
 | .int _=>true
 | .bool=>true
 | .str=>true
 | _=>false
def Qwr (i:TI)(H:SH)(x ix:SV)(ok:Bool):Option SV:=match i.d,x with
 | .map kt e,.map b=>match H[b]? with
  | some (.map tk tv m)=>match keyT (c.ty kt).d tk with
   | true=>match Qsl tk ix,zeroV (c.ty e) tv with
    | some k,some z=>(match ok with |true=>some (.tup [sval tv (.o3 (.mget tk) m k z),.bb (.o2 (.has tk tv) m k)]) |false=>some (sval tv (.o3 (.mget tk) m k z)))
    | _,_=>none
   | false=>none
  | _=>none
 | _,_=>none
def Qts (i:TI)(H:SH)(m k v:SV):Option SH:=match i.d,m with
 | .map kt _,.map b=>match H[b]? with
  | some (.map tk tv l)=>match keyT (c.ty kt).d tk&&QAJ tv with
   | true=>match Qsl tk k,Qsl tv v with
    | some k,some v=>some (H.set b (.map tk tv (.o3 .mput l k v)))
    | _,_=>none
   | false=>none
  | _=>none
 | _,_=>none
def Qtt (i:Nat):SV→Option SV
 | .tup vs=>vs[i]?
 | _=>none
def QAK (cl:Call)(s:SS)(K:SV→SS→T α):T α:=match cl.callee with
 | .value f=>match opvS s.fr f with
  | .fn g caps=>Qii c tb g (cl.args.toList.map (opvS s.fr)++caps) s K
  | _=>.fail
 | .builtin b=>Qtp c b cl.argTypes (cl.args.toList.map (opvS s.fr)) s K
 | _=>.fail
def opS (o:Oper)(s:SS)(K:SV→SS→T α):T α:=match o.op with
 | .move x | .assign x=>K (opvS s.fr x) s
 | .pick p a b=>QEG (opvS s.fr p) (opvS s.fr a) (opvS s.fr b) s K
 | .alloc e=>QAF c e s K
 | .box e x=>boxT c e (opvS s.fr x) s K
 | .build t parts=>opt (QAB c (c.ty t) (parts.toList.map fun p=>(p.1,opvS s.fr p.2))) fun v=>K v s
 | .buildSlice t len parts=>Qmb c (c.ty t) len (parts.toList.map fun p=>(p.1,opvS s.fr p.2)) s K
 | .load t a=>loadT c t (opvS s.fr a) s K
 | .store t a v=>storeT c t (opvS s.fr a) (opvS s.fr v) s fun s=>K (.tup []) s
 | .nilCheck x=>opt (Qql (opvS s.fr x)) fun v=>K v s
 | .binOp op t x y _=>opt (QxO c (c.ty t) (isConst x||isConst y) op (opvS s.fr x) (opvS s.fr y)) fun (v,g)=>guard g s fun s=>K v s
 | .unOp op _ x=>opt (QEE op (opvS s.fr x)) fun v=>K v s
 | .convert a d x=>opt (Qtl (c.ty a) (c.ty d) (opvS s.fr x)) fun v=>K v s
 | .makeInterface t x=>opt (QAG t (c.ty t) (opvS s.fr x)) fun v=>K v s
 | .makeFunc fn first caps=>opt (Qqm fn first (caps.toList.map (opvS s.fr))) fun v=>K v s
 | .makeMap t r=>Qtq c (c.ty t) (r.map (opvS s.fr)) s K
 | .makeSlice t l cp=>QnQ c (c.ty t) (opvS s.fr l) (opvS s.fr cp) s K
 | .slice t x lo hi mx=>QAH c t (opvS s.fr x) (lo.map (opvS s.fr)) (hi.map (opvS s.fr)) (mx.map (opvS s.fr)) s K
 | .fieldAddr t x f=>opt (QnR c (c.ty t) (opvS s.fr x) f) fun v=>K v s
 | .field t x f=>opt (QAI c (c.ty t) (opvS s.fr x) f) fun v=>K v s
 | .indexAddr t x ix=>QnS c (c.ty t) (opvS s.fr x) (opvS s.fr ix) s K
 | .index t x ix=>QxQ c (c.ty t) (opvS s.fr x) (opvS s.fr ix) s K
 | .lookup t x ix ok=>opt (Qwr c (c.ty t) s.H (opvS s.fr x) (opvS s.fr ix) ok) fun v=>K v s
 | .mapUpdate t m k v=>opt (Qts c (c.ty t) s.H (opvS s.fr m) (opvS s.fr k) (opvS s.fr v)) fun H=>K (.tup []) { s with H:=H }
 | .insert t m k v=>opt (Qts c (c.ty t) s.H (opvS s.fr m) (opvS s.fr k) (opvS s.fr v)) fun H=>K (.tup []) { s with H:=H }
 | .extract t i=>opt (Qtt i (opvS s.fr t)) fun v=>K v s
 | .call cl=>QAK c tb cl s K
 | _=>.fail
def Qws (ops:Array Oper)(o:Oper)(s:SS)(K:Bool→SS→T α):T α:=match o.guard with
 | none=>K true s
 | some (j,want)=>match (ops[j]?).bind (·.dst) with
  | some d=>match getF s.fr d with
   | .bb e=>branch e s fun b s=>K (match b,want with |true,true=>true |false,false=>true |_,_=>false) s
   | .tup _=>K false s
   | _=>.fail
  | none=>.fail
def stepT (n:Nat)(ops:Array Oper)(o:Oper)(s:SS)(K:Bool→SS→T α):T α:=match QrD n o.dst with
 | false=>.fail
 | true=>Qws ops o s fun w s=>match w with
  | false=>K false { s with fr:=putF s.fr o.dst (.tup []) }
  | true=>opS c tb o s fun v s=>K true { s with fr:=putF s.fr o.dst v }
def QyW (n:Nat)(ops:Array Oper):List Oper→SS→(SS→T α)→T α
 | [],s,K=>K s
 | o::l,s,K=>stepT c tb n ops o s fun _ s=>QyW n ops l s K
structure STra where
 st:SS
 rd:List (Nat×Nat×Option Ex)
def QuW (k:Nat)(o:Oper)(fr:SF):List (Nat×Nat×Option Ex):=match o.op with
 | .load _ a=>match opvS fr a with | .ptr b i _=>[(k,b,some i)] |_=>[]
 | .slice _ x _ _ _=>match opvS fr x with | .sl b _ _=>[(k,b,none)] |_=>[]
 | .indexAddr _ x _=>match opvS fr x with | .sl b _ _=>[(k,b,none)] |_=>[]
 | _=>[]
def known (t:Ty)(l i:Ex)(fs:List Fact):Bool:=(QrI t (asInt i).1 l (asInt i).2 fs).isSome
def Qtu (fs:List Fact)(H H':SH)(b:Nat)(i:Ex):Bool:=match H[b]?,H'[b]? with
 | some (.rows _ t e),some (.rows _ t' e')=>Ty.beq t t'&&(Ex.beq e e'&&known t' e' i fs)
 | some (.rows _ t e),some (.ro _ t' e')=>Ty.beq t t'&&(Ex.beq e e'&&known t' e' i fs)
 | some (.ro _ t e),some (.ro _ t' e')=>Ty.beq t t'&&(Ex.beq e e'&&known t' e' i fs)
 | some (.box _ _ es),some (.box _ _ es')=>(match Qsn i with |some j=>(match es[j]?,es'[j]? with |some r,some r'=>SV.beqL r r' |_,_=>false) |none=>false)
 | _,_=>false
def QnT (fs:List Fact)(H H':SH)(q:Nat×Nat×Option Ex):Bool:=match q.2.2 with
 | some i=>Qtu fs H H' q.2.1 i
 | none=>match Qlu H q.2.1,Qlu H' q.2.1 with |some x,some y=>Nat.beq x y |_,_=>false
def QAL (n:Nat)(rd:List (Nat×Nat×Option Ex)):Bool:=rd.all fun q=>match q.2.2 with |some i=>i.bnd n |none=>true
def QAM (n:Nat)(ops:Array Oper)(i:Nat)(w:List Nat)(t:STra)(K:STra→T α):T α:=match ops[i]? with
 | none=>.fail
 | some o=>iff (QAL t.st.nx t.rd&&bndH t.st.nx t.st.H) <|stepT c tb n ops o t.st fun _ s=>
  let rd:=t.rd.filter fun q=>w.contains q.1
  iff (rd.all (QnT s.fs t.st.H s.H)) <|K { st:=s,rd:=rd }
def QxR (m:Nat)(s:SS)(K:SS→T α):T α:=opt (QuT m s) K
def beqS (a b:SS):Bool:=beqF a.fr b.fr&&beqH a.H b.H
def QxS (n:Nat)(t:STra):Bool:=bndF n t.st.fr&&(bndH n t.st.H&&QAL n t.rd)
def Qtv (run:List Nat→Nat→Plan→STra→(SS→T α)→T α)(m:Nat)(t:STra)(c1:SS):List (Nat×List Nat×Plan)→SS→(SS→T α)→T α
 | [],now,K=>K { c1 with nx:=now.nx,fs:=now.fs }
 | (i,w,p)::r,now,K=>
  iff (bndF now.nx c1.fr&&(bndH now.nx c1.H&&QxS now.nx t)) <|
  run w i p { t with st:={ t.st with nx:=now.nx,fs:=now.fs } } fun s=>QxR m s fun c2=>iff (beqS c1 c2) <|Qtv run m t c1 r c2 K
def Qpa (m n:Nat)(ops:Array Oper):Nat→Plan→STra→(SS→T α)→T α
 | 0,_,_,_=>.fail
 | _+1,.done,t,K=>K t.st
 | k+1,.take i p,t,K=>match ops[i]? with
  | none=>.fail
  | some o=>
   let rd:=QuW i o t.st.fr++t.rd
   iff (QAL t.st.nx rd) <|stepT c tb n ops o t.st fun w s=>Qpa m n ops k p { st:=s,rd:=match w with |true=>rd |false=>t.rd } K
 | k+1,.fork l,t,K=>match l with
  | []=>.fail
  | [(i,w,p)]=>QAM c tb n ops i w t fun t=>Qpa m n ops k p t K
  | (i,w,p)::r=>iff (QxS t.st.nx t) <|QAM c tb n ops i w t fun t0=>Qpa m n ops k p t0 fun t1=>QxR m t1 fun c1=>
   Qtv (fun w i p t K=>QAM c tb n ops i w t fun u=>Qpa m n ops k p u K) m t c1 r c1 K
def Qtw (f m n id:Nat)(ops:Array Oper)(draw:Bool)(s:SS)(K:SS→T α):T α:=
 let k:=fun (s:SS)=>K { s with fr:=Qth (c.keep f id) s.fr }
 match draw with
 | true=>Qpa c tb m n ops (ops.size+1) (c.plan f id) { st:=s,rd:=[] } k
 | false=>QyW c tb n ops ops.toList s k
def Qqo (f mask m:Nat)(s:SS)(K:SS→T α):T α:=opt (QCZ c (c.nilz f) mask m s) K
def Qtx:Op→List Operand
 | .move x | .assign x=>[x]
 | .pick p a b=>[p,a,b]
 | .box _ x=>[x]
 | .build _ parts=>parts.toList.map (·.2)
 | .buildSlice _ _ parts=>parts.toList.map (·.2)
 | .load _ a=>[a]
 | .store _ a v=>[a,v]
 | .nilCheck x=>[x]
 | .binOp _ _ x y _=>[x,y]
 | .unOp _ _ x=>[x]
 | .convert _ _ x=>[x]
 | .makeInterface _ x=>[x]
 | .makeFunc _ _ caps=>caps.toList
 | .makeMap _ r=>r.toList
 | .makeSlice _ l cp=>[l,cp]
 | .slice _ x lo hi mx=>x::(lo.toList++(hi.toList++mx.toList))
 | .fieldAddr _ x _=>[x]
 | .field _ x _=>[x]
 | .indexAddr _ x ix=>[x,ix]
 | .index _ x ix=>[x,ix]
 | .lookup _ x ix _=>[x,ix]
 | .mapUpdate _ m k v | .insert _ m k v=>[m,k,v]
 | .extract t _=>[t]
 | .call cl=>(match cl.callee with | .value f=>[f] |_=>[])++cl.args.toList
 | _=>[]
def QD7 (M:Nat):Operand→Bool
 | .tmp t=>Ev.tb M t
 | _=>true
def QuX (M:Nat)(ops:Array Oper)(o:Oper):Bool:=(Qtx o.op).all (QD7 M)&&(match o.guard with
 | none=>true
 | some (j,_)=>match (ops[j]?).bind (·.dst) with |some d=>Ev.tb M d |none=>true)
def Qwt (K M:Nat):Bool:=Nat.beq (Nat.land K M) K
def QuY (d:Nat)(r:SF):Bool:=match r with |[]=>true |q::_=>Nat.blt d q.1
def Qmc:SF→Bool
 | []=>true
 | p::r=>QuY p.1 r&&Qmc r
def QAN (o:Oper):Bool:=match o.op with | .pick ..=>true |_=>false
def segs:List Oper→List (List Oper)
 | []=>[[]]
 | o::l=>match QAN o with
  | true=>[o]::segs l
  | false=>match segs l with |s::r=>(o::s)::r |[]=>[[o]]
def Qwu:List Operand→Nat→Nat
 | [],m=>m
 | .tmp t::l,m=>Qwu l (Nat.lor m (Nat.shiftLeft 1 t))
 | _::l,m=>Qwu l m
def Qwv (ops:Array Oper):List Oper→Nat→Nat
 | [],m=>m
 | o::l,m=>Qwv ops l (Qwu (Qtx o.op) (match o.guard with |none=>m |some (j,_)=>match (ops[j]?).bind (·.dst) with |some d=>Nat.lor m (Nat.shiftLeft 1 d) |none=>m))
def leaves {β:Type}:T β→List β
 | .ret a=>[a]
 | .ite _ x y=>leaves x++leaves y
 | .get _ _ _ _ _ x=>leaves x
 | .call _ _ _ ks=>leaves ks
 | .join _ _ _ ks=>leaves ks
 | .alt k r=>leaves k++leaves r
 | _=>[]
structure Shp where
 ex:Go.Ev.Ex
 fr:SF
 H:SH
 ts:List Ty
 hs:List (Option Ex)
def Qww (nx:Nat):List (Option Ex)→List Ex→List (Option Ex)
 | some a::l,b::r=>(match Ex.beq a b with |true=>some a |false=>none)::Qww nx l r
 | none::l,_::r=>none::Qww nx l r
 | l,_=>l
def QD8 (nx:Nat)(ex:Go.Ev.Ex)(fr:SF)(H:SH)(θ:List (Ty×Ex)):List Shp→List Shp
 | []=>[{ ex:=ex,fr:=fr,H:=H,ts:=θ.map (·.1),hs:=θ.map fun p=>match p.2.bnd nx with |true=>some p.2 |false=>none }]
 | s::l=>match QuV s.ex ex&&(beqF s.fr fr&&(beqH s.H H&&QyV s.ts (θ.map (·.1)))) with
  | true=>{ s with hs:=Qww nx s.hs (θ.map (·.2)) }::l
  | false=>s::QD8 nx ex fr H θ l
def QFX:Go.Ev.Ex→Bool | .norm=>true |_=>false
def QAO (f mask m:Nat)(p:Go.Ev.Ex×SS):Option (Go.Ev.Ex×SS):=match p.1 with
 | .norm=>match QCZ c (c.nilz f) mask m p.2 with |some s=>some (.norm,s) |none=>none
 | e=>some (e,p.2)
def QD9 (nx:Nat):List (Option (Go.Ev.Ex×SS))→List Shp→Option (List Shp)
 | [],l=>some l
 | none::_,_=>none
 | some (ex,s)::r,l=>match absS s.fr s.H with
  | none=>none
  | some (fr,H,θ)=>QD9 nx r (QD8 nx ex fr H θ l)
def QhB (nx:Nat):List (Option Ex)→List Ty→List (Ty×Ex)→Option (List Ex)
 | [],[],[]=>some []
 | some a::l,t::ts,(u,e)::r=>match Ty.beq t u&&(Ex.beq a e&&a.bnd nx) with |true=>QhB nx l ts r |false=>none
 | none::l,t::ts,(u,e)::r=>match Ty.beq t u with |true=>(match QhB nx l ts r with |some es=>some (e::es) |none=>none) |false=>none
 | _,_,_=>none
def Qmd (nx:Nat):List Shp→Nat→Go.Ev.Ex→SF→SH→List (Ty×Ex)→Option (Nat×List Ex)
 | [],_,_,_,_,_=>none
 | s::l,j,ex,fr,H,θ=>match QuV s.ex ex&&(beqF s.fr fr&&beqH s.H H) with
  | true=>match QhB nx s.hs s.ts θ with |some es=>some (j,es) |none=>Qmd nx l (j+1) ex fr H θ
  | false=>Qmd nx l (j+1) ex fr H θ
def Qwx (nx:Nat)(l:List Shp)(p:Go.Ev.Ex×SS):Option (Nat×List Ex):=match absS p.2.fr p.2.H with
 | none=>none
 | some (fr,H,θ)=>Qmd nx l 0 p.1 fr H θ
def Shp.new (s:Shp):List Ty:=QyX s.hs s.ts
where QyX:List (Option Ex)→List Ty→List Ty
 | some _::l,_::ts=>QyX l ts
 | none::l,t::ts=>t::QyX l ts
 | _,_=>[]
def QC0:List (Option Ex)→Nat→List Ex
 | [],_=>[]
 | some e::l,n=>e::QC0 l n
 | none::l,n=>.v n::QC0 l (n+1)
def Shp.σ (s:Shp)(n:Nat):Nat→Ex:=fun i=>(QC0 s.hs n).getD i .un
def QyY (s0:SS)(K:Go.Ev.Ex×SS→T α):List Shp→T α
 | []=>.fail
 | s::l=>.alt (K (s.ex,{ fr:=QrJ (s.σ s0.nx) s.fr,H:=Qtk (s.σ s0.nx) s.H,nx:=s0.nx+s.new.length,fs:=s0.fs })) (QyY s0 K l)
def QHd (l:List (Go.Ev.Ex×SS)):Nat:=(l.filter fun p=>QFX p.1).length
def QC1 (rd:Go.Ev.Ex×SS→Option (Go.Ev.Ex×SS))(x:T (Go.Ev.Ex×SS))(s0:SS)(K:Go.Ev.Ex×SS→T (Go.Ev.Ex×SS)):T (Go.Ev.Ex×SS):=
 match Nat.blt 1 (QHd (leaves x)) with
 | false=>x.bind fun p=>opt (rd p) K
 | true=>match QD9 s0.nx ((leaves x).map rd) [] with
  | none=>.fail
  | some l=>iff (s0.bnd) <| .join (l.map Shp.new) (x.bind fun p=>opt (rd p) fun p=>outT (Qwx s0.nx l p)) s0.nx (QyY s0 K l)
def QEH {β:Type}(f mask m:Nat)(x:T (Go.Ev.Ex×SS))(s0:SS)(K:Go.Ev.Ex×SS→T (Go.Ev.Ex×SS)):T (Go.Ev.Ex×SS):=QC1 (QAO c f mask m) x s0 K
def QxT (fs:List Fact)(e:Ex):Option Bool:=match e with
 | .o1 o x=>match o with
  | .not=>(match QmQ x fs with |some b=>some (!b) |none=>none)
  | o=>QmQ (.o1 o x) fs
 | e=>QmQ e fs
def QnU (fs:List Fact):SF→SF
 | []=>[]
 | p::r=>(match p.2 with | .bb e=>(match QxT fs e with |some b=>(p.1,.bb (.bl b)) |none=>p) |_=>p)::QnU fs r
def segT (n:Nat)(ops:Array Oper)(keep:Nat):List (List Oper)→SS→T (Go.Ev.Ex×SS)
 | [],s=>.ret (.norm,{ s with fr:=Qth keep s.fr })
 | l::r,s=>match r with
  | []=>QyW c tb n ops l s fun s=>.ret (.norm,{ s with fr:=Qth keep s.fr })
  | _::_=>let M:=Qwv ops r.flatten keep
   iff (Qwt keep M&&r.flatten.all (QuX M ops)) <|
   QC1 some (QyW c tb n ops l s fun s=>iff (Qmc s.fr) <| .ret (.norm,{ s with fr:=QnU s.fs (Qth M s.fr) })) s fun p=>segT n ops keep r p.2
def regT (f m n id:Nat)(ops:Array Oper)(draw:Bool)(s:SS):T (Go.Ev.Ex×SS):=match draw with
 | true=>Qtw c tb f m n id ops true s fun s=>.ret (.norm,s)
 | false=>match c.keep f id with
  | 0=>Qtw c tb f m n id ops false s fun s=>.ret (.norm,s)
  | k+1=>segT c tb n ops (k+1) (segs ops.toList) s
def QyZ (f:Nat):Code→Nat
 | .region id _ _=>c.pre f id
 | .seq a _=>QyZ f a
 | _=>0
def seqK (e:Go.Ev.Ex)(s:SS)(k:SS→T (Go.Ev.Ex×SS)):T (Go.Ev.Ex×SS):=match e with
 | .norm=>k s
 | e=>.ret (e,s)
def QEa (tb:Tab)(f blk m:Nat):List Nat:=(tb.loops f blk).filter fun i=>Nat.beq (tb.fam i).m m
def QC2 (f blk m:Nat)(s:SS):T (Go.Ev.Ex×SS):=
 Qqo c f (c.live f blk) m s fun s=>opt (absS s.fr s.H) fun (fr,H,θ)=>
 opt (QkM tb (QEa tb f blk m) fr H θ) fun fam=>
 iff (Nat.beq (tb.fam fam).kind 2&&(Nat.beq (tb.fam fam).f f&&(Nat.beq (tb.fam fam).id blk&&Nat.beq (tb.fam fam).m m))) <|
 QrK tb fam (θ.map (·.2)) [] s fun o n s=>let q:=o.state (θ.map (·.2)) n; .ret (o.ex,{ s with fr:=q.1,H:=q.2 })
def QnV (f m n:Nat)(co:Code):Nat→Bool→SS→T (Go.Ev.Ex×SS):=
 Code.rec (motive:=fun _=>Nat→Bool→SS→T (Go.Ev.Ex×SS))
  (fun _ _ s=>.ret (.norm,s))
  (fun id ops draw _ rdy s=>
   match rdy||Nat.beq (c.pre f id) 0 with
   | true=>regT c tb f m n id ops draw s
   | false=>Qqo c f (c.pre f id) m s fun s=>regT c tb f m n id ops draw s)
  (fun _ b' a b blk rdy s=>match QyZ c f b' with
   | 0=>(a blk rdy s).bind fun p=>seqK p.1 p.2 (b blk false)
   | mask=>QEH c (β:=Unit) f mask m (a blk rdy s) s fun p=>seqK p.1 p.2 (b blk true))
  (fun p _ _ a b blk rdy s=>match opvS s.fr p with
   | .bb e=>branch e s fun x s=>match x with |true=>a blk false s |false=>b blk false s
   | _=>.fail)
  (fun id _ a _ rdy s=>(a id false s).bind fun p=>match p.1 with
   | .exit k=>match Nat.beq k id with |true=>.ret (.norm,p.2) |false=>.ret (.exit k,p.2)
   | e=>.ret (e,p.2))
  (fun _ _ blk rdy s=>QC2 c tb f blk m s)
  (fun _ _ _ _ _ _ _ _ _=>.fail)
  (fun id _ rdy s=>Qqo c f (c.out f id) m s fun s=>.ret (.exit id,s))
  (fun _ _ _ _ _=>.fail)
  (fun _ _ _ _=>.fail)
  (fun _ _ _ _=>.fail)
  (fun _ rdy s=>Qqo c f (c.res f) m s fun s=>.ret (.ret,s))
  (fun _ _ _ _=>.fail)
  co
def QaI:Code→Nat→List (Nat×Code)
 | .seq a b,blk=>QaI a blk++QaI b blk
 | .cond _ a b,blk=>QaI a blk++QaI b blk
 | .block id a,_=>QaI a id
 | .loop b,blk=>(blk,b)::QaI b blk
 | _,_=>[]
def Qkg:List (Nat×Code)→Nat→Option Code
 | [],_=>none
 | (a,b)::r,k=>match Nat.beq a k with |true=>some b |false=>Qkg r k
def Qso:List Nat→Bool
 | []=>true
 | a::l=>!isIn a l&&Qso l
def Qwy (r:ResultVar)(s:SS)(K:SV→SS→T α):T α:=match r with
 | .tmp t=>K (getF s.fr t) s
 | .cell a t=>loadT c t (getF s.fr a) s K
def QmT:List ResultVar→List SV→SS→(List SV→SS→T α)→T α
 | [],vs,s,K=>K vs s
 | r::l,vs,s,K=>iff (s.bnd&&SV.bndL s.nx vs) <|Qwy c r s fun v s=>QmT l (vs++[v]) s K
def Qwz:List SV→SV |[v]=>v |vs=>.tup vs
def endT (F:Func)(p:Go.Ev.Ex×SS)(K:List SV→SS→T α):T α:=match p.1 with
 | .exit _=>.fail
 | _=>QmT c F.results.toList [] p.2 K
def Qlv:List SV→List SV→SS→(List SV→SS→T α)→T α
 | [],vs,s,K=>K vs s
 | v::l,vs,s,K=>opt (Qbq s.H 12 v) fun (x,g)=>guards g s fun s=>Qlv l (vs++[x]) s K
def QnW:List (Ty×Ex)→List (Hk×Ty)→Nat→Bool
 | [],[],_=>true
 | (t,e)::r,(_,u)::l,k=>Ty.beq t u&&(Ex.beq e (.v k)&&QnW r l (k+1))
 | _,_,_=>false
def QwA (o:Out):Bool:=match absS o.fr o.H with
 | some (fr,H,θ)=>beqF fr o.fr&&(beqH H o.H&&QnW θ o.hs 0)
 | none=>false
def QuZ (ps:List Ty)(θ:List Ex)(hs:List (Hk×Ty)):Bool:=hs.all fun h=>match h.1 with | .par i=>Ex.beq (θ.getD i .un) (.v i)&&tyAt ps i h.2 | .con e=>e.bnd 0 | .new=>true
def QFY (ps:List Ty)(outs:List Out)(θ:List Ex):Bool:=outs.all fun o=>QwA o&&QuZ ps θ o.hs
def QAP (fam:Nat)(f id m:Nat)(s:SS):T Unit:=
 Qqo c f (c.live f id) m s fun s=>opt (absS s.fr s.H) fun (fr,H,θ)=>
 opt (QkM tb (QEa tb f id m) fr H θ) fun g=>
 iff (Nat.beq (tb.fam g).kind 2&&(Nat.beq (tb.fam g).f f&&(Nat.beq (tb.fam g).id id&&Nat.beq (tb.fam g).m m))) <|
 match Nat.beq g fam&&QFY (tb.fam fam).ps (tb.fam fam).outs (θ.map (·.2)) with
 | true=>.tail fam (θ.map (·.2))
 | false=>QrK tb g (θ.map (·.2)) [] s fun o n s=>let q:=o.state (θ.map (·.2)) n; outT (QlW (tb.fam fam).ps (tb.fam fam).outs o.ex q.1 q.2)
def QAQ (ts:List Ty):Out:={ ex:=.ret,fr:=[(0,Qwz (Qwm ts 0))],H:=[],hs:=ts.map fun t=>(.new,t) }
def QAR (q:Fam):Bool:=match q.outs with
 | [o]=>beqF o.fr [(0,Qwz (Qwm o.ts 0))]&&(beqH o.H []&&Nat.beq o.ts.length o.hs.length)
 | _=>false
def QoN:SF→Nat→Bool
 | [],_=>true
 | p::r,k=>Nat.beq p.1 k&&QoN r (k+1)
def isNo:Prim→Bool | .no=>true |_=>false
def pfnT (q:Fam)(F:Func)(b:Code):T (List SV×SS):=
 (QnV c tb q.f 0 F.ntmps b 0 false { fr:=q.fr,H:=[],nx:=q.ps.length,fs:=[] }).bind fun p=>endT c F p fun vs s=>Qlv vs [] s fun vs s=>.ret (vs,s)
def fnT (q:Fam)(F:Func)(b:Code):T (List SV×SS):=
 (QnV c tb q.f q.H.length F.ntmps b 0 false { fr:=q.fr,H:=match c.stay q.f with |true=>q.H |false=>Qwk (q.fr.map (·.2)) q.H,nx:=q.ps.length,fs:=[] }).bind fun p=>endT c F p fun vs s=>.ret (vs,s)
def body (i:Nat):T Unit:=
 let q:=tb.fam i
 opt (c.fn q.f) fun F=>opt F.body fun b=>
 iff (Qso ((QaI b 0).map (·.1))) <|
 match q.kind with
 | 0=>iff (Nat.ble q.fr.length F.ntmps&&(QAR q&&(isNo (c.prim q.f)&&QoN q.fr 0))) <|(pfnT c tb q F b).bind fun r=>opt (Qf1 (q.outs.flatMap Out.ts) r.1) fun es=>.out 0 es
 | 3=>iff (Nat.ble q.fr.length F.ntmps&&(isNo (c.prim q.f)&&QoN q.fr 0)) <|(pfnT c tb q F b).bind fun r=>outT (QlW q.ps q.outs .ret [(0,Qwz r.1)] [])
 | 1=>iff (Nat.ble q.fr.length F.ntmps&&QoN q.fr 0) <|(fnT c tb q F b).bind fun r=>opt (QuT q.H.length { r.2 with fr:=[(0,Qwz r.1)] }) fun s=>outT (QlW q.ps q.outs .ret s.fr s.H)
 | 2=>opt (Qkg (QaI b 0) q.id) fun b=>(QnV c tb q.f q.m F.ntmps b q.id false { fr:=q.fr,H:=q.H,nx:=q.ps.length,fs:=[] }).bind fun p=>match p.1 with
  | .norm=>QAP c tb i q.f q.id q.m p.2
  | e=>outT (QlW q.ps q.outs e p.2.fr p.2.H)
 | _=>.fail
end
end Go.Sy
