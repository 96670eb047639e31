/- Symbolic runs of the evaluator: values, states, operations, code. Definitions only, nothing is claimed here. -/
import Derived.Test.YtkecfadnfnnfaaaGreatDoorEvB
set_option linter.unusedVariables false
namespace Go.Sy
open Go Go.Ev
inductive Ty where
 | nat
 | int (k:IntKind)
 | bool
 | str
 | unit
 | lst (e:Ty)
 | pair (a b:Ty)
 deriving DecidableEq,Inhabited,Repr
@[reducible] def Ty.D:Ty→Type
  | .nat=>Nat
  | .int _=>Int
  | .bool=>Bool
  | .str=>List UInt8
  | .unit=>Unit
  | .lst e=>List e.D
  | .pair a b=>a.D×b.D
def dflt:(t:Ty)→t.D
 | .nat=>(0:Nat)
 | .int _=>(0:Int)
 | .bool=>false
 | .str=>([]:List UInt8)
 | .unit=>()
 | .lst e=>([]:List e.D)
 | .pair a b=>(dflt a,dflt b)
def kEq (a b:IntKind):Bool:=match a,b with
 | .i8,.i8 | .i16,.i16 | .i32,.i32 | .i64,.i64 | .u8,.u8 | .u16,.u16 | .u32,.u32 | .u64,.u64=>true
 | _,_=>false
def Ty.beq:Ty→Ty→Bool
 | .nat,.nat=>true
 | .int a,.int b=>kEq a b
 | .bool,.bool=>true
 | .str,.str=>true
 | .unit,.unit=>true
 | .lst a,.lst b=>Ty.beq a b
 | .pair a b,.pair x y=>Ty.beq a x&&Ty.beq b y
 | _,_=>false
def Ty.size:Ty→Nat
 | .unit=>0
 | .pair a b=>a.size+b.size
 | _=>1
abbrev Env:=Nat→(t:Ty)→t.D
def Env.none:Env:=fun _ t=>dflt t
def Env.set (env:Env)(n:Nat)(t:Ty)(x:t.D):Env:=fun m u=>
 match Nat.beq m n with
 | true=>if h:t=u then h▸x else env m u
 | false=>env m u
inductive O1 where
 | len (u:Ty)
 | slen
 | ofN
 | toN (k:IntKind)
 | unop (o:UnOp) (k:IntKind)
 | not
 | conv (j:IntKind)
 | bytes
 | fst (u:Ty)
 | snd (u:Ty)
 deriving DecidableEq,Inhabited
inductive O2 where
 | arith (o:BinOp) (k:IntKind)
 | shift (o:BinOp) (k j:IntKind)
 | cmp (o:BinOp) (k:IntKind)
 | beq
 | scmp (o:BinOp)
 | cat
 | mk
 | cons
 | app
 | tk
 | dr
 | rep
 | nadd
 | nsub
 | nmul
 | nle
 | and
 | has (k v:Ty)
 deriving DecidableEq,Inhabited
inductive O3 where
 | set
 | ssub
 | mget (k:Ty)
 | mput
 deriving DecidableEq,Inhabited
inductive Ex where
 | v (n:Nat)
 | il (n:Int)
 | nn (n:Nat)
 | bl (b:Bool)
 | st (s:List UInt8)
 | nl
 | un
 | o1 (o:O1) (a:Ex)
 | o2 (o:O2) (a b:Ex)
 | o3 (o:O3) (a b c:Ex)
 deriving Inhabited
def o1Eq (a b:O1):Bool:=match a,b with
 | .len u,.len w=>Ty.beq u w
 | .slen,.slen | .ofN,.ofN | .not,.not | .bytes,.bytes=>true
 | .toN a,.toN b=>kEq a b
 | .unop o k,.unop p j=>decide (o=p)&&kEq k j
 | .conv a,.conv b=>kEq a b
 | .fst u,.fst w=>Ty.beq u w
 | .snd u,.snd w=>Ty.beq u w
 | _,_=>false
def o2Eq (a b:O2):Bool:=match a,b with
 | .arith o k,.arith p j=>decide (o=p)&&kEq k j
 | .shift o k l,.shift p j m=>decide (o=p)&&(kEq k j&&kEq l m)
 | .cmp o k,.cmp p j=>decide (o=p)&&kEq k j
 | .scmp o,.scmp p=>decide (o=p)
 | .beq,.beq | .cat,.cat | .mk,.mk | .cons,.cons | .app,.app | .tk,.tk | .dr,.dr | .rep,.rep | .nadd,.nadd | .nsub,.nsub | .nmul,.nmul | .nle,.nle | .and,.and=>true
 | .has a b,.has u w=>Ty.beq a u&&Ty.beq b w
 | _,_=>false
def o3Eq (a b:O3):Bool:=match a,b with
 | .set,.set | .ssub,.ssub | .mput,.mput=>true
 | .mget a,.mget b=>Ty.beq a b
 | _,_=>false
def Qqg:List UInt8→List UInt8→Bool
 | [],[]=>true
 | a::l,b::m=>Nat.beq a.toNat b.toNat&&Qqg l m
 | _,_=>false
def Ex.beq:Ex→Ex→Bool
 | .v a,.v b=>Nat.beq a b
 | .il a,.il b=>eqI a b
 | .nn a,.nn b=>Nat.beq a b
 | .bl a,.bl b=>a==b
 | .st a,.st b=>Qqg a b
 | .nl,.nl=>true
 | .un,.un=>true
 | .o1 o a,.o1 p x=>o1Eq o p&&Ex.beq a x
 | .o2 o a b,.o2 p x y=>o2Eq o p&&(Ex.beq a x&&Ex.beq b y)
 | .o3 o a b c,.o3 p x y z=>o3Eq o p&&(Ex.beq a x&&(Ex.beq b y&&Ex.beq c z))
 | _,_=>false
def unI (o:UnOp)(k:IntKind)(n:Int):Int:=match o with
 | .neg=>wr k (0 - n)
 | .xor=>(intBits .xor k (if k.signed then -1 else k.max) n).getD 0
 | _=>0
def arI (o:BinOp)(k:IntKind)(x y:Int):Int:=match o with
 | .add=>wr k (x+y)
 | .sub=>wr k (x - y)
 | .mul=>wr k (x * y)
 | .quo=>wr k (x.tdiv y)
 | .rem=>x.tmod y
 | o=>(intBits o k x y).getD 0
def shI (o:BinOp)(k:IntKind)(x y:Int):Int:=match o with
 | .shl=>wr k (x * 2 ^ (min y.toNat k.bits))
 | _=>x.fdiv (2 ^ (min y.toNat k.bits))
def cmI (o:BinOp)(x y:Int):Bool:=match o with
 | .eql=>decide (x=y)
 | .neq=>!decide (x=y)
 | .lss=>decide (x<y)
 | .leq=>decide (x≤y)
 | .gtr=>decide (y<x)
 | .geq=>decide (y≤x)
 | _=>false
def cmS (o:BinOp)(x y:List UInt8):Bool:=match o with
 | .eql=>decide (x=y)
 | .neq=>!decide (x=y)
 | .lss=>QgP x y
 | .leq=>QgP x y||decide (x=y)
 | .gtr=>!(QgP x y||decide (x=y))
 | .geq=>!QgP x y
 | _=>false
def O1.den (o:O1)(x:(u:Ty)→u.D)(t:Ty):t.D:=match o with
 | .len u=>match t with | .nat=>(x (.lst u)).length |t=>dflt t
 | .slen=>match t with | .nat=>(x .str).length |t=>dflt t
 | .ofN=>match t with | .int _=>((x .nat:Nat):Int) |t=>dflt t
 | .toN k=>match t with | .nat=>Int.toNat (x (.int k)) |t=>dflt t
 | .unop o k=>match t with | .int _=>unI o k (x (.int k)) |t=>dflt t
 | .not=>match t with | .bool=>!(x .bool) |t=>dflt t
 | .conv j=>match t with | .int k=>wr k (x (.int j)) |t=>dflt t
 | .bytes=>match t with | .lst (.int _)=>(x .str).map fun b=>(b.toNat:Int) |t=>dflt t
 | .fst u=>(x (.pair t u)).1
 | .snd u=>(x (.pair u t)).2
def keyD:(t:Ty)→t.D→t.D→Bool
 | .int _,a,b=>eqI a b
 | .bool,a,b=>((a:Bool)==b)
 | .str,a,b=>decide (a=b)
 | _,_,_=>false
def hasD (k v:Ty):List (k.D×v.D)→k.D→Bool
 | [],_=>false
 | p::l,x=>keyD k x p.1||hasD k v l x
def findD (k v:Ty):List (k.D×v.D)→k.D→v.D→v.D
 | [],_,d=>d
 | p::l,x,d=>match keyD k x p.1 with |true=>p.2 |false=>findD k v l x d
def putD (k v:Ty):List (k.D×v.D)→k.D→v.D→List (k.D×v.D)
 | [],x,y=>[(x,y)]
 | p::l,x,y=>match keyD k x p.1 with |true=>(p.1,y)::l |false=>p::putD k v l x y
def O2.den (o:O2)(x y:(u:Ty)→u.D)(t:Ty):t.D:=match o with
 | .arith o k=>match t with | .int _=>arI o k (x (.int k)) (y (.int k)) |t=>dflt t
 | .shift o k j=>match t with | .int _=>shI o k (x (.int k)) (y (.int j)) |t=>dflt t
 | .cmp o k=>match t with | .bool=>cmI o (x (.int k)) (y (.int k)) |t=>dflt t
 | .beq=>match t with | .bool=>x .bool==y .bool |t=>dflt t
 | .scmp o=>match t with | .bool=>cmS o (x .str) (y .str) |t=>dflt t
 | .cat=>match t with | .str=>x .str++y .str |t=>dflt t
 | .mk=>match t with | .pair a b=>(x a,y b) |t=>dflt t
 | .cons=>match t with | .lst u=>x u::y (.lst u) |t=>dflt t
 | .app=>match t with | .lst u=>x (.lst u)++y (.lst u) |t=>dflt t
 | .tk=>match t with | .lst u=>(y (.lst u)).take (x .nat) |t=>dflt t
 | .dr=>match t with | .lst u=>(y (.lst u)).drop (x .nat) |t=>dflt t
 | .rep=>match t with | .lst u=>List.replicate (x .nat) (y u) |t=>dflt t
 | .nadd=>match t with | .nat=>Nat.add (x .nat) (y .nat) |t=>dflt t
 | .nsub=>match t with | .nat=>Nat.sub (x .nat) (y .nat) |t=>dflt t
 | .nmul=>match t with | .nat=>Nat.mul (x .nat) (y .nat) |t=>dflt t
 | .nle=>match t with | .bool=>decide (x .nat≤y .nat) |t=>dflt t
 | .and=>match t with | .bool=>x .bool&&y .bool |t=>dflt t
 | .has k v=>match t with | .bool=>hasD k v (x (.lst (.pair k v))) (y k) |t=>dflt t
def O3.den (o:O3)(x y z:(u:Ty)→u.D)(t:Ty):t.D:=match o with
 | .set=>match t with | .lst u=>(x (.lst u)).set (y .nat) (z u) |t=>dflt t
 | .ssub=>match t with | .str=>((x .str).drop (y .nat)).take (z .nat - y .nat) |t=>dflt t
 | .mget k=>findD k t (x (.lst (.pair k t))) (y k) (z t)
 | .mput=>match t with | .lst (.pair k v)=>putD k v (x (.lst (.pair k v))) (y k) (z v) |t=>dflt t
def QEB (n:Int)(t:Ty):t.D:=match t with
 | .int _=>n
 | t=>dflt t
def QG9 (n:Nat)(t:Ty):t.D:=match t with
 | .nat=>n
 | t=>dflt t
def QHa (b:Bool)(t:Ty):t.D:=match t with | .bool=>b |t=>dflt t
def QHb (s:List UInt8)(t:Ty):t.D:=match t with | .str=>s |t=>dflt t
def QHc (t:Ty):t.D:=match t with | .lst u=>([]:List u.D) |t=>dflt t
def Ex.den (env:Env):Ex→(t:Ty)→t.D
 | .v n,t=>env n t
 | .il n,t=>QEB n t
 | .nn n,t=>QG9 n t
 | .bl b,t=>QHa b t
 | .st s,t=>QHb s t
 | .nl,t=>QHc t
 | .un,t=>dflt t
 | .o1 o a,t=>o.den (Ex.den env a) t
 | .o2 o a b,t=>o.den (Ex.den env a) (Ex.den env b) t
 | .o3 o a b c,t=>o.den (Ex.den env a) (Ex.den env b) (Ex.den env c) t
def QFT (o:BinOp)(a b:Int):Option Bool:=intCmp o a b
def QgZ:Ex→Option Nat
 | .nl=>some 0
 | .o2 .cons _ l=>match QgZ l with |some n=>some (n+1) |none=>none
 | _=>none
def QmN:Ex→Ex
 | .o3 o x y z=>match o with | .set=>QmN x |o=>.o3 o x y z
 | e=>e
def QCY (u:Ty)(a:Ex):Ex:=match QgZ a with |some n=>.nn n |none=>.o1 (.len u) a
def Qqh:Ex→Bool
 | .o2 o _ _=>match o with | .cmp _ _=>true | .beq=>true | .scmp _=>true | .nle=>true | .and=>true |_=>false
 | .o1 o _=>match o with | .not=>true |_=>false
 | _=>false
def mk1 (o:O1)(a:Ex):Ex:=match o with
 | .fst u=>match a with
  | .o2 .mk x y=>x
  | a=>.o1 (.fst u) a
 | .snd u=>match a with
  | .o2 .mk x y=>y
  | a=>.o1 (.snd u) a
 | .not=>match a with
  | .bl b=>.bl (!b)
  | .o1 o x=>match o with
   | .not=>(match Qqh x with |true=>x |false=>.o1 .not (.o1 .not x))
   | o=>.o1 .not (.o1 o x)
  | a=>.o1 .not a
 | .len u=>QCY u (QmN a)
 | .ofN=>match a with
  | .nn n=>.il (.ofNat n)
  | a=>.o1 .ofN a
 | .toN k=>match a with
  | .il n=>.nn n.toNat
  | a=>.o1 (.toN k) a
 | o=>.o1 o a
def mk2 (o:O2)(a b:Ex):Ex:=match o with
 | .cmp o k=>match a,b with
  | .il x,.il y=>match QFT o x y with |some r=>.bl r |none=>.o2 (.cmp o k) a b
  | a,b=>.o2 (.cmp o k) a b
 | .arith o k=>match a,b with
  | .il x,.il y=>match o with
   | .add=>.il (wr k (x+y))
   | .sub=>.il (wr k (x - y))
   | .mul=>.il (wr k (x * y))
   | o=>.o2 (.arith o k) a b
  | a,b=>.o2 (.arith o k) a b
 | .and=>match a,b with
  | .bl true,b=>b
  | .bl false,_=>.bl false
  | a,.bl true=>a
  | a,b=>.o2 .and a b
 | .nadd=>match a,b with
  | .nn x,.nn y=>.nn (x+y)
  | .nn 0,b=>b
  | a,.nn 0=>a
  | a,b=>.o2 .nadd a b
 | .nsub=>match a,b with
  | .nn x,.nn y=>.nn (x - y)
  | a,.nn 0=>a
  | a,b=>.o2 .nsub a b
 | .nmul=>match a,b with
  | .nn x,.nn y=>.nn (x * y)
  | a,b=>.o2 .nmul a b
 | .nle=>match a,b with
  | .nn x,.nn y=>.bl (Nat.ble x y)
  | a,b=>.o2 .nle a b
 | .beq=>match a,b with
  | .bl true,b=>b
  | .bl false,b=>mk1 .not b
  | a,.bl true=>a
  | a,.bl false=>mk1 .not a
  | a,b=>.o2 .beq a b
 | .dr=>match a,b with
  | .nn 0,b=>b
  | a,b=>.o2 .dr a b
 | .app=>match a,b with
  | .nl,b=>b
  | a,.nl=>a
  | a,b=>.o2 .app a b
 | .scmp o=>match a,b with
  | .st x,.st y=>.bl (cmS o x y)
  | a,b=>.o2 (.scmp o) a b
 | .cat=>match a,b with
  | .st x,.st y=>.st (x++y)
  | .st [],b=>b
  | a,.st []=>a
  | a,b=>.o2 .cat a b
 | o=>.o2 o a b
def mk3 (o:O3)(a b c:Ex):Ex:=.o3 o a b c
def QAv (ta tb:Ty)(x y:Ex):Ex:=match x,y with
 | .o1 (.fst u) a,.o1 (.snd w) b=>match Ty.beq u tb&&(Ty.beq w ta&&Ex.beq a b) with
  | true=>a
  | false=>.o2 .mk x y
 | _,_=>.o2 .mk x y
def mkS (o:O1)(a:Ex):Ex:=match o with
 | .fst u=>mk1 (.fst u) a
 | .snd u=>mk1 (.snd u) a
 | .len u=>mk1 (.len u) a
 | o=>.o1 o a
def Ex.subst (σ:Nat→Ex):Ex→Ex
 | .v n=>σ n
 | .il n=>.il n
 | .nn n=>.nn n
 | .bl b=>.bl b
 | .st s=>.st s
 | .nl=>.nl
 | .un=>.un
 | .o1 o a=>mkS o (a.subst σ)
 | .o2 o a b=>.o2 o (a.subst σ) (b.subst σ)
 | .o3 o a b c=>.o3 o (a.subst σ) (b.subst σ) (c.subst σ)
def Ex.bnd (n:Nat):Ex→Bool
 | .v m=>Nat.blt m n
 | .o1 _ a=>a.bnd n
 | .o2 _ a b=>a.bnd n&&b.bnd n
 | .o3 _ a b c=>a.bnd n&&(b.bnd n&&c.bnd n)
 | _=>true
@[reducible] def Pr:List Ty→Type
  | []=>Unit
  | [a]=>a.D
  | a::b::l=>a.D×Pr (b::l)
@[reducible] def Sm:List (List Ty)→Type
  | []=>Empty
  | [a]=>Pr a
  | a::b::l=>Pr a⊕Sm (b::l)
def mkPr (env:Env):(ts:List Ty)→List Ex→Pr ts
 | [],_=>()
 | [a],es=>match es with |e::_=>e.den env a |[]=>dflt a
 | a::b::l,es=>match es with |e::es=>(e.den env a,mkPr env (b::l) es) |[]=>(dflt a,mkPr env (b::l) [])
def mkSm (env:Env):(os:List (List Ty))→Nat→List Ex→Option (Sm os)
 | [],_,_=>none
 | [a],j,es=>match j with |0=>some (mkPr env a es) |_+1=>none
 | a::b::l,j,es=>match j with |0=>some (.inl (mkPr env a es)) |j+1=>(mkSm env (b::l) j es).map .inr
def Env.setP:(ts:List Ty)→Env→Nat→Pr ts→Env
 | [],env,_,_=>env
 | [a],env,n,x=>env.set n a x
 | a::b::l,env,n,x=>Env.setP (b::l) (env.set n a x.1) (n+1) x.2
inductive T (α:Type) where
 | ret (a:α)
 | fail
 | out (j:Nat) (es:List Ex)
 | tail (f:Nat) (args:List Ex)
 | ite (c:Ex) (x y:T α)
 | get (n:Nat) (t:Ty) (k:IntKind) (l i:Ex) (x:T α)
 | call (f:Nat) (args:List Ex) (n:Nat) (ks:T α)
 | join (os:List (List Ty)) (x:T α) (n:Nat) (ks:T α)
 | alt (k r:T α)
 deriving Inhabited
def T.bind {α β:Type}(f:α→T β):T α→T β
 | .ret a=>f a
 | .fail=>.fail
 | .out j es=>.out j es
 | .tail g args=>.tail g args
 | .ite c x y=>.ite c (x.bind f) (y.bind f)
 | .get n t k l i x=>.get n t k l i (x.bind f)
 | .call g args n ks=>.call g args n (ks.bind f)
 | .join os x n ks=>.join os (x.bind fun _=>.fail) n (ks.bind f)
 | .alt k r=>.alt (k.bind f) (r.bind f)
def at' {α:Type}(l:List α)(n:Int):Option α:=(atIdx n l.length).bind fun i=>l[i]?
section
variable {α:Type} (P:Nat→List Ty) (O:Nat→List (List Ty)) (m:(f:Nat)→Pr (P f)→Option (Sm (O f)))
mutual
def T.den:T α→(os:List (List Ty))→Env→Option (Sm os)
 | .ret _,_,_=>none
 | .fail,_,_=>none
 | .out j es,os,env=>mkSm env os j es
 | .tail f args,os,env=>if h:O f=os then h▸m f (mkPr env (P f) args) else none
 | .ite c x y,os,env=>bif c.den env .bool then x.den os env else y.den os env
 | .get n t k l i x,os,env=>(at' (l.den env (.lst t)) (i.den env (.int k))).bind fun a=>x.den os (env.set n t a)
 | .call f args n ks,os,env=>(m f (mkPr env (P f) args)).bind fun z=>ks.alts (O f) z n os env
 | .join os' x n ks,os,env=>(x.den os' env).bind fun z=>ks.alts os' z n os env
 | .alt _ _,_,_=>none
def T.alts:T α→(os':List (List Ty))→Sm os'→Nat→(os:List (List Ty))→Env→Option (Sm os)
 | .alt k r,os',z,n,os,env=>match os',z with
  | [],_=>none
  | [a],z=>k.den os (Env.setP a env n z)
  | a::b::l,.inl x=>k.den os (Env.setP a env n x)
  | a::b::l,.inr y=>r.alts (b::l) y n os env
 | _,_,_,_,_,_=>none
end
end
end Go.Sy
noncomputable section
namespace Go.Sy
open Go Go.Ev
inductive SV where
 | undef
 | ii (k:IntKind) (e:Ex)
 | bb (e:Ex)
 | ss (e:Ex)
 | tl (t:Ty) (e:Ex)
 | nilp
 | ptr (b:Nat) (i:Ex) (o:Nat)
 | iptr (cs:List SV)
 | nils
 | emp
 | sl (b:Nat) (off len:Ex)
 | nilm
 | map (b:Nat)
 | nilf
 | fn (f:Nat) (caps:List SV)
 | nili
 | iface (t:Nat) (v:SV)
 | agg (cs:List SV)
 | tup (vs:List SV)
 deriving Inhabited
mutual
def SV.beq:SV→SV→Bool
 | .undef,.undef=>true
 | .ii k a,.ii j b=>kEq k j&&Ex.beq a b
 | .bb a,.bb b=>Ex.beq a b
 | .ss a,.ss b=>Ex.beq a b
 | .tl t a,.tl u b=>Ty.beq t u&&Ex.beq a b
 | .nilp,.nilp=>true
 | .ptr a b c,.ptr x y z=>Nat.beq a x&&(Ex.beq b y&&Nat.beq c z)
 | .iptr a,.iptr b=>SV.beqL a b
 | .nils,.nils=>true
 | .emp,.emp=>true
 | .sl a b c,.sl x y z=>Nat.beq a x&&(Ex.beq b y&&Ex.beq c z)
 | .nilm,.nilm=>true
 | .map a,.map b=>Nat.beq a b
 | .nilf,.nilf=>true
 | .fn f a,.fn g b=>Nat.beq f g&&SV.beqL a b
 | .nili,.nili=>true
 | .iface t a,.iface u b=>Nat.beq t u&&SV.beq a b
 | .agg a,.agg b=>SV.beqL a b
 | .tup a,.tup b=>SV.beqL a b
 | _,_=>false
def SV.beqL:List SV→List SV→Bool
 | [],[]=>true
 | a::l,b::m=>SV.beq a b&&SV.beqL l m
 | _,_=>false
end
inductive SB where
 | rows (z:Nat) (t:Ty) (e:Ex)
 | box (z:Nat) (tg:Option Ty) (es:List (List SV))
 | ro (z:Nat) (t:Ty) (e:Ex)
 | map (tk tv:Ty) (e:Ex)
 | dead
 deriving Inhabited
def Qqi:List (List SV)→List (List SV)→Bool
 | [],[]=>true
 | a::l,b::m=>SV.beqL a b&&Qqi l m
 | _,_=>false
def tgEq:Option Ty→Option Ty→Bool
 | some a,some b=>Ty.beq a b
 | none,none=>true
 | _,_=>false
def SB.beq:SB→SB→Bool
 | .rows z t e,.rows z' t' e'=>Nat.beq z z'&&(Ty.beq t t'&&Ex.beq e e')
 | .box z tg es,.box z' tg' es'=>Nat.beq z z'&&(tgEq tg tg'&&Qqi es es')
 | .ro z t e,.ro z' t' e'=>Nat.beq z z'&&(Ty.beq t t'&&Ex.beq e e')
 | .map a b e,.map a' b' e'=>Ty.beq a a'&&(Ty.beq b b'&&Ex.beq e e')
 | .dead,.dead=>true
 | _,_=>false
abbrev SH:=List SB
abbrev SF:=List (Nat×SV)
def beqH:SH→SH→Bool
 | [],[]=>true
 | a::l,b::m=>SB.beq a b&&beqH l m
 | _,_=>false
def beqF:SF→SF→Bool
 | [],[]=>true
 | a::l,b::m=>Nat.beq a.1 b.1&&(SV.beq a.2 b.2&&beqF l m)
 | _,_=>false
inductive Fact where
 | cond (e:Ex) (b:Bool)
 | idx (t:Ty) (k:IntKind) (l i x:Ex)
 | call (f:Nat) (args:List Ex) (j n len:Nat)
structure SS where
 fr:SF
 H:SH
 nx:Nat
 fs:List Fact
 deriving Inhabited
mutual
def SV.bnd (n:Nat):SV→Bool
 | .ii _ e=>e.bnd n
 | .bb e=>e.bnd n
 | .ss e=>e.bnd n
 | .tl _ e=>e.bnd n
 | .ptr _ i _=>i.bnd n
 | .iptr cs=>SV.bndL n cs
 | .sl _ o l=>o.bnd n&&l.bnd n
 | .fn _ cs=>SV.bndL n cs
 | .iface _ v=>v.bnd n
 | .agg cs=>SV.bndL n cs
 | .tup cs=>SV.bndL n cs
 | _=>true
def SV.bndL (n:Nat):List SV→Bool
 | []=>true
 | v::l=>v.bnd n&&SV.bndL n l
end
def SB.bnd (n:Nat):SB→Bool
 | .rows _ _ e=>e.bnd n
 | .box _ _ es=>es.all (SV.bndL n)
 | .ro _ _ e=>e.bnd n
 | .map _ _ e=>e.bnd n
 | .dead=>true
def Fact.bnd (n:Nat):Fact→Bool
 | .cond e _=>e.bnd n
 | .idx _ _ l i x=>l.bnd n&&(i.bnd n&&x.bnd n)
 | .call _ args _ k len=>Nat.ble (k+len) n&&args.all (Ex.bnd n)
def bndF (n:Nat)(fr:SF):Bool:=fr.all fun p=>p.2.bnd n
def bndH (n:Nat)(H:SH):Bool:=H.all (SB.bnd n)
def cellsOf:Ty→Ex→List SV
 | .int k,e=>[.ii k e]
 | .bool,e=>[.bb e]
 | .str,e=>[.ss e]
 | .lst u,e=>[.tl u e]
 | .pair a b,e=>cellsOf a (mk1 (.fst b) e)++cellsOf b (mk1 (.snd a) e)
 | .unit,_=>[]
 | .nat,_=>[.undef]
def reify:Ty→List SV→Option (Ex×List SV)
 | .int k,cs=>match cs with | .ii j e::r=>(match kEq k j with |true=>some (e,r) |false=>none) |_=>none
 | .bool,cs=>match cs with | .bb e::r=>some (e,r) |_=>none
 | .str,cs=>match cs with | .ss e::r=>some (e,r) |_=>none
 | .lst u,cs=>match cs with | .tl t e::r=>(match Ty.beq u t with |true=>some (e,r) |false=>match e with | .nl=>some (.nl,r) |_=>none) |_=>none
 | .pair a b,cs=>match reify a cs with
  | none=>none
  | some (x,r)=>match reify b r with
   | none=>none
   | some (y,r)=>some (QAv a b x y,r)
 | .unit,cs=>some (.un,cs)
 | .nat,_=>none
def QhA (t:Ty)(cs:List SV):Option Ex:=match reify t cs with |some (e,[])=>some e |_=>none
def sval (t:Ty)(e:Ex):SV:=match t with
 | .pair _ _=>.agg (cellsOf t e)
 | .unit=>.agg []
 | .int k=>.ii k e
 | .bool=>.bb e
 | .str=>.ss e
 | .lst u=>.tl u e
 | .nat=>.undef
def SV.cells:SV→List SV
 | .agg cs=>cs
 | v=>[v]
def SV.Qax:SV→Bool
 | .undef | .agg _ | .tup _=>false
 | _=>true
def QmO:Ty→Bool | .pair _ _=>true | .unit=>true |_=>false
def Qsl (t:Ty)(v:SV):Option Ex:=match QmO t with
 | true=>match v with | .agg cs=>QhA t cs |_=>none
 | false=>match v with | .agg _=>none |v=>QhA t [v]
def ofAV:AV→Option SV
 | .undef=>some .undef
 | .bool b=>some (.bb (.bl b))
 | .int k n=>some (.ii k (.il n))
 | .str s=>some (.ss (.st s))
 | .nilp=>some .nilp
 | .nils=>some .nils
 | .emp=>some .emp
 | .lst []=>some (.tl .unit .nl)
 | .nilm=>some .nilm
 | .nilf=>some .nilf
 | .nili=>some .nili
 | .fn f []=>some (.fn f [])
 | _=>none
def getF:SF→Nat→SV
 | [],_=>.undef
 | p::r,t=>match Nat.beq p.1 t with |true=>p.2 |false=>getF r t
def setF:SF→Nat→SV→SF
 | [],d,v=>[(d,v)]
 | p::r,d,v=>match Nat.beq p.1 d with |true=>(d,v)::r |false=>match Nat.blt d p.1 with |true=>(d,v)::p::r |false=>p::setF r d v
def Qwi (mask:Nat):SF→SF
 | []=>[]
 | p::r=>match tb mask p.1 with |true=>p::Qwi mask r |false=>Qwi mask r
def Qth (mask:Nat)(fr:SF):SF:=match Nat.beq mask 0 with |true=>fr |false=>Qwi mask fr
def putF (fr:SF)(dst:Option Tmp)(v:SV):SF:=match dst with |some d=>setF fr d v |none=>fr
def opvS (fr:SF):Operand→SV
 | .tmp t=>getF fr t
 | .const v=>(ofAV (ofConst v)).getD .undef
 | .global _=>.undef
 | .func f=>.fn f []
def QuQ (i:TI)(cs:List SV):Option SV:=
 match i.known with
 | false=>none
 | true=>match i.isAgg with
  | true=>match Nat.ble i.size cs.length with |true=>some (.agg (cs.take i.size)) |false=>none
  | false=>cs.head?
def Qwj (l:List AV):Option (List SV):=match l with |[]=>some [] |a::l=>match ofAV a,Qwj l with |some v,some vs=>some (v::vs) |_,_=>none
def QmP (f:TypeId→Option Ty):List (Nat×TypeId)→Option Ty
 | []=>some .unit
 | p::l=>match f p.2 with
  | none=>none
  | some u=>match l with
   | []=>some (.pair u .unit)
   | [q]=>match f q.2 with |some w=>some (.pair u w) |none=>none
   | _::_::_=>match QmP f l with |some w=>some (.pair u w) |none=>none
def tyN (c:Ctx):Nat→TypeId→Option Ty
 | 0,_=>none
 | n+1,t=>match (c.ty t).d with
  | .int k=>some (.int k)
  | .bool=>some .bool
  | .str=>some .str
  | .slice e=>match tyN c n e with |some u=>some (.lst u) |none=>none
  | .Qbk fs=>QmP (tyN c n) fs
  | _=>none
def tyOf (c:Ctx)(t:TypeId):Option Ty:=match tyN c 10 t with
 | some u=>match Nat.beq u.size (c.ty t).size with |true=>some u |false=>none
 | none=>none
def QmQ (e:Ex):List Fact→Option Bool
 | []=>none
 | .cond x b::r=>match Ex.beq x e with |true=>some b |false=>QmQ e r
 | _::r=>QmQ e r
def QrI (t:Ty)(k:IntKind)(l i:Ex):List Fact→Option Ex
 | []=>none
 | .idx u j m a x::r=>match Ty.beq u t&&(kEq j k&&(Ex.beq a i&&Ex.beq m l)) with |true=>some x |false=>QrI t k l i r
 | _::r=>QrI t k l i r
def QAw:List Ex→List Ex→Bool
 | [],[]=>true
 | a::l,b::m=>Ex.beq a b&&QAw l m
 | _,_=>false
def QuR (f:Nat)(args:List Ex):List Fact→Option (Nat×Nat)
 | []=>none
 | .call g xs j n _::r=>match Nat.beq g f&&QAw xs args with |true=>some (j,n) |false=>QuR f args r
 | _::r=>QuR f args r
def branch {α:Type}(e:Ex)(s:SS)(k:Bool→SS→T α):T α:=match e with
 | .bl b=>k b s
 | .o1 .not x=>match QmQ x s.fs with
  | some b=>k (!b) s
  | none=>.ite x (k false { s with fs:=.cond x true::s.fs }) (k true { s with fs:=.cond x false::s.fs })
 | e=>match QmQ e s.fs with
  | some b=>k b s
  | none=>.ite e (k true { s with fs:=.cond e true::s.fs }) (k false { s with fs:=.cond e false::s.fs })
def guard {α:Type}(e:Ex)(s:SS)(k:SS→T α):T α:=branch e s fun b s=>match b with |true=>k s |false=>.fail
def guards {α:Type}:List Ex→SS→(SS→T α)→T α
 | [],s,k=>k s
 | e::l,s,k=>guard e s fun s=>guards l s k
def SS.bnd (s:SS):Bool:=bndF s.nx s.fr&&(bndH s.nx s.H&&s.fs.all (Fact.bnd s.nx))
def getI {α:Type}(t:Ty)(k:IntKind)(l i:Ex)(pend:List SV)(s:SS)(K:Ex→SS→T α):T α:=match QrI t k l i s.fs with
 | some x=>K x s
 | none=>match s.bnd&&(SV.bndL s.nx pend&&(l.bnd s.nx&&i.bnd s.nx)) with
  | true=>.get s.nx t k l i (K (.v s.nx) { s with nx:=s.nx+1,fs:=.idx t k l i (.v s.nx)::s.fs })
  | false=>.fail
def asInt (i:Ex):IntKind×Ex:=match i with
 | .o1 (.toN k) e=>(k,e)
 | i=>(.i64,mk1 .ofN i)
def getN {α:Type}(t:Ty)(l i:Ex)(pend:List SV)(s:SS)(K:Ex→SS→T α):T α:=getI t (asInt i).1 l (asInt i).2 pend s K
def opt {α β:Type}(o:Option α)(k:α→T β):T β:=match o with |some a=>k a |none=>.fail
def iff {α:Type}(b:Bool)(k:T α):T α:=match b with |true=>k |false=>.fail
def notE (e:Ex):Ex:=mk1 .not e
def ltE (k:IntKind)(a b:Ex):Ex:=mk2 (.cmp .lss k) a b
def leE (k:IntKind)(a b:Ex):Ex:=notE (mk2 (.cmp .lss k) b a)
def eqE (k:IntKind)(a b:Ex):Ex:=mk2 (.cmp .eql k) a b
def nleE (a b:Ex):Ex:=mk2 .nle a b
def natE (n:Nat):Ex:=.nn n
def Qqj (t:Ty)(e off len:Ex):Bool:=Ex.beq off (natE 0)&&Ex.beq len (mk1 (.len t) e)
def Ql8 (t:Ty)(H:SH):SV→Option (Ex×List Ex)
 | .nils=>some (.nl,[])
 | .emp=>some (.nl,[])
 | .tl u e=>match Ty.beq u t with |true=>some (e,[]) |false=>match e with | .nl=>some (.nl,[]) |_=>none
 | .sl b off len=>match H[b]? with
  | some (.rows _ u e)=>cut t u e off len
  | some (.ro _ u e)=>cut t u e off len
  | _=>none
 | _=>none
where cut (t u:Ty) (e off len:Ex):Option (Ex×List Ex):=match Ty.beq u t with
 | true=>match Qqj t e off len with
  | true=>some (e,[])
  | false=>some (.o2 .tk len (mk2 .dr off e),[nleE (mk2 .nadd off len) (mk1 (.len t) e)])
 | false=>none
def QiB (H:SH)(b:Nat):Option Ty:=match H[b]? with |some (.rows _ u _)=>some u |some (.ro _ u _)=>some u |_=>none
def Qjo (f:SV→Option (SV×List Ex)):List SV→Option (List SV×List Ex)
 | []=>some ([],[])
 | v::l=>match f v with
  | none=>none
  | some (v,g)=>match Qjo f l with |some (l,h)=>some (v::l,g++h) |none=>none
def Qbq (H:SH):Nat→SV→Option (SV×List Ex)
 | 0,_=>none
 | n+1,v=>match v with
  | .sl b off len=>match QiB H b with
   | some t=>match Ql8 t H (.sl b off len) with |some (e,g)=>some (.tl t e,g) |none=>none
   | none=>none
  | .ptr .. | .map _ | .undef | .tup _=>none
  | .fn f caps=>match caps with |[]=>some (.fn f [],[]) |_::_=>none
  | .iface t v=>match Qbq H n v with |some (v,g)=>some (.iface t v,g) |none=>none
  | .agg cs=>match Qjo (Qbq H n) cs with |some (cs,g)=>some (.agg cs,g) |none=>none
  | .nils=>some (.tl .unit .nl,[])
  | .emp=>some (.tl .unit .nl,[])
  | v=>some (v,[])
def QfZ:Nat→SV→List Nat
 | 0,_=>[]
 | n+1,v=>match v with
  | .sl b _ _=>[b]
  | .iface _ v=>QfZ n v
  | .agg cs=>cs.flatMap (QfZ n)
  | _=>[]
def QEC (H:SH)(b:Nat):Option SH:=match H[b]? with
 | some (.rows z t e)=>some (H.set b (.ro z t e))
 | some (.ro _ _ _)=>some H
 | _=>none
def Qls:List Nat→SH→Option SH
 | [],H=>some H
 | b::l,H=>match QEC H b with |some H=>Qls l H |none=>none
def Qti {α:Type}(v:SV)(s:SS)(k:SV→SS→T α):T α:=
 opt (Qbq s.H 12 v) fun (x,g)=>guards g s fun s=>opt (Qls (QfZ 12 v) s.H) fun H=>k x { s with H:=H }
def QuS:Nat→SV→Bool
 | 0,_=>false
 | n+1,v=>match v with
  | .bb _ | .ii _ _ | .ss _ | .nilp | .nils | .emp | .nilm | .nilf | .nili | .fn _ []=>true
  | .iface _ v=>QuS n v
  | .agg cs=>cs.all (QuS n)
  | .tup cs=>cs.all (QuS n)
  | _=>false
def renS (σ:Nat→Nat):Nat→SV→SV
 | 0,_=>.undef
 | n+1,v=>match v with
  | .ptr b i o=>.ptr (σ b) i o
  | .sl b off len=>.sl (σ b) off len
  | .map b=>.map (σ b)
  | .fn f caps=>match caps with |[]=>.fn f [] |_::_=>.fn f (caps.map (renS σ n))
  | .iface t v=>.iface t (renS σ n v)
  | .agg cs=>.agg (cs.map (renS σ n))
  | .tup cs=>.tup (cs.map (renS σ n))
  | v=>v
def Qo9:Nat→SV→List Nat
 | 0,_=>[]
 | n+1,v=>match v with
  | .ptr b _ _=>[b]
  | .sl b _ _=>[b]
  | .map b=>[b]
  | .fn _ caps=>match caps with |[]=>[] |_::_=>caps.flatMap (Qo9 n)
  | .iface _ v=>Qo9 n v
  | .agg cs=>cs.flatMap (Qo9 n)
  | .tup cs=>cs.flatMap (Qo9 n)
  | _=>[]
def SB.refs:SB→List Nat
 | .box _ _ es=>es.flatMap fun r=>r.flatMap (Qo9 8)
 | _=>[]
def blkS (H:SH)(b:Nat):SB:=match H[b]? with |some k=>k |none=>.dead
def Qsm (H:SH):Nat→List Nat→List Nat→Option (List Nat)
 | 0,_,_=>none
 | _+1,[],seen=>some seen
 | n+1,b::todo,seen=>match isIn b seen with
  | true=>Qsm H n todo seen
  | false=>Qsm H n ((blkS H b).refs++todo) (b::seen)
def QxN (m:Nat)(vs:List SV)(H:SH):Option (List Nat):=
 match Qsm H 100000 ((Qa8 m).reverse.flatMap (fun b=>(blkS H b).refs)++vs.flatMap (Qo9 8)) (Qa8 m) with
 | none=>none
 | some seen=>some seen.reverse
def SB.ren (σ:Nat→Nat):SB→SB
 | .box z tg es=>.box z tg (es.map fun r=>r.map (renS σ 8))
 | b=>b
def renF (σ:Nat→Nat)(fr:SF):SF:=fr.map fun p=>(p.1,renS σ 8 p.2)
def Qpn (σ:Nat→Nat)(H:SH)(l:List Nat):SH:=l.map fun b=>(blkS H b).ren σ
def QuT (m:Nat)(s:SS):Option SS:=match QxN m (s.fr.map (·.2)) s.H with
 | none=>none
 | some seen=>some { s with fr:=renF (fun b=>QaY b seen 0) s.fr,H:=Qpn (fun b=>QaY b seen 0) s.H seen }
def QlL (c:Ctx):List Nat→List SV→SH→Option (List SV×SH)
 | z::zs,v::vs,H=>match z with
  | 0=>match QlL c zs vs H with |some (vs,H)=>some (v::vs,H) |none=>none
  | z+1=>match isNil v with
   | true=>match tyOf c z with
    | some t=>match QlL c zs vs (H++[.rows (c.ty z).size t .nl]) with
     | some (vs,H')=>some (.sl H.length (natE 0) (natE 0)::vs,H')
     | none=>none
    | none=>none
   | false=>match QlL c zs vs H with |some (vs,H)=>some (v::vs,H) |none=>none
 | _,vs,H=>some (vs,H)
where isNil:SV→Bool | .nils=>true | .emp=>true |_=>false
def QD5 (d:SV):List SV→SV |[v]=>v |_=>d
def QED (c:Ctx)(zs:List Nat)(v:SV)(H:SH):Option (SV×SH):=match zs with
 | []=>some (v,H)
 | zs=>match v with
  | .agg cs=>match QlL c zs cs H with |some (cs,H)=>some (.agg cs,H) |none=>none
  | v=>match QlL c zs [v] H with |some (cs,H)=>some (QD5 v cs,H) |none=>none
def QfJ (c:Ctx)(nz:Nat→List Nat):SF→SH→Option (SF×SH)
 | [],H=>some ([],H)
 | p::r,H=>match QED c (nz p.1) p.2 H with
  | none=>none
  | some (v,H)=>match QfJ c nz r H with
   | none=>none
   | some (r,H)=>some ((p.1,v)::r,H)
def QCZ (c:Ctx)(nz:Nat→List Nat)(mask m:Nat)(s:SS):Option SS:=match QfJ c nz (Qth mask s.fr) s.H with
 | none=>none
 | some (fr,H)=>QuT m { s with fr:=fr,H:=H }
def Ql9 (keep:List Nat):Nat→SH→List Nat
 | _,[]=>[]
 | i,k::r=>match k with
  | .rows ..=>match isIn i keep with |true=>Ql9 keep (i+1) r |false=>i::Ql9 keep (i+1) r
  | _=>Ql9 keep (i+1) r
def Qtj (σ:Nat→Nat)(mv:List Nat):Nat→SH→SH
 | _,[]=>[]
 | i,x::r=>(match isIn i mv with |true=>.dead |false=>x.ren σ)::Qtj σ mv (i+1) r
def Qwk (args:List SV)(H:SH):SH:=
 let mv:=Ql9 (args.flatMap (Qo9 8)) 0 H
 Qtj (mvNo H.length mv) mv 0 H++mv.map (blkS H)
end Go.Sy
end
