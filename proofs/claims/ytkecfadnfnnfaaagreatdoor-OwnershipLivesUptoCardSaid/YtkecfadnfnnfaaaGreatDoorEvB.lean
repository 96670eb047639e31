/- The evaluator's regions, code, calls and loops: definitions only, nothing is claimed here. -/
import GoSem.Dispatch
import Derived.Calls
import Derived.Orders
set_option linter.unusedVariables false
noncomputable section
namespace Go.Ev
theorem osi {α:Type _} (a b:α):(some a=some b)=(a=b):=Option.some.injEq a b
inductive AV where
 | undef
 | bool (b:Bool)
 | int (k:IntKind) (n:Int)
 | str (s:List UInt8)
 | nilp
 | ptr (b i o:Nat)
 | iptr (cells:List AV)
 | nils
 | emp
 | lst (es:List (List AV))
 | sl (b off len:Nat)
 | nilm
 | map (b:Nat)
 | nilf
 | fn (f:FuncId) (caps:List AV)
 | nili
 | iface (t:TypeId) (v:AV)
 | agg (cs:List AV)
 | tup (vs:List AV)
 deriving Inhabited
mutual
def AV.beq:AV→AV→Bool
 | .undef,.undef=>true
 | .bool a,.bool b=>a==b
 | .int k a,.int j b=>decide (k=j)&&decide (a=b)
 | .str a,.str b=>a==b
 | .nilp,.nilp=>true
 | .ptr a b c,.ptr x y z=>Nat.beq a x&&(Nat.beq b y&&Nat.beq c z)
 | .iptr a,.iptr b=>AV.beqL a b
 | .nils,.nils=>true
 | .emp,.emp=>true
 | .lst a,.lst b=>AV.QsX a b
 | .sl a b c,.sl x y z=>Nat.beq a x&&(Nat.beq b y&&Nat.beq c z)
 | .nilm,.nilm=>true
 | .map a,.map b=>Nat.beq a b
 | .nilf,.nilf=>true
 | .fn f a,.fn g b=>Nat.beq f g&&AV.beqL a b
 | .nili,.nili=>true
 | .iface t a,.iface u b=>Nat.beq t u&&AV.beq a b
 | .agg a,.agg b=>AV.beqL a b
 | .tup a,.tup b=>AV.beqL a b
 | _,_=>false
def AV.beqL:List AV→List AV→Bool
 | [],[]=>true
 | a::l,b::m=>AV.beq a b&&AV.beqL l m
 | _,_=>false
def AV.QsX:List (List AV)→List (List AV)→Bool
 | [],[]=>true
 | a::l,b::m=>AV.beqL a b&&AV.QsX l m
 | _,_=>false
end
inductive Blk where
 | rows (z:Nat) (pure:Bool) (es:List (List AV))
 | ro (z:Nat) (es:List (List AV))
 | map (es:List (AV×AV))
 | iter (s:List UInt8) (pos:Nat)
 | dead
 deriving Inhabited
def Blk.live:Blk→Bool
 | .rows ..=>true
 | .map _=>true
 | _=>false
def Blk.Qfn:Blk→Bool
 | .rows ..=>true
 | .map _=>true
 | .ro ..=>true
 | _=>false
abbrev Heap:=List Blk
abbrev Fr:=List (Nat×AV)
structure St where
 fr:Fr
 H:Heap
 deriving Inhabited
inductive TD where
 | int (k:IntKind)
 | bool
 | str
 | ptr (e:TypeId)
 | slice (e:TypeId)
 | arr (n:Nat) (e:TypeId)
 | map (k e:TypeId)
 | Qbk (fs:List (Nat×TypeId))
 | func
 | iface
 | other
 deriving Inhabited
structure TI where
 d:TD
 size:Nat
 bytes:Nat
 zero:List AV
 flat:Bool:=false
 zs:List Nat:=[]
 deriving Inhabited
inductive Tr (α:Type) where
 | leaf (a:α)
 | node (n:Nat) (l r:Tr α)
 deriving Inhabited
@[reducible] def ifB {α:Sort _} (b:Bool) (x y:α):α:=Bool.rec (motive:=fun _=>α) y x b
def Tr.get {α:Type}(T:Tr α)(t:Nat):α:=Tr.rec (motive:=fun _=>α) (fun a=>a) (fun n _ _ x y=>ifB (Nat.blt t n) x y) T
theorem Tr.QCz {α:Type}(n:Nat)(l r:Tr α)(t:Nat):(Tr.node n l r).get t=ifB (Nat.blt t n) (l.get t) (r.get t):=rfl
inductive Plan where
 | done
 | take (i:Nat) (p:Plan)
 | fork (l:List (Nat×List Nat×Plan))
 deriving Inhabited
inductive Prim where
 | no
 | clone (e:TypeId)
 | pure (p:List AV→Option AV)
 deriving Inhabited
structure Ctx where
 ty:TypeId→TI
 fn:FuncId→Option Func
 keep:FuncId→Nat→Nat:=fun _ _=>0
 out:FuncId→Nat→Nat:=fun _ _=>0
 res:FuncId→Nat:=fun _=>0
 live:FuncId→Nat→Nat:=fun _ _=>0
 plan:FuncId→Nat→Plan:=fun _ _=>.done
 raw:FuncId→Bool:=fun _=>false
 prim:FuncId→Prim:=fun _=>.no
 nilz:FuncId→Nat→List Nat:=fun _ _=>[]
 stay:FuncId→Bool:=fun _=>false
 pre:FuncId→Nat→Nat:=fun _ _=>0
def TI.known (i:TI):Bool:=match i.d with | .other=>false |_=>true
def TI.isAgg (i:TI):Bool:=match i.d with | .Qbk _ | .arr _ _=>true |_=>false
def QyB (n:Nat)(l:List AV):List AV:=match n with |0=>[] |n+1=>l++QyB n l
def ltI (a b:Int):Bool:=match a,b with
 | .ofNat m,.ofNat n=>Nat.blt m n
 | .ofNat _,.negSucc _=>false
 | .negSucc _,.ofNat _=>true
 | .negSucc m,.negSucc n=>Nat.blt n m
def leI (a b:Int):Bool:=match ltI b a with |true=>false |false=>true
def eqI (a b:Int):Bool:=match a,b with
 | .ofNat m,.ofNat n=>Nat.beq m n
 | .negSucc m,.negSucc n=>Nat.beq m n
 | _,_=>false
def QzY (k:IntKind)(n:Int):Bool:=match k,n with
 | .i64,.ofNat m=>Nat.ble m 9223372036854775807
 | .i64,.negSucc m=>Nat.ble m 9223372036854775807
 | .u64,.ofNat m=>Nat.ble m 18446744073709551615
 | .u8,.ofNat m=>Nat.ble m 255
 | .u32,.ofNat m=>Nat.ble m 4294967295
 | .i32,.ofNat m=>Nat.ble m 2147483647
 | _,_=>false
def wr (k:IntKind)(n:Int):Int:=match QzY k n with |true=>n |false=>k.wrap n
def tb (m n:Nat):Bool:=Nat.beq (Nat.land (Nat.shiftRight m n) 1) 1
section
variable {α β:Type}
def fNat (n:Nat)(k:Nat→β):β:=match n with |0=>k 0 |m+1=>k (Nat.succ m)
def fInt (n:Int)(k:Int→β):β:=match n with
 | .ofNat m=>fNat m fun m=>k (.ofNat m)
 | .negSucc m=>fNat m fun m=>k (.negSucc m)
def QFL (b:Bool)(k:Bool→β):β:=match b with |true=>k true |false=>k false
def fSp (l:List α)(k:List α→β):β:=List.rec (motive:=fun _=>(List α→β)→β) (fun k=>k []) (fun a _ ih k=>ih fun l=>k (a::l)) l k
def hV (v:AV)(k:AV→β):β:=match v with
 | .undef=>k .undef
 | .bool b=>QFL b fun b=>k (.bool b)
 | .int i n=>fInt n fun n=>k (.int i n)
 | .str s=>fSp s fun s=>k (.str s)
 | .nilp=>k .nilp
 | .ptr b i o=>fNat b fun b=>fNat i fun i=>fNat o fun o=>k (.ptr b i o)
 | .iptr cs=>k (.iptr cs)
 | .nils=>k .nils
 | .emp=>k .emp
 | .lst es=>k (.lst es)
 | .sl b o l=>fNat b fun b=>fNat o fun o=>fNat l fun l=>k (.sl b o l)
 | .nilm=>k .nilm
 | .map b=>fNat b fun b=>k (.map b)
 | .nilf=>k .nilf
 | .fn f cs=>k (.fn f cs)
 | .nili=>k .nili
 | .iface t v=>k (.iface t v)
 | .agg cs=>fSp cs fun cs=>k (.agg cs)
 | .tup vs=>fSp vs fun vs=>k (.tup vs)
def fVs (l:List AV)(k:List AV→β):β:=List.rec (motive:=fun _=>(List AV→β)→β) (fun k=>k []) (fun a _ ih k=>hV a fun a=>ih fun l=>k (a::l)) l k
theorem Qig (n:Nat)(k:Nat→β):fNat n k=k n:=by cases n<;>rfl
theorem QEt (n:Int)(k:Int→β):fInt n k=k n:=by cases n<;>simp [fInt,Qig]
theorem QCA (b:Bool)(k:Bool→β):QFL b k=k b:=by cases b<;>rfl
theorem Qat (l:List α)(k:List α→β):fSp l k=k l:=by
 induction l generalizing k with
 | nil=>rfl
 | cons a l ih=>exact ih _
theorem QsY (v:AV)(k:AV→β):hV v k=k v:=by cases v<;>simp [hV,Qig,QEt,QCA,Qat]
theorem Qxy (l:List AV)(k:List AV→β):fVs l k=k l:=by
 induction l generalizing k with
 | nil=>rfl
 | cons a l ih=>exact (QsY a (fun a=>fVs l fun l=>k (a::l))).trans (ih _)
end
def Fr.get (fr:Fr)(t:Nat):AV:=List.rec (motive:=fun _=>AV) .undef (fun p _ ih=>ifB (Nat.beq p.1 t) p.2 ih) fr
theorem Fr.get_nil (t:Nat):Fr.get [] t=.undef:=rfl
theorem Fr.QbO (p:Nat×AV)(r:Fr)(t:Nat):Fr.get (p::r) t=ifB (Nat.beq p.1 t) p.2 (Fr.get r t):=rfl
def Fr.set (fr:Fr)(d:Nat)(v:AV):Fr:=List.rec (motive:=fun _=>Fr) [(d,v)] (fun p r ih=>ifB (Nat.beq p.1 d) ((d,v)::r) (ifB (Nat.blt d p.1) ((d,v)::p::r) (p::ih))) fr
theorem Fr.set_nil (d:Nat)(v:AV):Fr.set [] d v=[(d,v)]:=rfl
theorem Fr.QeT (p:Nat×AV)(r:Fr)(d:Nat)(v:AV):Fr.set (p::r) d v=ifB (Nat.beq p.1 d) ((d,v)::r) (ifB (Nat.blt d p.1) ((d,v)::p::r) (p::Fr.set r d v)):=rfl
def Fr.sift (mask:Nat)(fr:Fr):Fr:=List.rec (motive:=fun _=>Fr) [] (fun p _ ih=>ifB (tb mask p.1) (p::ih) ih) fr
theorem Fr.QsZ (mask:Nat):Fr.sift mask []=[]:=rfl
theorem Fr.QbG (mask:Nat)(p:Nat×AV)(r:Fr):Fr.sift mask (p::r)=ifB (tb mask p.1) (p::Fr.sift mask r) (Fr.sift mask r):=rfl
def Fr.only (mask:Nat)(fr:Fr):Fr:=ifB (Nat.beq mask 0) fr (Fr.sift mask fr)
def Fr.put (fr:Fr)(dst:Option Tmp)(v:AV):Fr:=match dst with |some d=>fr.set d v |none=>fr
def Fr.putK {β:Type}(fr:Fr)(dst:Option Tmp)(v:AV)(k:Fr→β):β:=match dst with
 | some d=>List.rec (motive:=fun _=>(Fr→β)→β) (fun k=>k [(d,v)])
   (fun p r ih k=>ifB (Nat.beq p.1 d) (k ((d,v)::r)) (ifB (Nat.blt d p.1) (k ((d,v)::p::r)) (ih fun r=>k (p::r)))) fr k
 | none=>k fr
theorem Fr.Qv3 {β:Type}(fr:Fr)(dst:Option Tmp)(v:AV)(k:Fr→β):fr.putK dst v k=k (fr.put dst v):=by
 cases dst with
 | none=>rfl
 | some d=>
  simp only [Fr.putK,Fr.put]
  induction fr generalizing k with
  | nil=>rfl
  | cons p r ih=>
   rw [Fr.QeT]
   cases h1:Nat.beq p.1 d with
   | true=>simp only [h1,ifB]
   | false=>
    cases h2:Nat.blt d p.1 with
    | true=>simp only [h1,h2,ifB]
    | false=>simp only [h1,h2,ifB]; exact ih _
mutual
def ofConst:Value→AV
 | .bool b=>.bool b
 | .int k n=>.int k n
 | .string s=>.str s.data.toList
 | .pointer none=>.nilp
 | .slice none 0 0=>.nils
 | .map none=>.nilm
 | .nilFunc=>.nilf
 | .nilIface=>.nili
 | _=>.undef
end
def opv (fr:Fr):Operand→AV
 | .tmp t=>fr.get t
 | .const v=>ofConst v
 | .global _=>.undef
 | .func f=>.fn f []
def AV.cells:AV→List AV
 | .agg cs=>cs
 | v=>[v]
def AV.Qax:AV→Bool
 | .undef | .agg _ | .tup _=>false
 | _=>true
def pack (i:TI)(cs:List AV):Option AV:=
 match i.known with
 | false=>none
 | true=>match i.isAgg with
  | true=>match Nat.ble i.size cs.length with |true=>some (.agg (cs.take i.size)) |false=>none
  | false=>cs.head?
def Qer:Nat→AV→Bool
 | 0,_=>false
 | n+1,v=>match v with
  | .ptr .. | .sl .. | .map _ | .undef | .tup _=>false
  | .fn _ caps=>caps.isEmpty
  | .iface _ v=>Qer n v
  | .agg cs=>cs.all (Qer n)
  | _=>true
def QD4 (v:AV):Bool:=Qer 8 v
def QCB {β:Type}(a:Option β)(l:Option (List β)):Option (List β):=match a with |none=>none |some b=>match l with |none=>none |some m=>some (b::m)
def mapM' {α β:Type}(f:α→Option β)(l:List α):Option (List β):=List.rec (motive:=fun _=>Option (List β)) (some []) (fun a _ ih=>QCB (f a) ih) l
theorem mapM'_nil {α β:Type}(f:α→Option β):mapM' f []=some []:=rfl
theorem mapM'_cons {α β:Type}(f:α→Option β)(a:α)(l:List α):mapM' f (a::l)=QCB (f a) (mapM' f l):=rfl
def Qdh {α β:Type}(es:List α)(off len:Nat)(k:List α→Option β):Option β:=
 match Nat.ble (off+len) es.length with |true=>fSp ((es.drop off).take len) k |false=>none
def Qaj (H:Heap):Nat→AV→Option AV
 | 0,_=>none
 | n+1,v=>match v with
  | .sl b off len=>match H[b]? with
   | some (.rows _ true es)=>Qdh es off len fun es=>some (.lst es)
   | some (.ro _ es)=>Qdh es off len fun es=>some (.lst es)
   | _=>none
  | .ptr .. | .map _ | .undef | .tup _=>none
  | .fn f caps=>match caps with |[]=>some (.fn f []) |_::_=>none
  | .iface t v=>match Qaj H n v with |some v=>some (.iface t v) |none=>none
  | .agg cs=>match mapM' (Qaj H n) cs with |some cs=>some (.agg cs) |none=>none
  | .nils=>some (.lst [])
  | .emp=>some (.lst [])
  | v=>some v
def freeze (H:Heap)(v:AV):Option AV:=Qaj H 12 v
def frozenIn:Nat→AV→List Nat
 | 0,_=>[]
 | n+1,v=>match v with
  | .sl b _ _=>[b]
  | .iface _ v=>frozenIn n v
  | .agg cs=>cs.flatMap (frozenIn n)
  | _=>[]
def shut (H:Heap)(b:Nat):Option Heap:=match H[b]? with
 | some (.rows z true es)=>fSp (H.set b (.ro z es)) some
 | some (.ro _ _)=>some H
 | _=>none
def QbT:List Nat→Heap→Option Heap
 | [],H=>some H
 | b::l,H=>match shut H b with |some H=>QbT l H |none=>none
def QeU (H:Heap)(v:AV):Option (AV×Heap):=match freeze H v with
 | none=>none
 | some x=>match QbT (frozenIn 12 v) H with |none=>none |some H=>some (x,H)
def Qhp:Nat→AV→Bool
 | 0,_=>false
 | n+1,v=>match v with
  | .bool _ | .int .. | .str _ | .nilp | .nils | .emp | .nilm | .nilf | .nili | .fn _ []=>true
  | .iface _ v=>Qhp n v
  | .agg cs=>cs.all (Qhp n)
  | .tup cs=>cs.all (Qhp n)
  | _=>false
def renN (σ:Nat→Nat):Nat→AV→AV
 | 0,v=>.undef
 | n+1,v=>match v with
  | .ptr b i o=>.ptr (σ b) i o
  | .sl b off len=>.sl (σ b) off len
  | .map b=>.map (σ b)
  | .fn f caps=>match caps with |[]=>.fn f [] |_::_=>.fn f (caps.map (renN σ n))
  | .iface t v=>.iface t (renN σ n v)
  | .agg cs=>.agg (cs.map (renN σ n))
  | .tup cs=>.tup (cs.map (renN σ n))
  | v=>v
def ren (σ:Nat→Nat)(v:AV):AV:=renN σ 8 v
def Qes:Nat→AV→List Nat
 | 0,_=>[]
 | n+1,v=>match v with
  | .ptr b _ _=>[b]
  | .sl b _ _=>[b]
  | .map b=>[b]
  | .fn _ caps=>match caps with |[]=>[] |_::_=>caps.flatMap (Qes n)
  | .iface _ v=>Qes n v
  | .agg cs=>cs.flatMap (Qes n)
  | .tup cs=>cs.flatMap (Qes n)
  | _=>[]
def refs (v:AV):List Nat:=Qes 8 v
def Blk.refs:Blk→List Nat
 | .rows _ false es=>es.flatMap fun r=>r.flatMap Ev.refs
 | _=>[]
def isIn (b:Nat)(l:List Nat):Bool:=List.rec (motive:=fun _=>Bool) false (fun x _ ih=>ifB (Nat.beq x b) true ih) l
theorem QCC (b:Nat):isIn b []=false:=rfl
theorem QzZ (b x:Nat)(l:List Nat):isIn b (x::l)=ifB (Nat.beq x b) true (isIn b l):=rfl
def QaY (b:Nat)(l:List Nat)(i:Nat):Nat:=List.rec (motive:=fun _=>Nat→Nat) (fun i=>i) (fun x _ ih i=>ifB (Nat.beq x b) i (ih (i+1))) l i
theorem Qut (b x:Nat)(l:List Nat)(i:Nat):QaY b (x::l) i=ifB (Nat.beq x b) i (QaY b l (i+1)):=rfl
def Qcr (H:Heap)(b:Nat):Blk:=match H[b]? with |some k=>k |none=>.dead
def visit (H:Heap):Nat→List Nat→List Nat→Option (List Nat)
 | 0,_,_=>none
 | _+1,[],seen=>some seen
 | n+1,b::todo,seen=>match isIn b seen with
  | true=>visit H n todo seen
  | false=>fSp ((Qcr H b).refs++todo) fun todo=>visit H n todo (b::seen)
def Qa8:Nat→List Nat
 | 0=>[]
 | n+1=>n::Qa8 n
def reach {β:Type}(m:Nat)(vs:List AV)(H:Heap)(k:List Nat→Option β):Option β:=
 fSp (Qa8 m) fun base=>
 fSp (base.reverse.flatMap (fun b=>(Qcr H b).refs)++vs.flatMap refs) fun todo=>
 match visit H 100000 todo base with
 | none=>none
 | some seen=>fSp seen.reverse k
def QEu {β:Type}(σ:Nat→Nat)(fr:Fr)(k:Fr→β):β:=List.rec (motive:=fun _=>(Fr→β)→β) (fun k=>k []) (fun p _ ih k=>hV (ren σ p.2) fun v=>ih fun r=>k ((p.1,v)::r)) fr k
def Qv4 {β:Type}(σ:Nat→Nat)(es:List (List AV))(k:List (List AV)→β):β:=List.rec (motive:=fun _=>(List (List AV)→β)→β) (fun k=>k []) (fun r _ ih k=>fVs (r.map (ren σ)) fun r=>ih fun l=>k (r::l)) es k
def Blk.ren' {β:Type}(σ:Nat→Nat)(b:Blk)(k:Blk→β):β:=match b with
 | .rows z false es=>Qv4 σ es fun es=>k (.rows z false es)
 | .rows z true es=>k (.rows z true es)
 | .ro z es=>k (.ro z es)
 | .map es=>k (.map es)
 | .iter s p=>k (.iter s p)
 | .dead=>k .dead
def QpE {β:Type}(σ:Nat→Nat)(H:Heap)(l:List Nat)(k:Heap→β):β:=List.rec (motive:=fun _=>(Heap→β)→β) (fun k=>k []) (fun b _ ih k=>(Qcr H b).ren' σ fun x=>ih fun r=>k (x::r)) l k
def St.canon {β:Type}(m:Nat)(st:St)(k:St→Option β):Option β:=
 reach m (st.fr.map (·.2)) st.H fun seen=>
 QEu (fun b=>QaY b seen 0) st.fr fun fr=>
 QpE (fun b=>QaY b seen 0) st.H seen fun H=>
 k { fr:=fr,H:=H }
def lstZ:AV→AV
 | .nils=>.lst []
 | .emp=>.lst []
 | v=>v
def QaA {β:Type}(c:Ctx):List Nat→List AV→Heap→(List AV→Heap→β)→β
 | z::zs,v::vs,H,k=>match z with
  | 0=>QaA c zs vs H fun vs H=>k (v::vs) H
  | z+1=>match v with
   | .nils=>fNat H.length fun n=>fSp (H++[.rows (c.ty z).size true []]) fun H=>QaA c zs vs H fun vs H=>k (.sl n 0 0::vs) H
   | .emp=>fNat H.length fun n=>fSp (H++[.rows (c.ty z).size true []]) fun H=>QaA c zs vs H fun vs H=>k (.sl n 0 0::vs) H
   | v=>QaA c zs vs H fun vs H=>k (v::vs) H
 | _,vs,H,k=>k vs H
def oneOf (d:AV):List AV→AV
 | [v]=>v
 | _=>d
def QoA {β:Type}(c:Ctx)(zs:List Nat)(v:AV)(H:Heap)(k:AV→Heap→β):β:=match zs with
 | []=>k v H
 | zs=>match v with
  | .agg cs=>QaA c zs cs H fun cs H=>k (.agg cs) H
  | v=>QaA c zs [v] H fun cs H=>k (oneOf v cs) H
def QlQ {β:Type}(c:Ctx)(nz:Nat→List Nat):Fr→Heap→(Fr→Heap→β)→β
 | [],H,k=>k [] H
 | p::r,H,k=>QoA c (nz p.1) p.2 H fun v H=>QlQ c nz r H fun r H=>k ((p.1,v)::r) H
def St.norm {β:Type}(c:Ctx)(nz:Nat→List Nat)(mask m:Nat)(st:St)(k:St→Option β):Option β:=
 fSp (st.fr.only mask) fun fr=>QlQ c nz fr st.H fun fr H=>St.canon m { fr:=fr,H:=H } k
def Qgh (keep:List Nat):Nat→Heap→List Nat
 | _,[]=>[]
 | i,k::r=>match k with
  | .rows _ true _=>ifB (isIn i keep) (Qgh keep (i+1) r) (i::Qgh keep (i+1) r)
  | _=>Qgh keep (i+1) r
def mvNo (m:Nat)(mv:List Nat)(b:Nat):Nat:=ifB (isIn b mv) (m+QaY b mv 0) b
def Quu {β:Type}(σ:Nat→Nat)(mv:List Nat):Nat→Heap→(Heap→β)→β
 | _,[],k=>k []
 | i,x::r,k=>ifB (isIn i mv) (Quu σ mv (i+1) r fun r=>k (.dead::r)) (x.ren' σ fun x=>Quu σ mv (i+1) r fun r=>k (x::r))
def Quv {β:Type}(args:List AV)(H:Heap)(k:Heap→β):β:=
 fSp (Qgh (args.flatMap refs) 0 H) fun mv=>
 Quu (mvNo H.length mv) mv 0 H fun H1=>fSp (H1++mv.map (Qcr H)) k
def intCmp (op:BinOp)(x y:Int):Option Bool:=
 match op with
 | .eql=>some (eqI x y)
 | .neq=>some (!eqI x y)
 | .lss=>some (ltI x y)
 | .leq=>some (leI x y)
 | .gtr=>some (ltI y x)
 | .geq=>some (leI y x)
 | _=>none
def intBits (op:BinOp)(k:IntKind)(x y:Int):Option Int:=
 let a:=BitVec.ofInt k.bits x
 let b:=BitVec.ofInt k.bits y
 match op with
 | .and=>some (k.wrap (a &&& b).toNat)
 | .or=>some (k.wrap (a |||b).toNat)
 | .xor=>some (k.wrap (a ^^^ b).toNat)
 | .andNot=>some (k.wrap (a &&& ~~~b).toNat)
 | _=>none
def QgO (op:BinOp)(k:IntKind)(x y:Int):Option AV:=
 match op with
 | .add=>some (.int k (wr k (x+y)))
 | .sub=>some (.int k (wr k (x - y)))
 | .mul=>some (.int k (wr k (x * y)))
 | .quo=>match eqI y 0 with |true=>none |false=>some (.int k (wr k (x.tdiv y)))
 | .rem=>match eqI y 0 with |true=>none |false=>some (.int k (x.tmod y))
 | .and | .or | .xor | .andNot=>match intBits op k x y with |some r=>some (.int k r) |none=>none
 | _=>match intCmp op x y with |some b=>some (.bool b) |none=>none
def QgP:List UInt8→List UInt8→Bool
 | _,[]=>false
 | [],_::_=>true
 | a::x,b::y=>decide (a<b)||(a==b&&QgP x y)
def QjS (op:BinOp)(x y:List UInt8):Option AV:=
 match op with
 | .add=>match Nat.ble (x.length+y.length) 9223372036854775807 with |true=>some (.str (x++y)) |false=>none
 | .eql=>some (.bool (x==y))
 | .neq=>some (.bool (!(x==y)))
 | .lss=>some (.bool (QgP x y))
 | .leq=>some (.bool (QgP x y||x==y))
 | .gtr=>some (.bool (!(QgP x y||x==y)))
 | .geq=>some (.bool (!QgP x y))
 | _=>none
def Qfo (kt:TD)(x y:AV):Option Bool:=
 match kt with
 | .int _=>match x,y with | .int k a,.int j b=>(match decide (k=j) with |true=>some (eqI a b) |false=>none) |_,_=>none
 | .bool=>match x,y with | .bool a,.bool b=>some (a==b) |_,_=>none
 | .str=>match x,y with | .str a,.str b=>some (a==b) |_,_=>none
 | _=>none
def Qgr (c:Ctx):List (Nat×TypeId)→List AV→List AV→Option Bool
 | [],[],[]=>some true
 | p::fs,x::xs,y::ys=>
  match Qfo (c.ty p.2).d x y with
  | none=>none
  | some false=>some false
  | some true=>Qgr c fs xs ys
 | _,_,_=>none
def eqAV (c:Ctx)(i:TI)(cst:Bool)(x y:AV):Option Bool:=
 match i.d with
 | .bool=>match x,y with | .bool a,.bool b=>some (a==b) |_,_=>none
 | .ptr _=>match x,y with
  | .nilp,.nilp=>some true
  | .nilp,.ptr ..=>some false
  | .ptr ..,.nilp=>some false
  | .nilp,.iptr _=>some false
  | .iptr _,.nilp=>some false
  | _,_=>none
 | .slice _=>match x,y with
  | .nils,.nils=>some true
  | .sl _ _ (_+1),.nils=>some false
  | .nils,.sl _ _ (_+1)=>some false
  | .nils,.lst (_::_)=>some false
  | .lst (_::_),.nils=>some false
  | _,_=>none
 | .map _ _=>match x,y with
  | .nilm,.nilm=>some true
  | .nilm,.map _=>some false
  | .map _,.nilm=>some false
  | _,_=>none
 | .func=>match x,y with
  | .nilf,.nilf=>some true
  | .nilf,.fn ..=>some false
  | .fn ..,.nilf=>some false
  | _,_=>none
 | .iface=>match x,y with
  | .nili,.nili=>match cst with |true=>some true |false=>none
  | .nili,.iface ..=>some false
  | .iface ..,.nili=>some false
  | _,_=>none
 | .Qbk fs=>match x,y with
  | .agg xs,.agg ys=>match i.flat with |true=>Qgr c fs xs ys |false=>none
  | _,_=>none
 | _=>none
def binop (c:Ctx)(i:TI)(cst:Bool)(op:BinOp)(x y:AV):Option AV:=
 match x,y with
 | .int k a,.int j b=>
  match op with
  | .shl=>match ltI b 0 with |true=>none |false=>some (.int k (wr k (a * 2 ^ (min b.toNat k.bits))))
  | .shr=>match ltI b 0 with |true=>none |false=>some (.int k (a.fdiv (2 ^ (min b.toNat k.bits))))
  | op=>match decide (k=j) with |true=>QgO op k a b |false=>none
 | .str a,.str b=>QjS op a b
 | x,y=>
  match op with
  | .eql=>match eqAV c i cst x y with |some b=>some (.bool b) |none=>none
  | .neq=>match eqAV c i cst x y with |some b=>some (.bool !b) |none=>none
  | _=>none
def isConst:Operand→Bool
 | .const _=>true
 | _=>false
def unop (op:UnOp)(x:AV):Option AV:=
 match op,x with
 | .neg,.int k n=>some (.int k (wr k (0 - n)))
 | .xor,.int k n=>match intBits .xor k (if k.signed then -1 else k.max) n with |some r=>some (.int k r) |none=>none
 | .not,.bool b=>some (.bool !b)
 | _,_=>none
def setFrom:List AV→Nat→List AV→List AV
 | cs,0,[]=>cs
 | cs,0,v::vs=>match cs with |[]=>[] |_::r=>v::setFrom r 0 vs
 | cs,o+1,vs=>match cs with |[]=>[] |c::r=>c::setFrom r o vs
def QmE (place:Nat→Option (Nat×Nat))(cells:List AV):List (Nat×AV)→Option (List AV)
 | []=>some cells
 | (i,v)::rest=>
  match place i with
  | none=>none
  | some (off,size)=>
   match Nat.beq v.cells.length size&&Nat.ble (off+size) cells.length&&v.cells.all AV.Qax with
   | true=>fSp (setFrom cells off v.cells) fun cells=>QmE place cells rest
   | false=>none
def QeV (size:Nat)(rows:List (List AV)):List (Nat×AV)→Heap→Option (List (List AV)×Heap)
 | [],H=>some (rows,H)
 | (i,v)::rest,H=>
  match QeU H v with
  | none=>none
  | some (v,H)=>
   match Nat.beq v.cells.length size&&Nat.blt i rows.length&&v.cells.all AV.Qax with
   | true=>fSp (rows.set i v.cells) fun rows=>QeV size rows rest H
   | false=>none
def atIdx (n:Int)(len:Nat):Option Nat:=match leI 0 n&&ltI n len with |true=>some n.toNat |false=>none
def Qhu (c:Ctx)(t:TypeId)(H:Heap):AV→Option AV
 | .ptr b i o=>match H[b]? with
  | some (.rows _ _ es)=>match es[i]? with |some r=>pack (c.ty t) (r.drop o) |none=>none
  | some (.ro _ es)=>match es[i]? with |some r=>pack (c.ty t) (r.drop o) |none=>none
  | _=>none
 | .iptr cs=>pack (c.ty t) cs
 | _=>none
def Qih (c:Ctx)(t:TypeId)(b i o:Nat)(v:List AV)(H:Heap):Option Heap:=
 match H[b]? with
 | some (.rows z pu es)=>match es[i]? with
  | none=>none
  | some r=>match Nat.beq v.length (c.ty t).size&&Nat.ble (o+v.length) r.length&&v.all AV.Qax with
   | true=>match (c.ty t).known with
    | true=>fSp (setFrom r o v) fun r=>fSp (es.set i r) fun es=>fSp (H.set b (.rows z pu es)) some
    | false=>none
   | false=>none
 | _=>none
def Qkz (c:Ctx)(t:TypeId)(H:Heap)(a v:AV):Option Heap:=
 match a with
 | .ptr b i o=>match H[b]? with
  | some (.rows _ true _)=>match QeU H v with
   | none=>none
   | some (v,H)=>Qih c t b i o v.cells H
  | some (.rows _ false _)=>QaA c (c.ty t).zs v.cells H fun v H=>Qih c t b i o v H
  | _=>none
 | _=>none
def QnA (i:TI)(f:Nat):Option (Nat×TypeId):=match i.d with | .Qbk fs=>fs[f]? |_=>none
def elemOf (i:TI):Option TypeId:=match i.d with | .slice e=>some e |_=>none
def bound (n:Option AV)(dflt most:Nat):Option Nat:=
 match n with
 | none=>some dflt
 | some (.int _ n)=>match leI 0 n&&leI n most with |true=>some n.toNat |false=>none
 | some _=>none
def QgQ (H:Heap)(b:Nat):Option Nat:=match H[b]? with |some (.rows z _ _)=>some z |some (.ro z _)=>some z |_=>none
def QgR (H:Heap)(b n:Nat):Bool:=match QgQ H b with |some z=>Nat.beq z n |none=>false
def Qet (c:Ctx)(t:TypeId)(H:Heap)(x:AV)(lo hi:Option AV):Option AV:=
 match x with
 | .str s=>match (c.ty t).d with
  | .str=>match bound hi s.length s.length with
   | some h=>match bound lo 0 h with |some l=>fSp ((s.drop l).take (h - l)) fun s=>some (.str s) |none=>none
   | none=>none
  | _=>none
 | .lst es=>match elemOf (c.ty t),bound hi es.length es.length with
  | some e,some h=>match bound lo 0 h with
   | some l=>match (es.all fun r=>Nat.beq r.length (c.ty e).size) with |true=>fSp ((es.drop l).take (h - l)) fun es=>some (.lst es) |false=>none
   | none=>none
  | _,_=>none
 | .sl b off len=>match elemOf (c.ty t),bound hi len len with
  | some e,some h=>match bound lo 0 h with
   | some l=>match QgR H b (c.ty e).size with |true=>some (.sl b (off+l) (h - l)) |false=>none
   | none=>none
  | _,_=>none
 | .nils=>match elemOf (c.ty t),bound hi 0 0,bound lo 0 0 with
  | some _,some _,some _=>some .nils
  | _,_,_=>none
 | .emp=>match elemOf (c.ty t),bound hi 0 0,bound lo 0 0 with
  | some _,some _,some _=>some .emp
  | _,_,_=>none
 | _=>none
def rowsOf (H:Heap):AV→Option (List (List AV))
 | .nils=>some []
 | .emp=>some []
 | .lst es=>some es
 | .sl b off len=>match H[b]? with
  | some (.rows _ _ es)=>Qdh es off len some
  | some (.ro _ es)=>Qdh es off len some
  | _=>none
 | _=>none
def QbP:AV→Heap→Bool
 | .lst _,_=>true
 | .nils,_=>true
 | .emp,_=>true
 | .sl b _ _,H=>match H[b]? with |some (.rows _ p _)=>p |some (.ro _ _)=>true |_=>false
 | _,_=>false
def QbH (c:Ctx)(e:TypeId)(H:Heap)(new:List (List AV)):Option (AV×Heap):=
 match Nat.ble (new.length * (c.ty e).bytes) 35184372088832&&Nat.ble 1 (c.ty e).bytes with
  | true=>fSp new fun new=>fSp (H++[.rows (c.ty e).size true new]) fun H'=>some (.sl H.length 0 new.length,H')
  | false=>none
def Qgs (c:Ctx)(t tx:TypeId)(H:Heap)(s x:AV):Option (AV×Heap):=
 match (match (elemOf (c.ty tx)).isSome with |true=>elemOf (c.ty t) |false=>none) with
 | none=>none
 | some e=>
  match rowsOf H x with
  | none=>none
  | some new0=>
   match (match QbP x H with |true=>some new0 |false=>none) with
   | none=>none
   | some new=>
    match (new.all fun r=>Nat.beq r.length (c.ty e).size) with
    | false=>none
    | true=>
     match s with
     | .nils=>QbH c e H new
     | .emp=>QbH c e H new
     | .sl b 0 len=>match H[b]? with
      | some (.rows z true es)=>
       match Nat.beq z (c.ty e).size&&Nat.ble ((len+new.length) * (c.ty e).bytes) 35184372088832&&Nat.ble len es.length&&Nat.ble 1 (c.ty e).bytes with
       | true=>fSp (es.take len++new) fun es=>fSp (H.set b .dead++[.rows z true es]) fun H'=>some (.sl H.length 0 es.length,H')
       | false=>none
      | _=>none
     | _=>none
def QnB (c:Ctx)(t:TypeId)(H:Heap)(s x:AV):Option (AV×Heap):=
 match s with
 | .nils=>match elemOf (c.ty t),x with
  | some e,.int .i64 n=>
   match leI 1 n&&Nat.ble (n.toNat * (c.ty e).bytes) 140737488355328&&Nat.ble 1 (c.ty e).bytes&&Nat.ble 1 (c.ty e).size&&(c.ty e).zero.all AV.Qax with
   | true=>fSp (List.replicate n.toNat ((c.ty e).zero.map lstZ)) fun es=>fSp (H++[.rows (c.ty e).size true es]) fun H'=>some (.sl H.length 0 n.toNat,H')
   | false=>none
  | _,_=>none
 | _=>none
def QyC (i:TI):Bool:=match i.known with |true=>(match i.d with | .int .i64=>true |_=>false) |false=>false
def Ql2 (c:Ctx)(t tx:TypeId)(H:Heap)(s x:AV):Option (AV×Heap):=match QyC (c.ty tx) with |true=>QnB c t H s x |false=>Qgs c t tx H s x
def QoB (c:Ctx)(t:TypeId)(H:Heap)(d x:AV):Option (AV×Heap):=
 match d with
 | .sl b off len=>match elemOf (c.ty t),rowsOf H x with
  | some e,some src=>match H[b]? with
   | some (.rows z true es)=>
    match (match QbP x H with |true=>some (src.take len) |false=>none) with
    | none=>none
    | some new=>match (src.all fun r=>Nat.beq r.length z)&&Nat.beq z (c.ty e).size&&Nat.ble (off+len) es.length with
     | true=>fSp (es.take off++new++es.drop (off+new.length)) fun es=>fSp (H.set b (.rows z true es)) fun H=>some (.int .i64 (new.length:Int),H)
     | false=>none
   | _=>none
  | _,_=>none
 | _=>none
def QoC (kt:TD)(k:AV):List (AV×AV)→Option (Option AV)
 | []=>some none
 | (q,v)::r=>match Qfo kt k q with |none=>none |some true=>some (some v) |some false=>QoC kt k r
def Quw (kt:TD)(k v:AV):List (AV×AV)→Option (List (AV×AV))
 | []=>some [(k,v)]
 | (q,x)::r=>match Qfo kt k q with
  | none=>none
  | some true=>some ((q,v)::r)
  | some false=>match Quw kt k v r with |none=>none |some r=>some ((q,x)::r)
def Qs0 (kt:TD)(k:AV):Bool:=match Qfo kt k k with |some _=>true |none=>false
def QpF (H:Heap):AV→Option Int
 | .str s=>some s.length
 | .nils=>some 0
 | .emp=>some 0
 | .lst es=>some es.length
 | .sl _ _ len=>some len
 | .nilm=>some 0
 | .map b=>match H[b]? with |some (.map es)=>some es.length |_=>none
 | _=>none
def QlR (c:Ctx)(i:TI)(H:Heap)(x:AV):Option Int:=
 match i.d with
 | .arr n _=>some (n:Int)
 | .ptr e=>match (c.ty e).d with | .arr n _=>some (n:Int) |_=>none
 | .str=>match x with | .str _=>QpF H x |_=>none
 | .slice _=>match x with | .nils | .emp | .lst _ | .sl ..=>QpF H x |_=>none
 | .map _ _=>match x with | .nilm | .map _=>QpF H x |_=>none
 | _=>none
def Qux (c:Ctx)(i:TI)(H:Heap)(x:AV):Option (AV×Heap):=match QlR c i H x with |some n=>some (.int .i64 n,H) |none=>none
def QyD (i:TI)(H:Heap)(x:AV):Option (AV×Heap):=match elemOf i with
 | none=>none
 | some _=>match x with | .nils=>some (.int .i64 0,H) | .emp=>some (.int .i64 0,H) |_=>none
def QfW (c:Ctx)(b:Builtin)(argTypes:Array TypeId)(H:Heap)(args:List AV):Option (AV×Heap):=
 match b,args with
 | .len,[x]=>match Nat.ble 1 argTypes.size with |true=>Qux c (c.ty (argTypes.getD 0 0)) H x |false=>none
 | .cap,[x]=>match Nat.ble 1 argTypes.size with |true=>QyD (c.ty (argTypes.getD 0 0)) H x |false=>none
 | .append,[s,x]=>match Nat.beq argTypes.size 2 with |true=>Ql2 c (argTypes.getD 0 0) (argTypes.getD 1 0) H s x |false=>none
 | .copy,[d,x]=>match Nat.beq argTypes.size 2 with |true=>QoB c (argTypes.getD 0 0) H d x |false=>none
 | _,_=>none
inductive Task where
 | pfn (f:FuncId) (args:List AV)
 | fn (f:FuncId) (args:List AV) (H:Heap)
 | loop (f:FuncId) (id m:Nat) (body:Code) (st:St)
inductive Ex where
 | norm
 | exit (id:Nat)
 | ret
 deriving Inhabited
inductive Res where
 | val (v:AV) (H:Heap)
 | code (e:Ex) (st:St)
 deriving Inhabited
section
variable (c:Ctx) (rec:Task→Option Res)
def Qjf {β:Type}(τ:Nat→Nat):List Nat→Heap→Heap→(Heap→Heap→β)→β
 | [],H',H,k=>k H' H
 | _::l,[],H,k=>Qjf τ l [] H k
 | b::l,x::H',H,k=>x.ren' τ fun x=>fSp (H.set b x) fun H=>Qjf τ l H' H k
def QpG {β:Type}(τ:Nat→Nat):Heap→(Heap→β)→β
 | [],k=>k []
 | x::l,k=>x.ren' τ fun x=>QpG τ l fun l=>k (x::l)
def Qd2 (seen:List Nat)(m n:Nat)(j:Nat):Nat:=match Nat.blt j m with |true=>seen.getD j 0 |false=>n+(j - m)
def fLen {α β:Type}(l:List α)(k:Nat→β):β:=fNat l.length k
def Qjg (f:FuncId)(args:List AV)(H:Heap):Option (AV×Heap):=
 reach 0 args H fun seen=>
 fVs (args.map (ren fun b=>QaY b seen 0)) fun args'=>
 QpE (fun b=>QaY b seen 0) H seen fun H0=>
 match rec (.fn f args' H0) with
 | some (.val v H')=>
  fLen seen fun m=>fLen H fun n=>
  hV (ren (Qd2 seen m n) v) fun v=>
  Qjf (Qd2 seen m n) seen H' H fun rest H=>
  QpG (Qd2 seen m n) rest fun new=>
  fSp (H++new) fun H=>some (v,H)
 | _=>none
def Qhv (f:FuncId)(args:List AV)(H:Heap):Option (AV×Heap):=
 match mapM' (Qaj H 12) args with
 | none=>none
 | some fs=>
  match rec (.pfn f fs) with
  | some (.val v _)=>
   match Qhp 8 v with
   | true=>some (v,H)
   | false=>match QbT (args.flatMap (frozenIn 12)) H with |some H=>some (v,H) |none=>none
  | _=>none
def QkA (e:TypeId)(args:List AV)(H:Heap):Option (AV×Heap):=
 match args with
 | [x]=>match rowsOf H x with
  | none=>none
  | some new0=>match (match QbP x H with |true=>some new0 |false=>none) with
   | none=>none
   | some new=>match (new.all fun r=>Nat.beq r.length (c.ty e).size) with
    | true=>QbH c e H new
    | false=>none
 | _=>none
def Qjh (p:List AV→Option AV)(args:List AV)(H:Heap):Option (AV×Heap):=
 match mapM' (Qaj H 12) args with
 | none=>none
 | some fs=>match p fs with
  | none=>none
  | some v=>match Qhp 8 v with
   | true=>some (v,H)
   | false=>match QbT (args.flatMap (frozenIn 12)) H with |some H=>some (v,H) |none=>none
def QjT (f:FuncId)(args:List AV)(H:Heap):Option (AV×Heap):=
 match c.prim f with
 | .clone e=>QkA c e args H
 | .pure p=>Qjh p args H
 | .no=>match c.raw f||!(args.all fun v=>(Qaj H 12 v).isSome) with
  | true=>Qjg rec f args H
  | false=>Qhv rec f args H
def okV (H:Heap):Option AV→Option (AV×Heap)
 | some v=>some (v,H)
 | none=>none
def Qz0:AV→AV→AV→Option AV
 | .bool true,a,_=>some a
 | .bool false,_,b=>some b
 | _,_,_=>none
def Qr5 (H:Heap)(b:Blk):Option (AV×Heap):=fSp (H++[b]) fun H'=>some (.ptr H.length 0 0,H')
def QpH (c:Ctx)(i:TI)(H:Heap):Option (AV×Heap):=match i.known&&i.zero.all AV.Qax with |true=>QaA c i.zs i.zero H fun z H=>Qr5 H (.rows i.size false [z]) |false=>none
def Qz1 (c:Ctx)(zs:List Nat)(v:AV)(H:Heap):Option (AV×Heap):=
 match v.cells.all AV.Qax with |true=>QaA c zs v.cells H fun cs H=>Qr5 H (.rows v.cells.length false [cs]) |false=>none
def Qr6 (fs:List (Nat×TypeId))(k:Nat):Option (Nat×Nat):=match fs[k]? with |some (off,u)=>some (off,(c.ty u).size) |none=>none
def QpI (i:TI)(parts:List (Nat×AV)):Option AV:=
 match i.d with
 | .Qbk fs=>match QmE (Qr6 c fs) i.zero parts with |some cs=>some (.agg cs) |none=>none
 | .arr _ e=>match QmE (fun k=>some (k * (c.ty e).size,(c.ty e).size)) i.zero parts with |some cs=>some (.agg cs) |none=>none
 | _=>none
def QeD (i:TI)(len:Nat)(parts:List (Nat×AV))(H:Heap):Option (AV×Heap):=
 match elemOf i with
 | none=>none
 | some e=>
  match Nat.ble (len * (c.ty e).size) 16777216&&(c.ty e).zero.all AV.Qax with
  | false=>none
  | true=>match QeV (c.ty e).size (List.replicate len ((c.ty e).zero.map lstZ)) parts H with
   | some (es,H)=>fSp es fun es=>fSp (H++[.rows (c.ty e).size true es]) fun H'=>some (.sl H.length 0 len,H')
   | none=>none
def Qs1 (t:TypeId)(a v:AV)(H:Heap):Option (AV×Heap):=match Qkz c t H a v with |some H=>some (.tup [],H) |none=>none
def QnC:AV→Option AV
 | .ptr b i o=>some (.ptr b i o)
 | .iptr cs=>some (.iptr cs)
 | .fn f caps=>some (.fn f caps)
 | .iface t v=>some (.iface t v)
 | _=>none
def QkB (s i:TI)(x:AV):Option AV:=match s.known with
 | false=>none
 | true=>match i.d,x with
  | .int k,.int _ n=>some (.int k (wr k n))
  | .str,.str s=>some (.str s)
  | _,_=>none
def Qs2 (t:TypeId)(i:TI)(v:AV):Option AV:=match i.d with
 | .iface=>none
 | .other=>none
 | _=>match QD4 v with |true=>some (.iface t v) |false=>none
def Qlm (fn:Fn)(first:Array Operand)(caps:List AV):Option AV:=match fn with
 | .func f=>match Nat.beq first.size 0 with |true=>some (.fn f caps) |false=>none
 | _=>none
def Qiz (i:TI)(H:Heap):Option AV→Option (AV×Heap)
 | none=>fSp (H++[.map []]) fun H'=>some (.map H.length,H')
 | some (.int _ _)=>match i.d with | .map _ _=>fSp (H++[.map []]) fun H'=>some (.map H.length,H') |_=>none
 | some _=>none
def QfG (i:TI)(l cp:AV)(H:Heap):Option (AV×Heap):=
 match elemOf i,l,cp with
 | some e,.int .i64 n,.int .i64 m=>
  match leI 0 n&&eqI n m&&Nat.ble (n.toNat * (c.ty e).bytes) 140737488355328&&Nat.ble 1 (c.ty e).bytes&&(c.ty e).zero.all AV.Qax with
  | true=>fSp (List.replicate n.toNat ((c.ty e).zero.map lstZ)) fun es=>fSp (H++[.rows (c.ty e).size true es]) fun H'=>some (.sl H.length 0 n.toNat,H')
  | false=>none
 | _,_,_=>none
def QnD (t:TypeId)(H:Heap)(x:AV)(lo hi mx:Option AV):Option AV:=match mx with |none=>Qet c t H x lo hi |some _=>none
def QgS (i:TI)(x:AV)(f:Nat):Option AV:=
 match QnA i f with
 | none=>none
 | some (off,u)=>match Nat.ble 1 (c.ty u).size with
  | false=>none
  | true=>match x with
   | .ptr b i o=>some (.ptr b i (o+off))
   | .iptr cs=>fSp (cs.drop off) fun cs=>some (.iptr cs)
   | _=>none
def QpJ (i:TI)(x:AV)(f:Nat):Option AV:=
 match QnA i f with
 | none=>none
 | some (off,u)=>match x with
  | .agg cs=>pack (c.ty u) (cs.drop off)
  | _=>none
def Qji (e:TypeId)(H:Heap)(n:Int):AV→Option AV
 | .lst es=>match atIdx n es.length with
  | some i=>match es[i]? with
   | some r=>match Nat.beq r.length (c.ty e).size with |true=>some (.iptr r) |false=>none
   | none=>none
  | none=>none
 | .sl b off len=>match atIdx n len with
  | some i=>match QgR H b (c.ty e).size with |true=>some (.ptr b (off+i) 0) |false=>none
  | none=>none
 | _=>none
def Qs3 (m:Nat)(e:TypeId)(n:Int)(x:AV):Option AV:=
 match atIdx n m with
 | some i=>match x with
  | .ptr b j o=>some (.ptr b j (o+i * (c.ty e).size))
  | .iptr cs=>fSp (cs.drop (i * (c.ty e).size)) fun cs=>some (.iptr cs)
  | _=>none
 | none=>none
def Qdi (i:TI)(H:Heap)(x ix:AV):Option AV:=
 match ix with
 | .int _ n=>match i.d with
  | .slice e=>Qji c e H n x
  | .arr m e=>Qs3 c m e n x
  | _=>none
 | _=>none
def Qpg (s:List UInt8)(n:Int):Option AV:=
 match atIdx n s.length with
 | some i=>match s[i]? with |some b=>some (.int .u8 b.toNat) |none=>none
 | none=>none
def Qph (m:Nat)(e:TypeId)(cs:List AV)(n:Int):Option AV:=
 match atIdx n m with
 | some i=>pack (c.ty e) (cs.drop (i * (c.ty e).size))
 | none=>none
def QpK (i:TI)(x ix:AV):Option AV:=
 match ix with
 | .int _ n=>match i.d,x with
  | .arr m e,.agg cs=>Qph c m e cs n
  | .str,.str s=>Qpg s n
  | _,_=>none
 | _=>none
def entriesOf (H:Heap):AV→Option (List (AV×AV))
 | .nilm=>some []
 | .map b=>match H[b]? with |some (.map es)=>some es |_=>none
 | _=>none
def Qln (i:TI)(x ix:AV)(ok:Bool)(H:Heap):Option AV:=
 match i.d with
 | .map kt e=>match entriesOf H x with
  | none=>none
  | some es=>match (match Qs0 (c.ty kt).d ix with |true=>QoC (c.ty kt).d ix es |false=>none) with
   | none=>none
   | some r=>match (match r with |some v=>some v |none=>pack (c.ty e) (c.ty e).zero) with
    | none=>none
    | some v=>some (match ok with |true=>.tup [v,.bool r.isSome] |false=>v)
 | _=>none
def QmF (i:TI)(m k v:AV)(H:Heap):Option (AV×Heap):=
 match i.d,m with
 | .map kt _,.map b=>match QeU H v with
  | none=>none
  | some (v,H)=>match H[b]? with
   | some (.map es)=>match Qs0 (c.ty kt).d k with
    | true=>match Quw (c.ty kt).d k v es with |some es=>fSp es fun es=>fSp (H.set b (.map es)) fun H=>some (.tup [],H) |none=>none
    | false=>none
   | _=>none
 | _,_=>none
def QmG (i:Nat):AV→Option AV
 | .tup vs=>vs[i]?
 | _=>none
def Qz2 (fv:AV)(args:List AV)(H:Heap):Option (AV×Heap):=
 match fv with
 | .fn g caps=>QjT c rec g (args++caps) H
 | _=>none
def Qjj (cl:Call)(fr:Fr)(H:Heap):Option (AV×Heap):=
 match cl.callee with
 | .value f=>Qz2 c rec (opv fr f) (cl.args.toList.map (opv fr)) H
 | .builtin b=>QfW c b cl.argTypes H (cl.args.toList.map (opv fr))
 | _=>none
def evOp (o:Oper)(fr:Fr)(H:Heap):Option (AV×Heap):=
 match o.op with
 | .move x | .assign x=>some (opv fr x,H)
 | .pick p a b=>okV H (Qz0 (opv fr p) (opv fr a) (opv fr b))
 | .alloc e=>QpH c (c.ty e) H
 | .box e x=>Qz1 c (c.ty e).zs (opv fr x) H
 | .build t parts=>okV H (QpI c (c.ty t) (parts.toList.map fun p=>(p.1,opv fr p.2)))
 | .buildSlice t len parts=>QeD c (c.ty t) len (parts.toList.map fun p=>(p.1,opv fr p.2)) H
 | .load t a=>okV H (Qhu c t H (opv fr a))
 | .store t a v=>Qs1 c t (opv fr a) (opv fr v) H
 | .nilCheck x=>okV H (QnC (opv fr x))
 | .binOp op t x y _=>okV H (binop c (c.ty t) (isConst x||isConst y) op (opv fr x) (opv fr y))
 | .unOp op _ x=>okV H (unop op (opv fr x))
 | .convert s d x=>okV H (QkB (c.ty s) (c.ty d) (opv fr x))
 | .makeInterface t x=>okV H (Qs2 t (c.ty t) (opv fr x))
 | .makeFunc fn first caps=>okV H (Qlm fn first (caps.toList.map (opv fr)))
 | .makeMap t r=>Qiz (c.ty t) H (r.map (opv fr))
 | .makeSlice t l cp=>QfG c (c.ty t) (opv fr l) (opv fr cp) H
 | .slice t x lo hi mx=>okV H (QnD c t H (opv fr x) (lo.map (opv fr)) (hi.map (opv fr)) (mx.map (opv fr)))
 | .fieldAddr s x f=>okV H (QgS c (c.ty s) (opv fr x) f)
 | .field s x f=>okV H (QpJ c (c.ty s) (opv fr x) f)
 | .indexAddr t x ix=>okV H (Qdi c (c.ty t) H (opv fr x) (opv fr ix))
 | .index t x ix=>okV H (QpK c (c.ty t) (opv fr x) (opv fr ix))
 | .lookup t x ix ok=>okV H (Qln c (c.ty t) (opv fr x) (opv fr ix) ok H)
 | .mapUpdate t m k v | .insert t m k v=>QmF c (c.ty t) (opv fr m) (opv fr k) (opv fr v) H
 | .extract t i=>okV H (QmG i (opv fr t))
 | .call cl=>Qjj c rec cl fr H
 | _=>none
def Qa4 (ops:Array Oper)(o:Oper)(fr:Fr):Option Bool:=
 match o.guard with
 | none=>some true
 | some (j,want)=>match (ops[j]?).bind (·.dst) with
  | some d=>match fr.get d with | .bool b=>some (b==want) | .tup _=>some false |_=>none
  | none=>none
def QrD (n:Nat):Option Tmp→Bool
 | none=>true
 | some d=>Nat.blt d n
def evDo (o:Oper)(st:St):Option St:=
 match evOp c rec o st.fr st.H with
 | none=>none
 | some (v,H)=>hV v fun v=>st.fr.putK o.dst v fun fr=>some { fr:=fr,H:=H }
def Qce (n:Nat)(ops:Array Oper)(o:Oper)(st:St):Option St:=
 match QrD n o.dst with
 | false=>none
 | true=>match Qa4 ops o st.fr with
  | none=>none
  | some false=>some { st with fr:=st.fr.put o.dst (.tup []) }
  | some true=>evDo c rec o st
def QrE {α β:Type}(a:Option α)(f:α→Option β):Option β:=match a with |none=>none |some x=>f x
def QbU (n:Nat)(ops:Array Oper)(l:List Oper)(st:St):Option St:=List.rec (motive:=fun _=>St→Option St) some (fun o _ ih st=>QrE (Qce c rec n ops o st) ih) l st
theorem QyE (n:Nat)(ops:Array Oper)(st:St):QbU c rec n ops [] st=some st:=rfl
theorem QfH (n:Nat)(ops:Array Oper)(o:Oper)(l:List Oper)(st:St):QbU c rec n ops (o::l) st=QrE (Qce c rec n ops o st) (QbU c rec n ops l):=rfl
end
end Go.Ev
end
noncomputable section
namespace Go.Ev
def Qv5 (c:Ctx)(o:Oper):Bool:=
 match o.op with
 | .move _ | .assign _ | .pick .. | .build .. | .nilCheck _ | .binOp .. | .unOp .. | .makeInterface .. | .makeFunc .. | .field .. | .index .. | .extract .. | .fieldAddr .. | .indexAddr ..=>true
 | .convert _ d _=>match (c.ty d).d with | .int _ | .str=>true |_=>false
 | .slice _ _ _ _ none=>true
 | .call cl=>match cl.callee with
  | .builtin .len=>match (c.ty (cl.argTypes.getD 0 0)).d with | .map ..=>false |_=>true
  | _=>false
 | _=>false
def Qz3 (o:Oper):Bool:=match o.op with | .load ..=>true |_=>false
def QmH (o:Oper):Bool:=match o.op with | .load .. | .slice .. | .indexAddr ..=>true |_=>false
def QoD (c:Ctx)(ops:Array Oper)(bf:Array Nat):Nat→Array Bool→List Nat→Plan→Bool
 | 0,_,_,_=>false
 | _+1,listed,_,.done=>(Region.ready .any ops listed).isEmpty
 | n+1,listed,tk,.take i p=>
  (match ops[i]? with
   | some o=>(Qv5 c o||Qz3 o)&&QoD c ops bf n (listed.setIfInBounds i true) (if QmH o then i::tk else tk) p
   | none=>false)&&Region.free .any ops listed i&&(Region.ready .any ops listed).contains i
 | n+1,listed,tk,.fork l=>
  !l.isEmpty&&(Region.ready .any ops listed==l.map (·.1))&&
   l.all fun q=>(tk.all fun r=>q.2.1.contains r||(bf.getD q.1 0).testBit r)&&QoD c ops bf n (listed.setIfInBounds q.1 true) (tk.filter q.2.1.contains) q.2.2
def codeOk (c:Ctx)(f:FuncId):Code→Bool
 | .region id ops true=>Region.noSelect ops&&QoD c ops (Region.before ops) (ops.size+1) (Array.replicate ops.size false) [] (c.plan f id)
 | .seq a b=>codeOk c f a&&codeOk c f b
 | .cond _ a b=>codeOk c f a&&codeOk c f b
 | .block _ b=>codeOk c f b
 | .loop b=>codeOk c f b
 | _=>true
structure Tra where
 st:St
 rd:List (Nat×Nat×Option Nat)
def rowAt (H:Heap)(b i:Nat):Option (List AV):=match H[b]? with
 | some (.rows _ _ es)=>es[i]?
 | some (.ro _ es)=>es[i]?
 | _=>none
def Qs4 (H H':Heap)(b i:Nat):Bool:=match rowAt H b i,rowAt H' b i with
 | some x,some y=>AV.beqL x y
 | _,_=>false
def QgT (H H':Heap)(q:Nat×Nat×Option Nat):Bool:=match q.2.2 with
 | some i=>Qs4 H H' q.2.1 i
 | none=>match QgQ H q.2.1,QgQ H' q.2.1 with |some x,some y=>Nat.beq x y |_,_=>false
section
variable (c:Ctx) (rec:Task→Option Res)
def QgU (k:Nat)(o:Oper)(st:St):List (Nat×Nat×Option Nat):=
 match o.op with
 | .load _ a=>match opv st.fr a with | .ptr b i _=>[(k,b,some i)] |_=>[]
 | .slice _ x _ _ _=>match opv st.fr x with | .sl b _ _=>[(k,b,none)] |_=>[]
 | .indexAddr _ x _=>match opv st.fr x with | .sl b _ _=>[(k,b,none)] |_=>[]
 | _=>[]
def Qa5 (n:Nat)(ops:Array Oper)(i:Nat)(w:List Nat)(t:Tra):Option Tra:=
 match ops[i]? with
 | none=>none
 | some o=>match Qce c rec n ops o t.st with
  | none=>none
  | some st=>
   let rd:=t.rd.filter fun q=>w.contains q.1
   match rd.all (QgT t.st.H st.H) with
   | true=>some { st:=st,rd:=rd }
   | false=>none
def QkC:Blk→Blk→Bool
 | .rows z p x,.rows z' p' y=>Nat.beq z z'&&p==p'&&AV.QsX x y
 | .ro z x,.ro z' y=>Nat.beq z z'&&AV.QsX x y
 | .map x,.map y=>AV.beqL (x.map (·.1)) (y.map (·.1))&&AV.beqL (x.map (·.2)) (y.map (·.2))
 | .dead,.dead=>true
 | _,_=>false
def Qhw:List Blk→List Blk→Bool
 | [],[]=>true
 | a::l,b::m=>QkC a b&&Qhw l m
 | _,_=>false
def Qhx:List Nat→List Nat→Bool
 | [],[]=>true
 | a::l,b::m=>Nat.beq a b&&Qhx l m
 | _,_=>false
def QoE (a b:St):Bool:=AV.beqL (a.fr.map (·.2)) (b.fr.map (·.2))&&Qhx (a.fr.map (·.1)) (b.fr.map (·.1))&&Qhw a.H b.H
def Qbj (m n:Nat)(ops:Array Oper):Nat→Plan→Tra→Option St
 | 0,_,_=>none
 | _+1,.done,t=>some t.st
 | k+1,.take i p,t=>match ops[i]? with
  | none=>none
  | some o=>match Qa4 ops o t.st.fr with
   | none=>none
   | some w=>match Qce c rec n ops o t.st with
    | none=>none
    | some st=>Qbj m n ops k p { st:=st,rd:=match w with |true=>QgU i o t.st++t.rd |false=>t.rd }
 | k+1,.fork l,t=>match l with
  | []=>none
  | [(i,w,p)]=>match Qa5 c rec n ops i w t with
   | none=>none
   | some t=>Qbj m n ops k p t
  | (i,w,p)::r=>match Qa5 c rec n ops i w t with
   | none=>none
   | some t0=>match Qbj m n ops k p t0 with
    | none=>none
    | some t1=>t1.canon m fun c1=>match (r.all fun q=>match Qa5 c rec n ops q.1 q.2.1 t with
      | none=>false
      | some u=>match Qbj m n ops k q.2.2 u with
       | none=>false
       | some t2=>match t2.canon m fun c2=>some (QoE c1 c2) with |some true=>true |_=>false) with
     | true=>some c1
     | false=>none
def QpL (m n:Nat)(ops:Array Oper)(p:Plan)(st:St):Option St:=Qbj c rec m n ops (ops.size+1) p { st:=st,rd:=[] }
def Qcj (f m n id:Nat)(ops:Array Oper)(draw:Bool)(st:St):Option (Ex×St):=
 match ifB draw (QpL c rec m n ops (c.plan f id) st) (QbU c rec n ops ops.toList st) with
 | none=>none
 | some st=>fSp (st.fr.only (c.keep f id)) fun fr=>some (.norm,{ st with fr:=fr })
def QkD (f m id:Nat)(st:St)(k:St→Option (Ex×St)):Option (Ex×St):=match c.pre f id with
 | 0=>k st
 | mask=>st.norm c (c.nilz f) mask m k
def QkE (a b:St→Option (Ex×St))(st:St):Option (Ex×St):=match a st with
 | some (.norm,st)=>b st
 | r=>r
def Qr7 (p:AV)(a b:St→Option (Ex×St))(st:St):Option (Ex×St):=match p with
 | .bool true=>a st
 | .bool false=>b st
 | _=>none
def QkF (id:Nat)(a:St→Option (Ex×St))(st:St):Option (Ex×St):=match a st with
 | some (.exit k,st)=>match Nat.beq k id with |true=>some (.norm,st) |false=>some (.exit k,st)
 | r=>r
def QoF (r:Option Res):Option (Ex×St):=match r with
 | some (.code e st)=>some (e,st)
 | _=>none
def Qaw (f m n:Nat)(blk:Nat)(co:Code)(st:St):Option (Ex×St):=
 Code.rec (motive:=fun _=>Nat→St→Option (Ex×St))
  (fun _ st=>some (.norm,st))
  (fun id ops draw _ st=>QkD c f m id st fun st=>Qcj c rec f m n id ops draw st)
  (fun _ _ a b blk st=>QkE (a blk) (b blk) st)
  (fun p _ _ a b blk st=>Qr7 (opv st.fr p) (a blk) (b blk) st)
  (fun id _ a _ st=>QkF id (a id) st)
  (fun b _ blk st=>st.norm c (c.nilz f) (c.live f blk) m fun st=>QoF (rec (.loop f blk m b st)))
  (fun _ _ _ _ _ _ _ _=>none)
  (fun id _ st=>st.norm c (c.nilz f) (c.out f id) m fun st=>some (.exit id,st))
  (fun _ _ _ _=>none)
  (fun _ _ _=>none)
  (fun _ _ _=>none)
  (fun _ st=>st.norm c (c.nilz f) (c.res f) m fun st=>some (.ret,st))
  (fun _ _ _=>none)
  co blk st
section
variable (f m n blk:Nat) (st:St)
theorem Qv6:Qaw c rec f m n blk .skip st=some (.norm,st):=rfl
theorem QmI (id:Nat)(ops:Array Oper)(draw:Bool):Qaw c rec f m n blk (.region id ops draw) st=QkD c f m id st fun st=>Qcj c rec f m n id ops draw st:=rfl
theorem QnE (a b:Code):Qaw c rec f m n blk (.seq a b) st=QkE (Qaw c rec f m n blk a) (Qaw c rec f m n blk b) st:=rfl
theorem QpM (p:Operand)(a b:Code):Qaw c rec f m n blk (.cond p a b) st=Qr7 (opv st.fr p) (Qaw c rec f m n blk a) (Qaw c rec f m n blk b) st:=rfl
theorem QoG (id:Nat)(a:Code):Qaw c rec f m n blk (.block id a) st=QkF id (Qaw c rec f m n id a) st:=rfl
theorem QpN (b:Code):Qaw c rec f m n blk (.loop b) st=st.norm c (c.nilz f) (c.live f blk) m fun st=>QoF (rec (.loop f blk m b st)):=rfl
theorem QpO (id:Nat):Qaw c rec f m n blk (.exit id) st=st.norm c (c.nilz f) (c.out f id) m fun st=>some (.exit id,st):=rfl
theorem Qr8:Qaw c rec f m n blk .ret st=st.norm c (c.nilz f) (c.res f) m fun st=>some (.ret,st):=rfl
end
def Qb5 (st:St):ResultVar→Option AV
 | .tmp t=>some (st.fr.get t)
 | .cell a t=>Qhu c t st.H (st.fr.get a)
def QfX (F:Func)(st:St):Option AV:=
 match mapM' (Qb5 c st) F.results.toList with
 | none=>none
 | some [v]=>some v
 | some vs=>some (.tup vs)
def Qge (H:Heap):AV→Option AV
 | .tup vs=>match mapM' (freeze H) vs with |some vs=>some (.tup vs) |none=>none
 | v=>freeze H v
def Qhq:Nat→List AV→Fr
 | _,[]=>[]
 | k,v::l=>(k,v)::Qhq (k+1) l
def mvIf {β:Type}(c:Ctx)(f:FuncId)(args:List AV)(H:Heap)(k:Heap→β):β:=ifB (c.stay f) (k H) (Quv args H k)
def Qa6:Task→Option Res
 | .pfn f args=>match c.fn f with
  | none=>none
  | some F=>match F.body with
   | none=>none
   | some b=>match Nat.ble args.length F.ntmps with
    | false=>none
    | true=>match fSp (Qhq 0 args) fun fr=>Qaw c rec f 0 F.ntmps 0 b { fr:=fr,H:=[] } with
     | none=>none
     | some (.exit _,_)=>none
     | some (_,st)=>match QfX c F st with
      | none=>none
      | some v=>match Qge st.H v with
       | none=>none
       | some v=>some (.val v [])
 | .fn f args H=>match c.fn f with
  | none=>none
  | some F=>match F.body with
   | none=>none
   | some b=>match Nat.ble args.length F.ntmps with
    | false=>none
    | true=>match fSp (Qhq 0 args) fun fr=>fLen H fun m=>mvIf c f args H fun H=>Qaw c rec f m F.ntmps 0 b { fr:=fr,H:=H } with
     | none=>none
     | some (.exit _,_)=>none
     | some (_,st)=>match QfX c F st with
      | none=>none
      | some v=>
       ({ fr:=[(0,v)],H:=st.H }:St).canon H.length fun st1=>hV (st1.fr.get 0) fun v=>some (.val v st1.H)
 | .loop f id m b st=>match c.fn f with
  | none=>none
  | some F=>
   match Qaw c rec f m F.ntmps id b st with
   | some (.norm,st)=>st.norm c (c.nilz f) (c.live f id) m fun st=>rec (.loop f id m b st)
   | some (e,st)=>some (.code e st)
   | none=>none
end
def run (c:Ctx):Nat→Task→Option Res
 | 0,_=>none
 | n+1,t=>Qa6 c (run c n) t
end Go.Ev
end
