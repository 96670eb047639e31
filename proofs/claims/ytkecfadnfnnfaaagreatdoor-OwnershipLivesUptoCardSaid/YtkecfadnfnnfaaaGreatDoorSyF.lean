/- Symbolic runs: what symbolic values and states stand for. -/
import Derived.Test.YtkecfadnfnnfaaaGreatDoorSyC
import Derived.Test.YtkecfadnfnnfaaaGreatDoorEvSet
set_option linter.unusedVariables false
set_option linter.unusedSimpArgs false
namespace Go.Sy
open Go Go.Ev
theorem QjV {a b:IntKind}(h:kEq a b=true):a=b:=by cases a<;>cases b<;>first |rfl |(simp [kEq] at h)
theorem QDk (a:IntKind):kEq a a=true:=by cases a<;>rfl
theorem Qan {a b:Bool}(h:(a&&b)=true):a=true∧b=true:=by simpa using h
theorem QaT:∀ {a b:Ty},Ty.beq a b=true→a=b
 | .nat,b,h=>by cases b<;>first |rfl |(simp [Ty.beq] at h)
 | .int k,b,h=>by cases b<;>first |(simp [Ty.beq] at h; done) |(rw [QjV h])
 | .bool,b,h=>by cases b<;>first |rfl |(simp [Ty.beq] at h)
 | .str,b,h=>by cases b<;>first |rfl |(simp [Ty.beq] at h)
 | .unit,b,h=>by cases b<;>first |rfl |(simp [Ty.beq] at h)
 | .lst e,b,h=>by cases b<;>first |(simp [Ty.beq] at h; done) |(rw [QaT (a:=e) h])
 | .pair x y,b,h=>by
  cases b<;>first |(simp [Ty.beq] at h; done) |(obtain ⟨h1,h2⟩:=Qan h; rw [QaT h1,QaT h2])
theorem Qst:∀ {a b:List UInt8},Qqg a b=true→a=b
 | [],[],_=>rfl
 | a::l,b::m,h=>by
  obtain ⟨h1,h2⟩:=Qan h
  have:=Nat.eq_of_beq_eq_true h1
  rw [Qst h2,UInt8.toNat_inj.mp this]
 | [],_::_,h=>by simp [Qqg] at h
 | _::_,[],h=>by simp [Qqg] at h
theorem QgX {a b:Int}(h:eqI a b=true):a=b:=by
 cases a<;>cases b<;>simp only [eqI] at h<;>first |(rw [Nat.eq_of_beq_eq_true h]) |(cases h)
theorem QxZ {α:Type}[DecidableEq α]{a b:α}(h:decide (a=b)=true):a=b:=of_decide_eq_true h
theorem QEP {a b:O1}(h:o1Eq a b=true):a=b:=by
 cases a<;>cases b<;>simp only [o1Eq,reduceCtorEq] at h<;>first
  | rfl
  | (rw [QaT h]; done)
  | (rw [QjV h]; done)
  | (obtain ⟨h1,h2⟩:=Qan h; rw [QxZ h1,QjV h2]; done)
  | (cases h)
theorem QEQ {a b:O2}(h:o2Eq a b=true):a=b:=by
 cases a<;>cases b<;>simp only [o2Eq,reduceCtorEq] at h<;>first
  | rfl
  | (obtain ⟨h1,h2⟩:=Qan h; rw [QxZ h1,QjV h2]; done)
  | (obtain ⟨h1,h2⟩:=Qan h; obtain ⟨h3,h4⟩:=Qan h2; rw [QxZ h1,QjV h3,QjV h4]; done)
  | (rw [QxZ h]; done)
  | (obtain ⟨h1,h2⟩:=Qan h; rw [QaT h1,QaT h2]; done)
  | (cases h)
theorem QER {a b:O3}(h:o3Eq a b=true):a=b:=by cases a<;>cases b<;>first |rfl |(cases h; done) |(simp only [o3Eq] at h; rw [QaT h])
theorem QaH:∀ {a b:Ex},Ex.beq a b=true→a=b
 | .v n,b,h=>by cases b<;>simp only [Ex.beq,reduceCtorEq] at h; rw [Nat.eq_of_beq_eq_true h]
 | .il n,b,h=>by cases b<;>simp only [Ex.beq,reduceCtorEq] at h; rw [QgX h]
 | .nn n,b,h=>by cases b<;>simp only [Ex.beq,reduceCtorEq] at h; rw [Nat.eq_of_beq_eq_true h]
 | .bl n,b,h=>by cases b<;>simp only [Ex.beq,reduceCtorEq] at h; rw [eq_of_beq h]
 | .st n,b,h=>by cases b<;>simp only [Ex.beq,reduceCtorEq] at h; rw [Qst h]
 | .nl,b,h=>by cases b<;>simp only [Ex.beq,reduceCtorEq] at h; rfl
 | .un,b,h=>by cases b<;>simp only [Ex.beq,reduceCtorEq] at h; rfl
 | .o1 o x,b,h=>by
  cases b<;>simp only [Ex.beq,reduceCtorEq] at h
  obtain ⟨h1,h2⟩:=Qan h
  rw [QEP h1,QaH h2]
 | .o2 o x y,b,h=>by
  cases b<;>simp only [Ex.beq,reduceCtorEq] at h
  obtain ⟨h1,h2⟩:=Qan h
  obtain ⟨h2,h3⟩:=Qan h2
  rw [QEQ h1,QaH h2,QaH h3]
 | .o3 o x y z,b,h=>by
  cases b<;>simp only [Ex.beq,reduceCtorEq] at h
  obtain ⟨h1,h2⟩:=Qan h
  obtain ⟨h2,h3⟩:=Qan h2
  obtain ⟨h3,h4⟩:=Qan h3
  rw [QER h1,QaH h2,QaH h3,QaH h4]
theorem Qx0:∀ {a b:List Ex},QAw a b=true→a=b
 | [],[],_=>rfl
 | a::l,b::m,h=>by obtain ⟨h1,h2⟩:=Qan h; rw [QaH h1,Qx0 h2]
 | [],_::_,h=>by simp [QAw] at h
 | _::_,[],h=>by simp [QAw] at h
theorem Qx1:∀ {a b:List Ty},QyV a b=true→a=b
 | [],[],_=>rfl
 | a::l,b::m,h=>by obtain ⟨h1,h2⟩:=Qan h; rw [QaT h1,Qx1 h2]
 | [],_::_,h=>by simp [QyV] at h
 | _::_,[],h=>by simp [QyV] at h
mutual
theorem Qtz:∀ {a b:SV},SV.beq a b=true→a=b
 | .undef,b,h=>by cases b<;>simp only [SV.beq,reduceCtorEq] at h; rfl
 | .ii k e,b,h=>by cases b<;>simp only [SV.beq,reduceCtorEq] at h; obtain ⟨h1,h2⟩:=Qan h; rw [QjV h1,QaH h2]
 | .bb e,b,h=>by cases b<;>simp only [SV.beq,reduceCtorEq] at h; rw [QaH h]
 | .ss e,b,h=>by cases b<;>simp only [SV.beq,reduceCtorEq] at h; rw [QaH h]
 | .tl t e,b,h=>by cases b<;>simp only [SV.beq,reduceCtorEq] at h; obtain ⟨h1,h2⟩:=Qan h; rw [QaT h1,QaH h2]
 | .nilp,b,h=>by cases b<;>simp only [SV.beq,reduceCtorEq] at h; rfl
 | .ptr x i o,b,h=>by
  cases b<;>simp only [SV.beq,reduceCtorEq] at h
  obtain ⟨h1,h2⟩:=Qan h
  obtain ⟨h2,h3⟩:=Qan h2
  rw [Nat.eq_of_beq_eq_true h1,QaH h2,Nat.eq_of_beq_eq_true h3]
 | .iptr cs,b,h=>by cases b<;>simp only [SV.beq,reduceCtorEq] at h; rw [Qe0 h]
 | .nils,b,h=>by cases b<;>simp only [SV.beq,reduceCtorEq] at h; rfl
 | .emp,b,h=>by cases b<;>simp only [SV.beq,reduceCtorEq] at h; rfl
 | .sl x i o,b,h=>by
  cases b<;>simp only [SV.beq,reduceCtorEq] at h
  obtain ⟨h1,h2⟩:=Qan h
  obtain ⟨h2,h3⟩:=Qan h2
  rw [Nat.eq_of_beq_eq_true h1,QaH h2,QaH h3]
 | .nilm,b,h=>by cases b<;>simp only [SV.beq,reduceCtorEq] at h; rfl
 | .map x,b,h=>by cases b<;>simp only [SV.beq,reduceCtorEq] at h; rw [Nat.eq_of_beq_eq_true h]
 | .nilf,b,h=>by cases b<;>simp only [SV.beq,reduceCtorEq] at h; rfl
 | .fn f cs,b,h=>by cases b<;>simp only [SV.beq,reduceCtorEq] at h; obtain ⟨h1,h2⟩:=Qan h; rw [Nat.eq_of_beq_eq_true h1,Qe0 h2]
 | .nili,b,h=>by cases b<;>simp only [SV.beq,reduceCtorEq] at h; rfl
 | .iface t v,b,h=>by cases b<;>simp only [SV.beq,reduceCtorEq] at h; obtain ⟨h1,h2⟩:=Qan h; rw [Nat.eq_of_beq_eq_true h1,Qtz h2]
 | .agg cs,b,h=>by cases b<;>simp only [SV.beq,reduceCtorEq] at h; rw [Qe0 h]
 | .tup cs,b,h=>by cases b<;>simp only [SV.beq,reduceCtorEq] at h; rw [Qe0 h]
theorem Qe0:∀ {a b:List SV},SV.beqL a b=true→a=b
 | [],[],_=>rfl
 | a::l,b::m,h=>by simp only [SV.beqL] at h; obtain ⟨h1,h2⟩:=Qan h; rw [Qtz h1,Qe0 h2]
 | [],_::_,h=>by simp [SV.beqL] at h
 | _::_,[],h=>by simp [SV.beqL] at h
end
theorem Qsu:∀ {a b:List (List SV)},Qqi a b=true→a=b
 | [],[],_=>rfl
 | a::l,b::m,h=>by obtain ⟨h1,h2⟩:=Qan h; rw [Qe0 h1,Qsu h2]
 | [],_::_,h=>by simp [Qqi] at h
 | _::_,[],h=>by simp [Qqi] at h
theorem QES {a b:Option Ty}(h:tgEq a b=true):a=b:=by
 cases a<;>cases b<;>simp only [tgEq,reduceCtorEq] at h<;>first |rfl |(rw [QaT h]; done)
theorem QDl {a b:SB}(h:SB.beq a b=true):a=b:=by
 cases a<;>cases b<;>simp only [SB.beq,reduceCtorEq] at h<;>first
  | rfl
  | (obtain ⟨h1,h2⟩:=Qan h; obtain ⟨h2,h3⟩:=Qan h2; rw [Nat.eq_of_beq_eq_true h1,QaT h2,QaH h3]; done)
  | (obtain ⟨h1,h2⟩:=Qan h; obtain ⟨h2,h3⟩:=Qan h2; rw [Nat.eq_of_beq_eq_true h1,QES h2,Qsu h3]; done)
  | (obtain ⟨h1,h2⟩:=Qan h; obtain ⟨h2,h3⟩:=Qan h2; rw [QaT h1,QaT h2,QaH h3]; done)
theorem QnY:∀ {a b:SH},beqH a b=true→a=b
 | [],[],_=>rfl
 | a::l,b::m,h=>by obtain ⟨h1,h2⟩:=Qan h; rw [QDl h1,QnY h2]
 | [],_::_,h=>by simp [beqH] at h
 | _::_,[],h=>by simp [beqH] at h
theorem Qmf:∀ {a b:SF},beqF a b=true→a=b
 | [],[],_=>rfl
 | (n,a)::l,(m,b)::r,h=>by
  obtain ⟨h1,h2⟩:=Qan h
  obtain ⟨h2,h3⟩:=Qan h2
  have e1:=Nat.eq_of_beq_eq_true h1
  have e2:=Qtz h2
  simp only at e1 e2
  rw [e1,e2,Qmf h3]
 | [],_::_,h=>by simp [beqF] at h
 | _::_,[],h=>by simp [beqF] at h
def Agree (n:Nat)(e1 e2:Env):Prop:=∀ m,m<n→∀ t,e1 m t=e2 m t
theorem Agree.refl {n:Nat}{e:Env}:Agree n e e:=fun _ _ _=>rfl
theorem Agree.trans {n m:Nat}{e1 e2 e3:Env}(h:Agree n e1 e2)(k:Agree m e2 e3)(hn:n≤m):Agree n e1 e3:=fun i hi t=>(h i hi t).trans (k i (Nat.lt_of_lt_of_le hi hn) t)
theorem Agree.symm {n:Nat}{e1 e2:Env}(h:Agree n e1 e2):Agree n e2 e1:=fun i hi t=>(h i hi t).symm
theorem Agree.le {n m:Nat}{e1 e2:Env}(h:Agree m e1 e2)(hn:n≤m):Agree n e1 e2:=fun i hi t=>h i (Nat.lt_of_lt_of_le hi hn) t
theorem Qe1 (env:Env)(n:Nat)(t:Ty)(x:t.D):env.set n t x n t=x:=by
 simp only [Env.set,Nat.beq_refl,dite_true]
theorem QGd (env:Env)(n m:Nat)(t u:Ty)(x:t.D)(h:m≠n):env.set n t x m u=env m u:=by
 have:Nat.beq m n=false:=by
  cases hb:Nat.beq m n with
  | false=>rfl
  | true=>exact absurd (Nat.eq_of_beq_eq_true hb) h
 simp only [Env.set,this]
theorem Qqq (env:Env)(n:Nat)(t:Ty)(x:t.D):Agree n env (env.set n t x):=fun m hm u=>(QGd env n m t u x (Nat.ne_of_lt hm)).symm
theorem QdF:∀ (ts:List Ty) (env:Env) (n:Nat) (x:Pr ts),Agree n env (Env.setP ts env n x)
 | [],env,n,x=>Agree.refl
 | [a],env,n,x=>Qqq env n a x
 | a::b::l,env,n,x=>by
  show Agree n env (Env.setP (b::l) (env.set n a x.1) (n+1) x.2)
  exact (Qqq env n a x.1).trans (QdF (b::l) _ (n+1) x.2) (Nat.le_succ n)
theorem QaB {n:Nat}{e1 e2:Env}(h:Agree n e1 e2):∀ {e:Ex},e.bnd n=true→∀ t,e.den e1 t=e.den e2 t
 | .v m,hb,t=>h m (by
   simp only [Ex.bnd] at hb
   simpa [Nat.blt_eq] using hb) t
 | .il _,_,_=>rfl
 | .nn _,_,_=>rfl
 | .bl _,_,_=>rfl
 | .st _,_,_=>rfl
 | .nl,_,_=>rfl
 | .un,_,_=>rfl
 | .o1 o a,hb,t=>by
  simp only [Ex.bnd] at hb
  have:=funext (QaB h hb)
  simp only [Ex.den,this]
 | .o2 o a b,hb,t=>by
  simp only [Ex.bnd] at hb
  obtain ⟨h1,h2⟩:=Qan hb
  have e1:=funext (QaB h h1)
  have e2:=funext (QaB h h2)
  simp only [Ex.den,e1,e2]
 | .o3 o a b c,hb,t=>by
  simp only [Ex.bnd] at hb
  obtain ⟨h1,h2⟩:=Qan hb
  obtain ⟨h2,h3⟩:=Qan h2
  have e1:=funext (QaB h h1)
  have e2:=funext (QaB h h2)
  have e3:=funext (QaB h h3)
  simp only [Ex.den,e1,e2,e3]
theorem QoP (env:Env):∀ (e:Ex) (u:Ty),((QmN e).den env (.lst u)).length=(e.den env (.lst u)).length
 | .v _,_=>rfl
 | .il _,_=>rfl
 | .nn _,_=>rfl
 | .bl _,_=>rfl
 | .st _,_=>rfl
 | .nl,_=>rfl
 | .un,_=>rfl
 | .o1 ..,_=>rfl
 | .o2 ..,_=>rfl
 | .o3 o x y z,u=>by
  cases o with
  | set=>
   show ((QmN x).den env (.lst u)).length=((x.den env (.lst u)).set (y.den env .nat) (z.den env u)).length
   rw [List.length_set]
   exact QoP env x u
  | ssub=>rfl
  | mget k=>rfl
  | mput=>rfl
theorem Qsv (env:Env):∀ {e:Ex} {n:Nat},QgZ e=some n→∀ u,(e.den env (.lst u)).length=n
 | .v _,_,h,_=>by simp [QgZ] at h
 | .il _,_,h,_=>by simp [QgZ] at h
 | .nn _,_,h,_=>by simp [QgZ] at h
 | .bl _,_,h,_=>by simp [QgZ] at h
 | .st _,_,h,_=>by simp [QgZ] at h
 | .nl,_,h,u=>by simp only [QgZ,osi] at h; subst h; rfl
 | .un,_,h,_=>by simp [QgZ] at h
 | .o1 ..,_,h,_=>by simp [QgZ] at h
 | .o2 o a b,n,h,u=>by
  cases o<;>simp only [QgZ,reduceCtorEq] at h
  cases hb:QgZ b with
  | none=>simp [hb] at h
  | some k=>
   simp only [hb,osi] at h
   subst h
   show (a.den env u::b.den env (.lst u)).length=k+1
   rw [List.length_cons,Qsv env hb u]
 | .o3 ..,_,h,_=>by simp [QgZ] at h
theorem QA9 (env:Env)(u:Ty)(a:Ex)(t:Ty):(QCY u a).den env t=(Ex.o1 (.len u) a).den env t:=by
 unfold QCY
 cases h:QgZ a with
 | none=>rfl
 | some n=>
  simp only
  cases t<;>first |rfl |(show n=(a.den env (.lst u)).length; rw [Qsv env h u])
theorem QBa (env:Env)(u:Ty)(a:Ex)(t:Ty):(mk1 (.len u) a).den env t=(Ex.o1 (.len u) a).den env t:=by
 show (QCY u (QmN a)).den env t=_
 rw [QA9]
 cases t<;>first |rfl |exact QoP env a u
theorem QBb (env:Env)(u:Ty)(a:Ex)(t:Ty):(mk1 (.fst u) a).den env t=(a.den env (.pair t u)).1:=by
 cases a<;>try rfl
 rename_i o x y
 cases o<;>rfl
theorem QBc (env:Env)(u:Ty)(a:Ex)(t:Ty):(mk1 (.snd u) a).den env t=(a.den env (.pair u t)).2:=by
 cases a<;>try rfl
 rename_i o x y
 cases o<;>rfl
theorem QET (env:Env)(o:O1)(a:Ex)(t:Ty):(mkS o a).den env t=o.den (a.den env) t:=by
 cases o<;>first |rfl |exact QBb env _ a t |exact QBc env _ a t |exact QBa env _ a t
theorem Qb6 (env:Env)(u:Ty)(a:Ex):(mk1 (.len u) a).den env .nat=(a.den env (.lst u)).length:=QBa env u a .nat
theorem Qzb (env:Env){x:Ex}(h:Qqh x=true)(t:Ty)(ht:t≠.bool):x.den env t=dflt t:=by
 cases x<;>simp only [Qqh,reduceCtorEq] at h
 ·rename_i o a
  cases o<;>simp only [reduceCtorEq] at h
  cases t<;>first |rfl |(exact absurd rfl ht)
 ·rename_i o a b
  cases o<;>simp only [reduceCtorEq] at h<;>(cases t<;>first |rfl |(exact absurd rfl ht))
theorem QwH (env:Env)(a:Ex)(t:Ty):(mk1 .not a).den env t=(Ex.o1 .not a).den env t:=by
 cases a with
 | bl b=>cases t<;>rfl
 | o1 o x=>
  cases o with
  | not=>
   show (match Qqh x with |true=>x |false=>Ex.o1 .not (.o1 .not x)).den env t=_
   cases hb:Qqh x with
   | false=>rfl
   | true=>
    by_cases ht:t=.bool
    ·subst ht
     show x.den env .bool=!(!(x.den env .bool))
     rw [Bool.not_not]
    ·rw [Qzb env hb t ht]
     cases t<;>first |rfl |(exact absurd rfl ht)
  | _=>rfl
 | _=>rfl
theorem Qgv (env:Env)(a:Ex):(notE a).den env .bool=!(a.den env .bool):=QwH env a .bool
theorem Qik (env:Env)(a:Ex)(k:IntKind):(mk1 .ofN a).den env (.int k)=((a.den env .nat:Nat):Int):=by cases a<;>rfl
theorem Qmg (env:Env)(a:Ex)(k:IntKind):(mk1 (.toN k) a).den env .nat=Int.toNat (a.den env (.int k)):=by cases a<;>rfl
theorem Qpo (env:Env)(a:Ex):(mk1 .slen a).den env .nat=(a.den env .str).length:=by cases a<;>rfl
theorem Qzc {o:BinOp}{x y:Int}{b:Bool}(h:intCmp o x y=some b):b=cmI o x y:=by
 cases o<;>simp only [intCmp,osi,reduceCtorEq] at h<;>subst h<;>simp only [cmI,Ev.QgX,Ev.Qgi,Ev.Qfu]
theorem QwI (env:Env)(o:BinOp)(k:IntKind)(a b:Ex):(mk2 (.cmp o k) a b).den env .bool=cmI o (a.den env (.int k)) (b.den env (.int k)):=by
 unfold mk2
 simp only
 split
 ·rename_i x y
  unfold QFT
  cases h:intCmp o x y with
  | none=>rfl
  | some r=>exact Qzc h
 ·rfl
theorem QBd (env:Env)(o:BinOp)(k:IntKind)(a b:Ex):(mk2 (.arith o k) a b).den env (.int k)=arI o k (a.den env (.int k)) (b.den env (.int k)):=by
 unfold mk2
 simp only
 split
 ·cases o<;>rfl
 ·rfl
theorem QEU (env:Env)(a b:Ex):(mk2 .and a b).den env .bool=(a.den env .bool&&b.den env .bool):=by
 unfold mk2
 simp only
 split
 ·exact (Bool.true_and _).symm
 ·exact (Bool.false_and _).symm
 ·exact (Bool.and_true _).symm
 ·rfl
theorem Qjq (env:Env)(a b:Ex):(mk2 .nadd a b).den env .nat=(a.den env .nat:Nat)+(b.den env .nat:Nat):=by
 unfold mk2
 simp only
 split
 ·rfl
 ·exact (Nat.zero_add _).symm
 ·rfl
 ·rfl
theorem Qx2 (env:Env)(a b:Ex):(mk2 .nsub a b).den env .nat=(a.den env .nat:Nat) - (b.den env .nat:Nat):=by
 unfold mk2
 simp only
 split
 ·rfl
 ·rfl
 ·rfl
theorem Qpp (env:Env)(a b:Ex):(mk2 .nmul a b).den env .nat=(a.den env .nat:Nat) * (b.den env .nat:Nat):=by
 unfold mk2
 simp only
 split<;>rfl
theorem Qjr (env:Env)(a b:Ex):(nleE a b).den env .bool=decide ((a.den env .nat:Nat)≤(b.den env .nat:Nat)):=by
 unfold nleE mk2
 simp only
 split
 ·rename_i x y
  show Nat.ble x y=decide (x≤y)
  rw [Bool.eq_iff_iff,Nat.ble_eq,decide_eq_true_eq]
 ·rfl
theorem Qqr (env:Env)(a b:Ex)(u:Ty):(mk2 .app a b).den env (.lst u)=a.den env (.lst u)++b.den env (.lst u):=by
 unfold mk2
 simp only
 split
 ·rfl
 ·exact (List.append_nil _).symm
 ·rfl
theorem QBe (env:Env)(a b:Ex)(u:Ty):(mk2 .dr a b).den env (.lst u)=(b.den env (.lst u)).drop (a.den env .nat):=by
 unfold mk2
 simp only
 split
 ·rfl
 ·rfl
theorem QBf (env:Env)(a b:Ex)(u:Ty):(mk2 .tk a b).den env (.lst u)=(b.den env (.lst u)).take (a.den env .nat):=rfl
theorem QEV (env:Env)(a b:Ex):(mk2 .cat a b).den env .str=a.den env .str++b.den env .str:=by
 unfold mk2
 simp only
 split
 ·rfl
 ·rfl
 ·exact (List.append_nil _).symm
 ·rfl
theorem QBg (env:Env)(a b:Ex):(mk2 .beq a b).den env .bool=((a.den env .bool:Bool)==(b.den env .bool:Bool)):=by
 unfold mk2
 simp only
 split
 ·show b.den env .bool=(true==(b.den env .bool:Bool))
  cases (b.den env .bool:Bool)<;>rfl
 ·rw [QwH]
  show (!(b.den env .bool))=(false==(b.den env .bool:Bool))
  cases (b.den env .bool:Bool)<;>rfl
 ·show a.den env .bool=((a.den env .bool:Bool)==true)
  cases (a.den env .bool:Bool)<;>rfl
 ·rw [QwH]
  show (!(a.den env .bool))=((a.den env .bool:Bool)==false)
  cases (a.den env .bool:Bool)<;>rfl
 ·rfl
theorem Qjs (env:Env)(o:BinOp)(a b:Ex):(mk2 (.scmp o) a b).den env .bool=cmS o (a.den env .str) (b.den env .str):=by
 unfold mk2
 simp only
 split<;>rfl
theorem Qzd (env:Env)(a b:Ty)(x y:Ex):(QAv a b x y).den env (.pair a b)=(x.den env a,y.den env b):=by
 unfold QAv
 split
 ·rename_i u p w q
  split
  ·rename_i h
   obtain ⟨h1,h2⟩:=Qan h
   obtain ⟨h2,h3⟩:=Qan h2
   have e1:=QaT h1
   have e2:=QaT h2
   have e3:=QaH h3
   subst e1 e2 e3
   rfl
  ·rfl
 ·rfl
theorem QbV (env:Env)(σ:Nat→Ex):∀ (e:Ex) (t:Ty),(e.subst σ).den env t=e.den (fun i u=>(σ i).den env u) t
 | .v n,t=>rfl
 | .il _,_=>rfl
 | .nn _,_=>rfl
 | .bl _,_=>rfl
 | .st _,_=>rfl
 | .nl,_=>rfl
 | .un,_=>rfl
 | .o1 o a,t=>by
  have e1:=funext (QbV env σ a)
  show (mkS o (a.subst σ)).den env t=_
  rw [QET,e1]
  rfl
 | .o2 o a b,t=>by
  have e1:=funext (QbV env σ a)
  have e2:=funext (QbV env σ b)
  show o.den ((a.subst σ).den env) ((b.subst σ).den env) t=_
  rw [e1,e2]
  rfl
 | .o3 o a b c,t=>by
  have e1:=funext (QbV env σ a)
  have e2:=funext (QbV env σ b)
  have e3:=funext (QbV env σ c)
  show o.den ((a.subst σ).den env) ((b.subst σ).den env) ((c.subst σ).den env) t=_
  rw [e1,e2,e3]
  rfl
end Go.Sy
noncomputable section
namespace Go.Sy
open Go Go.Ev
def row:(t:Ty)→t.D→List AV
 | .int k,x=>[.int k x]
 | .bool,x=>[.bool x]
 | .str,x=>[.str x]
 | .lst u,x=>[.lst (List.map (row u) x)]
 | .pair a b,x=>row a x.1++row b x.2
 | .unit,_=>[]
 | .nat,_=>[.undef]
def valT:(t:Ty)→t.D→AV
 | .pair a b,x=>.agg (row (.pair a b) x)
 | .unit,_=>.agg []
 | .int k,x=>.int k x
 | .bool,x=>.bool x
 | .str,x=>.str x
 | .lst u,x=>.lst (List.map (row u) x)
 | .nat,_=>.undef
mutual
def SV.emb (env:Env):SV→AV
 | .undef=>.undef
 | .ii k e=>.int k (e.den env (.int k))
 | .bb e=>.bool (e.den env .bool)
 | .ss e=>.str (e.den env .str)
 | .tl t e=>.lst (List.map (row t) (e.den env (.lst t)))
 | .nilp=>.nilp
 | .ptr b i o=>.ptr b (i.den env .nat) o
 | .iptr cs=>.iptr (SV.embL env cs)
 | .nils=>.nils
 | .emp=>.emp
 | .sl b o l=>.sl b (o.den env .nat) (l.den env .nat)
 | .nilm=>.nilm
 | .map b=>.map b
 | .nilf=>.nilf
 | .fn f cs=>.fn f (SV.embL env cs)
 | .nili=>.nili
 | .iface t v=>.iface t (v.emb env)
 | .agg cs=>.agg (SV.embL env cs)
 | .tup cs=>.tup (SV.embL env cs)
def SV.embL (env:Env):List SV→List AV
 | []=>[]
 | v::l=>v.emb env::SV.embL env l
end
def SB.emb (env:Env):SB→Blk
 | .rows z t e=>.rows z true (List.map (row t) (e.den env (.lst t)))
 | .box z _ es=>.rows z false (es.map (SV.embL env))
 | .ro z t e=>.ro z (List.map (row t) (e.den env (.lst t)))
 | .map tk tv e=>.map (List.map (fun p=>(valT tk p.1,valT tv p.2)) (e.den env (.lst (.pair tk tv))))
 | .dead=>.dead
def embF (env:Env)(fr:SF):Fr:=fr.map fun p=>(p.1,p.2.emb env)
def embH (env:Env)(H:SH):Heap:=H.map (SB.emb env)
def SS.emb (env:Env)(s:SS):St:=⟨embF env s.fr,embH env s.H⟩
theorem Qa9 (env:Env):∀ l:List SV,SV.embL env l=l.map (SV.emb env)
 | []=>rfl
 | v::l=>by simp only [SV.embL,List.map_cons,Qa9 env l]
theorem QmX (env:Env)(a b:List SV):SV.embL env (a++b)=SV.embL env a++SV.embL env b:=by simp [Qa9]
theorem QfK (env:Env)(l:List SV):(SV.embL env l).length=l.length:=by simp [Qa9]
theorem Qg1 (env:Env)(l:List SV)(n:Nat):(SV.embL env l).drop n=SV.embL env (l.drop n):=by simp [Qa9,List.map_drop]
theorem QBh (env:Env)(l:List SV)(n:Nat):(SV.embL env l).take n=SV.embL env (l.take n):=by simp [Qa9,List.map_take]
theorem QdG:∀ (t:Ty) (x:t.D),(row t x).length=t.size
 | .int _,_=>rfl
 | .bool,_=>rfl
 | .str,_=>rfl
 | .lst _,_=>rfl
 | .unit,_=>rfl
 | .nat,_=>rfl
 | .pair a b,x=>by simp only [row,Ty.size,List.length_append,QdG a,QdG b]
theorem Qe2 (env:Env):∀ (t:Ty) (e:Ex),SV.embL env (cellsOf t e)=row t (e.den env t)
 | .int _,_=>rfl
 | .bool,_=>rfl
 | .str,_=>rfl
 | .lst _,_=>rfl
 | .unit,_=>rfl
 | .nat,_=>rfl
 | .pair a b,e=>by
  show SV.embL env (cellsOf a (mk1 (.fst b) e)++cellsOf b (mk1 (.snd a) e))=row a (e.den env (.pair a b)).1++row b (e.den env (.pair a b)).2
  rw [QmX,Qe2 env a,Qe2 env b,QBb,QBc]
theorem QtA (env:Env)(t:Ty)(e:Ex):(sval t e).emb env=valT t (e.den env t):=by
 cases t<;>first |rfl |(show AV.agg (SV.embL env (cellsOf _ e))=AV.agg _; rw [Qe2])
theorem Qg2 (env:Env)(v:SV):(v.emb env).cells=SV.embL env v.cells:=by cases v<;>rfl
theorem Qze (env:Env)(v:SV):(v.emb env).Qax=v.Qax:=by cases v<;>rfl
theorem Qg3 (env:Env)(l:List SV):(SV.embL env l).all AV.Qax=l.all SV.Qax:=by
 rw [Qa9,List.all_map]; congr 1; funext v; exact Qze env v
theorem Qpq (env:Env):∀ {t:Ty} {cs:List SV} {e:Ex} {r:List SV},reify t cs=some (e,r)→SV.embL env cs=row t (e.den env t)++SV.embL env r
 | .int k,cs,e,r,h=>by
  unfold reify at h
  split at h
  ·split at h
   ·rename_i hk
    simp only [osi,Prod.mk.injEq] at h
    obtain ⟨rfl,rfl⟩:=h
    rw [QjV hk]
    rfl
   ·cases h
  ·cases h
 | .bool,cs,e,r,h=>by
  unfold reify at h
  split at h
  ·simp only [osi,Prod.mk.injEq] at h
   obtain ⟨rfl,rfl⟩:=h
   rfl
  ·cases h
 | .str,cs,e,r,h=>by
  unfold reify at h
  split at h
  ·simp only [osi,Prod.mk.injEq] at h
   obtain ⟨rfl,rfl⟩:=h
   rfl
  ·cases h
 | .lst u,cs,e,r,h=>by
  unfold reify at h
  split at h
  ·split at h
   ·rename_i hk
    simp only [osi,Prod.mk.injEq] at h
    obtain ⟨rfl,rfl⟩:=h
    rw [QaT hk]
    rfl
   ·split at h
    ·simp only [osi,Prod.mk.injEq] at h
     obtain ⟨rfl,rfl⟩:=h
     rfl
    ·cases h
  ·cases h
 | .pair a b,cs,e,r,h=>by
  unfold reify at h
  split at h
  ·cases h
  ·rename_i x r1 h1
   split at h
   ·cases h
   ·rename_i y r2 h2
    simp only [osi,Prod.mk.injEq] at h
    obtain ⟨rfl,rfl⟩:=h
    rw [Qpq env h1,Qpq env h2,Qzd]
    simp only [row,List.append_assoc]
 | .unit,cs,e,r,h=>by
  unfold reify at h
  simp only [osi,Prod.mk.injEq] at h
  obtain ⟨rfl,rfl⟩:=h
  rfl
 | .nat,cs,e,r,h=>by simp [reify] at h
theorem QfL (env:Env){t:Ty}{cs:List SV}{e:Ex}(h:QhA t cs=some e):SV.embL env cs=row t (e.den env t):=by
 unfold QhA at h
 split at h
 ·rename_i e' h'
  simp only [osi] at h
  subst h
  rw [Qpq env h']
  simp [SV.embL]
 ·cases h
theorem Qx3 {t:Ty}(h:QmO t=true)(x:t.D):valT t x=.agg (row t x):=by cases t<;>first |rfl |(cases h)
theorem Qu7 {t:Ty}(h:QmO t=false)(x:t.D):[valT t x]=row t x:=by cases t<;>first |rfl |(cases h)
theorem QmY (env:Env){t:Ty}{v:SV}{e:Ex}(h:Qsl t v=some e):v.emb env=valT t (e.den env t):=by
 unfold Qsl at h
 split at h
 ·rename_i ht
  split at h
  ·rw [Qx3 ht,← QfL env h]
   rfl
  ·cases h
 ·rename_i ht
  split at h
  ·cases h
  ·have:=QfL env h
   rw [← Qu7 ht] at this
   simp only [SV.embL,List.cons.injEq,and_true] at this
   exact this
mutual
theorem Qqs {n:Nat}{e1 e2:Env}(h:Agree n e1 e2):∀ {v:SV},v.bnd n=true→v.emb e1=v.emb e2
 | .undef,_=>rfl
 | .ii k e,hb=>by simp only [SV.bnd] at hb; simp only [SV.emb,QaB h hb]
 | .bb e,hb=>by simp only [SV.bnd] at hb; simp only [SV.emb,QaB h hb]
 | .ss e,hb=>by simp only [SV.bnd] at hb; simp only [SV.emb,QaB h hb]
 | .tl t e,hb=>by simp only [SV.bnd] at hb; simp only [SV.emb,QaB h hb]
 | .nilp,_=>rfl
 | .ptr b i o,hb=>by simp only [SV.bnd] at hb; simp only [SV.emb,QaB h hb]
 | .iptr cs,hb=>by simp only [SV.bnd] at hb; simp only [SV.emb,QdH h hb]
 | .nils,_=>rfl
 | .emp,_=>rfl
 | .sl b o l,hb=>by
  simp only [SV.bnd] at hb
  obtain ⟨h1,h2⟩:=Qan hb
  simp only [SV.emb,QaB h h1,QaB h h2]
 | .nilm,_=>rfl
 | .map b,_=>rfl
 | .nilf,_=>rfl
 | .fn f cs,hb=>by simp only [SV.bnd] at hb; simp only [SV.emb,QdH h hb]
 | .nili,_=>rfl
 | .iface t v,hb=>by simp only [SV.bnd] at hb; simp only [SV.emb,Qqs h hb]
 | .agg cs,hb=>by simp only [SV.bnd] at hb; simp only [SV.emb,QdH h hb]
 | .tup cs,hb=>by simp only [SV.bnd] at hb; simp only [SV.emb,QdH h hb]
theorem QdH {n:Nat}{e1 e2:Env}(h:Agree n e1 e2):∀ {l:List SV},SV.bndL n l=true→SV.embL e1 l=SV.embL e2 l
 | [],_=>rfl
 | v::l,hb=>by
  simp only [SV.bndL] at hb
  obtain ⟨h1,h2⟩:=Qan hb
  simp only [SV.embL,Qqs h h1,QdH h h2]
end
theorem QDm {n:Nat}{e1 e2:Env}(h:Agree n e1 e2){b:SB}(hb:b.bnd n=true):b.emb e1=b.emb e2:=by
 cases b with
 | rows z t e=>simp only [SB.bnd] at hb; simp only [SB.emb,QaB h hb]
 | ro z t e=>simp only [SB.bnd] at hb; simp only [SB.emb,QaB h hb]
 | map tk tv e=>simp only [SB.bnd] at hb; simp only [SB.emb,QaB h hb]
 | dead=>rfl
 | box z tg es=>
  simp only [SB.bnd,List.all_eq_true] at hb
  simp only [SB.emb,Blk.rows.injEq,true_and]
  exact List.map_congr_left fun r hr=>QdH h (hb r hr)
theorem Qlw {n:Nat}{e1 e2:Env}(h:Agree n e1 e2){fr:SF}(hb:bndF n fr=true):embF e1 fr=embF e2 fr:=by
 simp only [bndF,List.all_eq_true] at hb
 exact List.map_congr_left fun p hp=>by rw [Qqs h (hb p hp)]
theorem QiD {n:Nat}{e1 e2:Env}(h:Agree n e1 e2){H:SH}(hb:bndH n H=true):embH e1 H=embH e2 H:=by
 simp only [bndH,List.all_eq_true] at hb
 exact List.map_congr_left fun b hp=>QDm h (hb b hp)
theorem QBi (env:Env){a:AV}{v:SV}(h:ofAV a=some v):v.emb env=a:=by
 unfold ofAV at h
 split at h<;>first
  | (simp only [osi] at h; subst h; rfl)
  | cases h
theorem Qpr (env:Env):∀ {l:List AV} {vs:List SV},Qwj l=some vs→SV.embL env vs=l
 | [],vs,h=>by simp only [Qwj,osi] at h; subst h; rfl
 | a::l,vs,h=>by
  unfold Qwj at h
  split at h
  ·rename_i v vs' h1 h2
   simp only [osi] at h
   subst h
   simp only [SV.embL,QBi env h1,Qpr env h2]
  ·cases h
theorem Qgw (env:Env):∀ (fr:SF) (t:Nat),(getF fr t).emb env=Fr.get (embF env fr) t
 | [],t=>rfl
 | p::r,t=>by
  show (match Nat.beq p.1 t with |true=>p.2 |false=>getF r t).emb env=Fr.get ((p.1,p.2.emb env)::embF env r) t
  rw [Fr.QbO]
  cases Nat.beq p.1 t with
  | true=>rfl
  | false=>exact Qgw env r t
theorem Qx4 (env:Env):∀ (fr:SF) (d:Nat) (v:SV),embF env (setF fr d v)=Fr.set (embF env fr) d (v.emb env)
 | [],d,v=>rfl
 | p::r,d,v=>by
  show embF env (match Nat.beq p.1 d with |true=>(d,v)::r |false=>match Nat.blt d p.1 with |true=>(d,v)::p::r |false=>p::setF r d v)=Fr.set ((p.1,p.2.emb env)::embF env r) d (v.emb env)
  rw [Fr.QeT]
  cases Nat.beq p.1 d with
  | true=>rfl
  | false=>
   cases Nat.blt d p.1 with
   | true=>rfl
   | false=>
    show (p.1,p.2.emb env)::embF env (setF r d v)=_
    rw [Qx4 env r d v]
theorem Qx5 (env:Env)(fr:SF)(d:Option Tmp)(v:SV):embF env (putF fr d v)=(embF env fr).put d (v.emb env):=by
 cases d with
 | none=>rfl
 | some d=>exact Qx4 env fr d v
theorem Qqt (env:Env)(mask:Nat):∀ fr:SF,embF env (Qwi mask fr)=Fr.sift mask (embF env fr)
 | []=>rfl
 | p::r=>by
  show embF env (match tb mask p.1 with |true=>p::Qwi mask r |false=>Qwi mask r)=Fr.sift mask ((p.1,p.2.emb env)::embF env r)
  rw [Fr.QbG]
  cases tb mask p.1 with
  | true=>show (p.1,p.2.emb env)::embF env (Qwi mask r)=_; rw [Qqt env mask r]
  | false=>exact Qqt env mask r
theorem QkP (env:Env)(mask:Nat)(fr:SF):embF env (Qth mask fr)=Fr.only mask (embF env fr):=by
 unfold Qth Fr.only
 cases Nat.beq mask 0 with
 | true=>rfl
 | false=>exact Qqt env mask fr
theorem Qu8 (v:Value):(ofAV (ofConst v)).isSome=true:=by
 unfold ofConst
 split<;>rfl
theorem QaC (env:Env)(fr:SF)(x:Operand):(opvS fr x).emb env=opv (embF env fr) x:=by
 cases x with
 | tmp t=>exact Qgw env fr t
 | const v=>
  show ((ofAV (ofConst v)).getD .undef).emb env=ofConst v
  cases h:ofAV (ofConst v) with
  | none=>have:=Qu8 v; rw [h] at this; cases this
  | some a=>exact QBi env h
 | global g=>rfl
 | func f=>rfl
theorem QiE (env:Env)(i:TI)(cs:List SV):pack i (SV.embL env cs)=(QuQ i cs).map (SV.emb env):=by
 unfold pack QuQ
 cases i.known with
 | false=>rfl
 | true=>
  cases i.isAgg with
  | true=>
   simp only [QfK]
   cases Nat.ble i.size cs.length with
   | true=>simp only [Option.map_some,SV.emb,QBh]
   | false=>rfl
  | false=>
   cases cs with
   | nil=>rfl
   | cons a l=>rfl
mutual
theorem QtB (env:Env)(σ:Nat→Ex):∀ v:SV,(v.fill σ).emb env=v.emb (fun i u=>(σ i).den env u)
 | .undef=>rfl
 | .ii k e=>by simp only [SV.fill,SV.emb,QbV]
 | .bb e=>by simp only [SV.fill,SV.emb,QbV]
 | .ss e=>by simp only [SV.fill,SV.emb,QbV]
 | .tl t e=>by simp only [SV.fill,SV.emb,QbV]
 | .nilp=>rfl
 | .ptr b i o=>by simp only [SV.fill,SV.emb,QbV]
 | .iptr cs=>by simp only [SV.fill,SV.emb,QiF env σ cs]
 | .nils=>rfl
 | .emp=>rfl
 | .sl b o l=>by simp only [SV.fill,SV.emb,QbV]
 | .nilm=>rfl
 | .map b=>rfl
 | .nilf=>rfl
 | .fn f cs=>by simp only [SV.fill,SV.emb,QiF env σ cs]
 | .nili=>rfl
 | .iface t v=>by simp only [SV.fill,SV.emb,QtB env σ v]
 | .agg cs=>by simp only [SV.fill,SV.emb,QiF env σ cs]
 | .tup cs=>by simp only [SV.fill,SV.emb,QiF env σ cs]
theorem QiF (env:Env)(σ:Nat→Ex):∀ l:List SV,SV.embL env (SV.QuU σ l)=SV.embL (fun i u=>(σ i).den env u) l
 | []=>rfl
 | v::l=>by simp only [SV.QuU,SV.embL,QtB env σ v,QiF env σ l]
end
theorem QBj (env:Env)(σ:Nat→Ex)(b:SB):(b.fill σ).emb env=b.emb (fun i u=>(σ i).den env u):=by
 cases b with
 | rows z t e=>simp only [SB.fill,SB.emb,QbV]
 | ro z t e=>simp only [SB.fill,SB.emb,QbV]
 | map a b e=>simp only [SB.fill,SB.emb,QbV]
 | dead=>rfl
 | box z tg es=>simp only [SB.fill,SB.emb,List.map_map,Function.comp_def,QiF]
theorem QkQ (env:Env)(σ:Nat→Ex)(fr:SF):embF env (QrJ σ fr)=embF (fun i u=>(σ i).den env u) fr:=by
 simp only [embF,QrJ,List.map_map,Function.comp_def,QtB]
theorem QmZ (env:Env)(σ:Nat→Ex)(H:SH):embH env (Qtk σ H)=embH (fun i u=>(σ i).den env u) H:=by
 simp only [embH,Qtk,List.map_map,Function.comp_def,QBj]
theorem Qck (env:Env)(H:SH)(b:Nat):(embH env H)[b]?=(H[b]?).map (SB.emb env):=by simp [embH]
theorem Qba (env:Env)(H:SH):(embH env H).length=H.length:=by simp [embH]
theorem QhC (env:Env)(H:SH)(b:Nat)(k:SB):embH env (H.set b k)=(embH env H).set b (k.emb env):=by simp [embH,List.map_set]
theorem QdI (env:Env)(H G:SH):embH env (H++G)=embH env H++embH env G:=by simp [embH]
theorem Qqu (env:Env)(fr:SF):(embF env fr).map (·.2)=SV.embL env (fr.map (·.2)):=by
 rw [Qa9]; simp only [embF,List.map_map,Function.comp_def]
end Go.Sy
end
