/- Symbolic runs: what symbolic values and states stand for. -/
import Derived.Test.YtkecfadnfnnfaaaGreatDoorSyC
import Derived.Test.YtkecfadnfnnfaaaGreatDoorEvSet
set_option linter.unusedVariables false
set_option linter.unusedSimpArgs false
namespace Go.Sy
open Go Go.Ev
theorem Qju {a b:IntKind}(h:kEq a b=true):a=b:=by cases a<;>cases b<;>first |rfl |(simp [kEq] at h)
theorem QBF (a:IntKind):kEq a a=true:=by cases a<;>rfl
theorem Qam {a b:Bool}(h:(a&&b)=true):a=true∧b=true:=by simpa using h
theorem QaP:∀ {a b:Ty},Ty.beq a b=true→a=b
 | .nat,b,h=>by cases b<;>first |rfl |(simp [Ty.beq] at h)
 | .int k,b,h=>by cases b<;>first |(simp [Ty.beq] at h; done) |(rw [Qju h])
 | .bool,b,h=>by cases b<;>first |rfl |(simp [Ty.beq] at h)
 | .str,b,h=>by cases b<;>first |rfl |(simp [Ty.beq] at h)
 | .unit,b,h=>by cases b<;>first |rfl |(simp [Ty.beq] at h)
 | .lst e,b,h=>by cases b<;>first |(simp [Ty.beq] at h; done) |(rw [QaP (a:=e) h])
 | .pair x y,b,h=>by
  cases b<;>first |(simp [Ty.beq] at h; done) |(obtain ⟨h1,h2⟩:=Qam h; rw [QaP h1,QaP h2])
theorem Qrf:∀ {a b:List UInt8},Qpg a b=true→a=b
 | [],[],_=>rfl
 | a::l,b::m,h=>by
  obtain ⟨h1,h2⟩:=Qam h
  have:=Nat.eq_of_beq_eq_true h1
  rw [Qrf h2,UInt8.toNat_inj.mp this]
 | [],_::_,h=>by simp [Qpg] at h
 | _::_,[],h=>by simp [Qpg] at h
theorem Qg3 {a b:Int}(h:eqI a b=true):a=b:=by
 cases a<;>cases b<;>simp only [eqI] at h<;>first |(rw [Nat.eq_of_beq_eq_true h]) |(cases h)
theorem Qwv {α:Type}[DecidableEq α]{a b:α}(h:decide (a=b)=true):a=b:=of_decide_eq_true h
theorem QDc {a b:O1}(h:o1Eq a b=true):a=b:=by
 cases a<;>cases b<;>simp only [o1Eq,reduceCtorEq] at h<;>first
  | rfl
  | (rw [QaP h]; done)
  | (rw [Qju h]; done)
  | (obtain ⟨h1,h2⟩:=Qam h; rw [Qwv h1,Qju h2]; done)
  | (cases h)
theorem QDd {a b:O2}(h:o2Eq a b=true):a=b:=by
 cases a<;>cases b<;>simp only [o2Eq,reduceCtorEq] at h<;>first
  | rfl
  | (obtain ⟨h1,h2⟩:=Qam h; rw [Qwv h1,Qju h2]; done)
  | (obtain ⟨h1,h2⟩:=Qam h; obtain ⟨h3,h4⟩:=Qam h2; rw [Qwv h1,Qju h3,Qju h4]; done)
  | (rw [Qwv h]; done)
  | (obtain ⟨h1,h2⟩:=Qam h; rw [QaP h1,QaP h2]; done)
  | (cases h)
theorem QDe {a b:O3}(h:o3Eq a b=true):a=b:=by cases a<;>cases b<;>first |rfl |(cases h; done) |(simp only [o3Eq] at h; rw [QaP h])
theorem QaG:∀ {a b:Ex},Ex.beq a b=true→a=b
 | .v n,b,h=>by cases b<;>simp only [Ex.beq,reduceCtorEq] at h; rw [Nat.eq_of_beq_eq_true h]
 | .il n,b,h=>by cases b<;>simp only [Ex.beq,reduceCtorEq] at h; rw [Qg3 h]
 | .nn n,b,h=>by cases b<;>simp only [Ex.beq,reduceCtorEq] at h; rw [Nat.eq_of_beq_eq_true h]
 | .bl n,b,h=>by cases b<;>simp only [Ex.beq,reduceCtorEq] at h; rw [eq_of_beq h]
 | .st n,b,h=>by cases b<;>simp only [Ex.beq,reduceCtorEq] at h; rw [Qrf h]
 | .nl,b,h=>by cases b<;>simp only [Ex.beq,reduceCtorEq] at h; rfl
 | .un,b,h=>by cases b<;>simp only [Ex.beq,reduceCtorEq] at h; rfl
 | .o1 o x,b,h=>by
  cases b<;>simp only [Ex.beq,reduceCtorEq] at h
  obtain ⟨h1,h2⟩:=Qam h
  rw [QDc h1,QaG h2]
 | .o2 o x y,b,h=>by
  cases b<;>simp only [Ex.beq,reduceCtorEq] at h
  obtain ⟨h1,h2⟩:=Qam h
  obtain ⟨h2,h3⟩:=Qam h2
  rw [QDd h1,QaG h2,QaG h3]
 | .o3 o x y z,b,h=>by
  cases b<;>simp only [Ex.beq,reduceCtorEq] at h
  obtain ⟨h1,h2⟩:=Qam h
  obtain ⟨h2,h3⟩:=Qam h2
  obtain ⟨h3,h4⟩:=Qam h3
  rw [QDe h1,QaG h2,QaG h3,QaG h4]
theorem Qww:∀ {a b:List Ex},QyT a b=true→a=b
 | [],[],_=>rfl
 | a::l,b::m,h=>by obtain ⟨h1,h2⟩:=Qam h; rw [QaG h1,Qww h2]
 | [],_::_,h=>by simp [QyT] at h
 | _::_,[],h=>by simp [QyT] at h
theorem Qwx:∀ {a b:List Ty},Qxm a b=true→a=b
 | [],[],_=>rfl
 | a::l,b::m,h=>by obtain ⟨h1,h2⟩:=Qam h; rw [QaP h1,Qwx h2]
 | [],_::_,h=>by simp [Qxm] at h
 | _::_,[],h=>by simp [Qxm] at h
mutual
theorem Qsj:∀ {a b:SV},SV.beq a b=true→a=b
 | .undef,b,h=>by cases b<;>simp only [SV.beq,reduceCtorEq] at h; rfl
 | .ii k e,b,h=>by cases b<;>simp only [SV.beq,reduceCtorEq] at h; obtain ⟨h1,h2⟩:=Qam h; rw [Qju h1,QaG h2]
 | .bb e,b,h=>by cases b<;>simp only [SV.beq,reduceCtorEq] at h; rw [QaG h]
 | .ss e,b,h=>by cases b<;>simp only [SV.beq,reduceCtorEq] at h; rw [QaG h]
 | .tl t e,b,h=>by cases b<;>simp only [SV.beq,reduceCtorEq] at h; obtain ⟨h1,h2⟩:=Qam h; rw [QaP h1,QaG h2]
 | .nilp,b,h=>by cases b<;>simp only [SV.beq,reduceCtorEq] at h; rfl
 | .ptr x i o,b,h=>by
  cases b<;>simp only [SV.beq,reduceCtorEq] at h
  obtain ⟨h1,h2⟩:=Qam h
  obtain ⟨h2,h3⟩:=Qam h2
  rw [Nat.eq_of_beq_eq_true h1,QaG h2,Nat.eq_of_beq_eq_true h3]
 | .iptr cs,b,h=>by cases b<;>simp only [SV.beq,reduceCtorEq] at h; rw [Qfr h]
 | .nils,b,h=>by cases b<;>simp only [SV.beq,reduceCtorEq] at h; rfl
 | .emp,b,h=>by cases b<;>simp only [SV.beq,reduceCtorEq] at h; rfl
 | .sl x i o,b,h=>by
  cases b<;>simp only [SV.beq,reduceCtorEq] at h
  obtain ⟨h1,h2⟩:=Qam h
  obtain ⟨h2,h3⟩:=Qam h2
  rw [Nat.eq_of_beq_eq_true h1,QaG h2,QaG h3]
 | .nilm,b,h=>by cases b<;>simp only [SV.beq,reduceCtorEq] at h; rfl
 | .map x,b,h=>by cases b<;>simp only [SV.beq,reduceCtorEq] at h; rw [Nat.eq_of_beq_eq_true h]
 | .nilf,b,h=>by cases b<;>simp only [SV.beq,reduceCtorEq] at h; rfl
 | .fn f cs,b,h=>by cases b<;>simp only [SV.beq,reduceCtorEq] at h; obtain ⟨h1,h2⟩:=Qam h; rw [Nat.eq_of_beq_eq_true h1,Qfr h2]
 | .nili,b,h=>by cases b<;>simp only [SV.beq,reduceCtorEq] at h; rfl
 | .iface t v,b,h=>by cases b<;>simp only [SV.beq,reduceCtorEq] at h; obtain ⟨h1,h2⟩:=Qam h; rw [Nat.eq_of_beq_eq_true h1,Qsj h2]
 | .agg cs,b,h=>by cases b<;>simp only [SV.beq,reduceCtorEq] at h; rw [Qfr h]
 | .tup cs,b,h=>by cases b<;>simp only [SV.beq,reduceCtorEq] at h; rw [Qfr h]
theorem Qfr:∀ {a b:List SV},SV.beqL a b=true→a=b
 | [],[],_=>rfl
 | a::l,b::m,h=>by simp only [SV.beqL] at h; obtain ⟨h1,h2⟩:=Qam h; rw [Qsj h1,Qfr h2]
 | [],_::_,h=>by simp [SV.beqL] at h
 | _::_,[],h=>by simp [SV.beqL] at h
end
theorem Qrg:∀ {a b:List (List SV)},Qpi a b=true→a=b
 | [],[],_=>rfl
 | a::l,b::m,h=>by obtain ⟨h1,h2⟩:=Qam h; rw [Qfr h1,Qrg h2]
 | [],_::_,h=>by simp [Qpi] at h
 | _::_,[],h=>by simp [Qpi] at h
theorem QDf {a b:Option Ty}(h:tgEq a b=true):a=b:=by
 cases a<;>cases b<;>simp only [tgEq,reduceCtorEq] at h<;>first |rfl |(rw [QaP h]; done)
theorem QBG {a b:SB}(h:SB.beq a b=true):a=b:=by
 cases a<;>cases b<;>simp only [SB.beq,reduceCtorEq] at h<;>first
  | rfl
  | (obtain ⟨h1,h2⟩:=Qam h; obtain ⟨h2,h3⟩:=Qam h2; rw [Nat.eq_of_beq_eq_true h1,QaP h2,QaG h3]; done)
  | (obtain ⟨h1,h2⟩:=Qam h; obtain ⟨h2,h3⟩:=Qam h2; rw [Nat.eq_of_beq_eq_true h1,QDf h2,Qrg h3]; done)
  | (obtain ⟨h1,h2⟩:=Qam h; obtain ⟨h2,h3⟩:=Qam h2; rw [QaP h1,QaP h2,QaG h3]; done)
theorem Qnb:∀ {a b:SH},beqH a b=true→a=b
 | [],[],_=>rfl
 | a::l,b::m,h=>by obtain ⟨h1,h2⟩:=Qam h; rw [QBG h1,Qnb h2]
 | [],_::_,h=>by simp [beqH] at h
 | _::_,[],h=>by simp [beqH] at h
theorem QlE:∀ {a b:SF},beqF a b=true→a=b
 | [],[],_=>rfl
 | (n,a)::l,(m,b)::r,h=>by
  obtain ⟨h1,h2⟩:=Qam h
  obtain ⟨h2,h3⟩:=Qam h2
  have e1:=Nat.eq_of_beq_eq_true h1
  have e2:=Qsj h2
  simp only at e1 e2
  rw [e1,e2,QlE h3]
 | [],_::_,h=>by simp [beqF] at h
 | _::_,[],h=>by simp [beqF] at h
def Agree (n:Nat)(e1 e2:Env):Prop:=∀ m,m<n→∀ t,e1 m t=e2 m t
theorem Agree.refl {n:Nat}{e:Env}:Agree n e e:=fun _ _ _=>rfl
theorem Agree.trans {n m:Nat}{e1 e2 e3:Env}(h:Agree n e1 e2)(k:Agree m e2 e3)(hn:n≤m):Agree n e1 e3:=fun i hi t=>(h i hi t).trans (k i (Nat.lt_of_lt_of_le hi hn) t)
theorem Agree.symm {n:Nat}{e1 e2:Env}(h:Agree n e1 e2):Agree n e2 e1:=fun i hi t=>(h i hi t).symm
theorem Agree.le {n m:Nat}{e1 e2:Env}(h:Agree m e1 e2)(hn:n≤m):Agree n e1 e2:=fun i hi t=>h i (Nat.lt_of_lt_of_le hi hn) t
theorem QgD (env:Env)(n:Nat)(t:Ty)(x:t.D):env.set n t x n t=x:=by
 simp only [Env.set,Nat.beq_refl,dite_true]
theorem QEp (env:Env)(n m:Nat)(t u:Ty)(x:t.D)(h:m≠n):env.set n t x m u=env m u:=by
 have:Nat.beq m n=false:=by
  cases hb:Nat.beq m n with
  | false=>rfl
  | true=>exact absurd (Nat.eq_of_beq_eq_true hb) h
 simp only [Env.set,this]
theorem Qpq (env:Env)(n:Nat)(t:Ty)(x:t.D):Agree n env (env.set n t x):=fun m hm u=>(QEp env n m t u x (Nat.ne_of_lt hm)).symm
theorem Qd0:∀ (ts:List Ty) (env:Env) (n:Nat) (x:Pr ts),Agree n env (Env.setP ts env n x)
 | [],env,n,x=>Agree.refl
 | [a],env,n,x=>Qpq env n a x
 | a::b::l,env,n,x=>by
  show Agree n env (Env.setP (b::l) (env.set n a x.1) (n+1) x.2)
  exact (Qpq env n a x.1).trans (Qd0 (b::l) _ (n+1) x.2) (Nat.le_succ n)
theorem QaB {n:Nat}{e1 e2:Env}(h:Agree n e1 e2):∀ {e:Ex},e.bnd n=true→∀ t,e.den e1 t=e.den e2 t
 | .v m,hb,t=>h m (by
   simp only [Ex.bnd] at hb
   simpa [Nat.blt_eq] using hb) t
 | .il _,_,_=>rfl
 | .nn _,_,_=>rfl
 | .bl _,_,_=>rfl
 | .st _,_,_=>rfl
 | .nl,_,_=>rfl
 | .un,_,_=>rfl
 | .o1 o a,hb,t=>by
  simp only [Ex.bnd] at hb
  have:=funext (QaB h hb)
  simp only [Ex.den,this]
 | .o2 o a b,hb,t=>by
  simp only [Ex.bnd] at hb
  obtain ⟨h1,h2⟩:=Qam hb
  have e1:=funext (QaB h h1)
  have e2:=funext (QaB h h2)
  simp only [Ex.den,e1,e2]
 | .o3 o a b c,hb,t=>by
  simp only [Ex.bnd] at hb
  obtain ⟨h1,h2⟩:=Qam hb
  obtain ⟨h2,h3⟩:=Qam h2
  have e1:=funext (QaB h h1)
  have e2:=funext (QaB h h2)
  have e3:=funext (QaB h h3)
  simp only [Ex.den,e1,e2,e3]
theorem QnR (env:Env):∀ (e:Ex) (u:Ty),((Ql6 e).den env (.lst u)).length=(e.den env (.lst u)).length
 | .v _,_=>rfl
 | .il _,_=>rfl
 | .nn _,_=>rfl
 | .bl _,_=>rfl
 | .st _,_=>rfl
 | .nl,_=>rfl
 | .un,_=>rfl
 | .o1 ..,_=>rfl
 | .o2 ..,_=>rfl
 | .o3 o x y z,u=>by
  cases o with
  | set=>
   show ((Ql6 x).den env (.lst u)).length=((x.den env (.lst u)).set (y.den env .nat) (z.den env u)).length
   rw [List.length_set]
   exact QnR env x u
  | ssub=>rfl
  | mget k=>rfl
  | mput=>rfl
theorem Qrh (env:Env):∀ {e:Ex} {n:Nat},Qg5 e=some n→∀ u,(e.den env (.lst u)).length=n
 | .v _,_,h,_=>by simp [Qg5] at h
 | .il _,_,h,_=>by simp [Qg5] at h
 | .nn _,_,h,_=>by simp [Qg5] at h
 | .bl _,_,h,_=>by simp [Qg5] at h
 | .st _,_,h,_=>by simp [Qg5] at h
 | .nl,_,h,u=>by simp only [Qg5,osi] at h; subst h; rfl
 | .un,_,h,_=>by simp [Qg5] at h
 | .o1 ..,_,h,_=>by simp [Qg5] at h
 | .o2 o a b,n,h,u=>by
  cases o<;>simp only [Qg5,reduceCtorEq] at h
  cases hb:Qg5 b with
  | none=>simp [hb] at h
  | some k=>
   simp only [hb,osi] at h
   subst h
   show (a.den env u::b.den env (.lst u)).length=k+1
   rw [List.length_cons,Qrh env hb u]
 | .o3 ..,_,h,_=>by simp [Qg5] at h
theorem Qzw (env:Env)(u:Ty)(a:Ex)(t:Ty):(QBj u a).den env t=(Ex.o1 (.len u) a).den env t:=by
 unfold QBj
 cases h:Qg5 a with
 | none=>rfl
 | some n=>
  simp only
  cases t<;>first |rfl |(show n=(a.den env (.lst u)).length; rw [Qrh env h u])
theorem Qzx (env:Env)(u:Ty)(a:Ex)(t:Ty):(mk1 (.len u) a).den env t=(Ex.o1 (.len u) a).den env t:=by
 show (QBj u (Ql6 a)).den env t=_
 rw [Qzw]
 cases t<;>first |rfl |exact QnR env a u
theorem Qzy (env:Env)(u:Ty)(a:Ex)(t:Ty):(mk1 (.fst u) a).den env t=(a.den env (.pair t u)).1:=by
 cases a<;>try rfl
 rename_i o x y
 cases o<;>rfl
theorem Qzz (env:Env)(u:Ty)(a:Ex)(t:Ty):(mk1 (.snd u) a).den env t=(a.den env (.pair u t)).2:=by
 cases a<;>try rfl
 rename_i o x y
 cases o<;>rfl
theorem QDg (env:Env)(o:O1)(a:Ex)(t:Ty):(mkS o a).den env t=o.den (a.den env) t:=by
 cases o<;>first |rfl |exact Qzy env _ a t |exact Qzz env _ a t |exact Qzx env _ a t
theorem Qcs (env:Env)(u:Ty)(a:Ex):(mk1 (.len u) a).den env .nat=(a.den env (.lst u)).length:=Qzx env u a .nat
theorem QxC (env:Env){x:Ex}(h:Qph x=true)(t:Ty)(ht:t≠.bool):x.den env t=dflt t:=by
 cases x<;>simp only [Qph,reduceCtorEq] at h
 ·rename_i o a
  cases o<;>simp only [reduceCtorEq] at h
  cases t<;>first |rfl |(exact absurd rfl ht)
 ·rename_i o a b
  cases o<;>simp only [reduceCtorEq] at h<;>(cases t<;>first |rfl |(exact absurd rfl ht))
theorem Qvh (env:Env)(a:Ex)(t:Ty):(mk1 .not a).den env t=(Ex.o1 .not a).den env t:=by
 cases a with
 | bl b=>cases t<;>rfl
 | o1 o x=>
  cases o with
  | not=>
   show (match Qph x with |true=>x |false=>Ex.o1 .not (.o1 .not x)).den env t=_
   cases hb:Qph x with
   | false=>rfl
   | true=>
    by_cases ht:t=.bool
    ·subst ht
     show x.den env .bool=!(!(x.den env .bool))
     rw [Bool.not_not]
    ·rw [QxC env hb t ht]
     cases t<;>first |rfl |(exact absurd rfl ht)
  | _=>rfl
 | _=>rfl
theorem QgE (env:Env)(a:Ex):(notE a).den env .bool=!(a.den env .bool):=Qvh env a .bool
theorem Qh8 (env:Env)(a:Ex)(k:IntKind):(mk1 .ofN a).den env (.int k)=((a.den env .nat:Nat):Int):=by cases a<;>rfl
theorem QlF (env:Env)(a:Ex)(k:IntKind):(mk1 (.toN k) a).den env .nat=Int.toNat (a.den env (.int k)):=by cases a<;>rfl
theorem Qol (env:Env)(a:Ex):(mk1 .slen a).den env .nat=(a.den env .str).length:=by cases a<;>rfl
theorem QxD {o:BinOp}{x y:Int}{b:Bool}(h:intCmp o x y=some b):b=cmI o x y:=by
 cases o<;>simp only [intCmp,osi,reduceCtorEq] at h<;>subst h<;>simp only [cmI,Ev.Qg3,Ev.Qgu,Ev.QfM]
theorem Qvi (env:Env)(o:BinOp)(k:IntKind)(a b:Ex):(mk2 (.cmp o k) a b).den env .bool=cmI o (a.den env (.int k)) (b.den env (.int k)):=by
 unfold mk2
 simp only
 split
 ·rename_i x y
  unfold QD4
  cases h:intCmp o x y with
  | none=>rfl
  | some r=>exact QxD h
 ·rfl
theorem QzA (env:Env)(o:BinOp)(k:IntKind)(a b:Ex):(mk2 (.arith o k) a b).den env (.int k)=arI o k (a.den env (.int k)) (b.den env (.int k)):=by
 unfold mk2
 simp only
 split
 ·cases o<;>rfl
 ·rfl
theorem QDh (env:Env)(a b:Ex):(mk2 .and a b).den env .bool=(a.den env .bool&&b.den env .bool):=by
 unfold mk2
 simp only
 split
 ·exact (Bool.true_and _).symm
 ·exact (Bool.false_and _).symm
 ·exact (Bool.and_true _).symm
 ·rfl
theorem Qi6 (env:Env)(a b:Ex):(mk2 .nadd a b).den env .nat=(a.den env .nat:Nat)+(b.den env .nat:Nat):=by
 unfold mk2
 simp only
 split
 ·rfl
 ·exact (Nat.zero_add _).symm
 ·rfl
 ·rfl
theorem Qwy (env:Env)(a b:Ex):(mk2 .nsub a b).den env .nat=(a.den env .nat:Nat) - (b.den env .nat:Nat):=by
 unfold mk2
 simp only
 split
 ·rfl
 ·rfl
 ·rfl
theorem Qom (env:Env)(a b:Ex):(mk2 .nmul a b).den env .nat=(a.den env .nat:Nat) * (b.den env .nat:Nat):=by
 unfold mk2
 simp only
 split<;>rfl
theorem Qi7 (env:Env)(a b:Ex):(nleE a b).den env .bool=decide ((a.den env .nat:Nat)≤(b.den env .nat:Nat)):=by
 unfold nleE mk2
 simp only
 split
 ·rename_i x y
  show Nat.ble x y=decide (x≤y)
  rw [Bool.eq_iff_iff,Nat.ble_eq,decide_eq_true_eq]
 ·rfl
theorem Qpr (env:Env)(a b:Ex)(u:Ty):(mk2 .app a b).den env (.lst u)=a.den env (.lst u)++b.den env (.lst u):=by
 unfold mk2
 simp only
 split
 ·rfl
 ·exact (List.append_nil _).symm
 ·rfl
theorem QzB (env:Env)(a b:Ex)(u:Ty):(mk2 .dr a b).den env (.lst u)=(b.den env (.lst u)).drop (a.den env .nat):=by
 unfold mk2
 simp only
 split
 ·rfl
 ·rfl
theorem QzC (env:Env)(a b:Ex)(u:Ty):(mk2 .tk a b).den env (.lst u)=(b.den env (.lst u)).take (a.den env .nat):=rfl
theorem QDi (env:Env)(a b:Ex):(mk2 .cat a b).den env .str=a.den env .str++b.den env .str:=by
 unfold mk2
 simp only
 split
 ·rfl
 ·rfl
 ·exact (List.append_nil _).symm
 ·rfl
theorem QzD (env:Env)(a b:Ex):(mk2 .beq a b).den env .bool=((a.den env .bool:Bool)==(b.den env .bool:Bool)):=by
 unfold mk2
 simp only
 split
 ·show b.den env .bool=(true==(b.den env .bool:Bool))
  cases (b.den env .bool:Bool)<;>rfl
 ·rw [Qvh]
  show (!(b.den env .bool))=(false==(b.den env .bool:Bool))
  cases (b.den env .bool:Bool)<;>rfl
 ·show a.den env .bool=((a.den env .bool:Bool)==true)
  cases (a.den env .bool:Bool)<;>rfl
 ·rw [Qvh]
  show (!(a.den env .bool))=((a.den env .bool:Bool)==false)
  cases (a.den env .bool:Bool)<;>rfl
 ·rfl
theorem Qi8 (env:Env)(o:BinOp)(a b:Ex):(mk2 (.scmp o) a b).den env .bool=cmS o (a.den env .str) (b.den env .str):=by
 unfold mk2
 simp only
 split<;>rfl
theorem QxE (env:Env)(a b:Ty)(x y:Ex):(QyS a b x y).den env (.pair a b)=(x.den env a,y.den env b):=by
 unfold QyS
 split
 ·rename_i u p w q
  split
  ·rename_i h
   obtain ⟨h1,h2⟩:=Qam h
   obtain ⟨h2,h3⟩:=Qam h2
   have e1:=QaP h1
   have e2:=QaP h2
   have e3:=QaG h3
   subst e1 e2 e3
   rfl
  ·rfl
 ·rfl
theorem Qcg (env:Env)(σ:Nat→Ex):∀ (e:Ex) (t:Ty),(e.subst σ).den env t=e.den (fun i u=>(σ i).den env u) t
 | .v n,t=>rfl
 | .il _,_=>rfl
 | .nn _,_=>rfl
 | .bl _,_=>rfl
 | .st _,_=>rfl
 | .nl,_=>rfl
 | .un,_=>rfl
 | .o1 o a,t=>by
  have e1:=funext (Qcg env σ a)
  show (mkS o (a.subst σ)).den env t=_
  rw [QDg,e1]
  rfl
 | .o2 o a b,t=>by
  have e1:=funext (Qcg env σ a)
  have e2:=funext (Qcg env σ b)
  show o.den ((a.subst σ).den env) ((b.subst σ).den env) t=_
  rw [e1,e2]
  rfl
 | .o3 o a b c,t=>by
  have e1:=funext (Qcg env σ a)
  have e2:=funext (Qcg env σ b)
  have e3:=funext (Qcg env σ c)
  show o.den ((a.subst σ).den env) ((b.subst σ).den env) ((c.subst σ).den env) t=_
  rw [e1,e2,e3]
  rfl
end Go.Sy
noncomputable section
namespace Go.Sy
open Go Go.Ev
def row:(t:Ty)→t.D→List AV
 | .int k,x=>[.int k x]
 | .bool,x=>[.bool x]
 | .str,x=>[.str x]
 | .lst u,x=>[.lst (List.map (row u) x)]
 | .pair a b,x=>row a x.1++row b x.2
 | .unit,_=>[]
 | .nat,_=>[.undef]
def valT:(t:Ty)→t.D→AV
 | .pair a b,x=>.agg (row (.pair a b) x)
 | .unit,_=>.agg []
 | .int k,x=>.int k x
 | .bool,x=>.bool x
 | .str,x=>.str x
 | .lst u,x=>.lst (List.map (row u) x)
 | .nat,_=>.undef
mutual
def SV.emb (env:Env):SV→AV
 | .undef=>.undef
 | .ii k e=>.int k (e.den env (.int k))
 | .bb e=>.bool (e.den env .bool)
 | .ss e=>.str (e.den env .str)
 | .tl t e=>.lst (List.map (row t) (e.den env (.lst t)))
 | .nilp=>.nilp
 | .ptr b i o=>.ptr b (i.den env .nat) o
 | .iptr cs=>.iptr (SV.embL env cs)
 | .nils=>.nils
 | .emp=>.emp
 | .sl b o l=>.sl b (o.den env .nat) (l.den env .nat)
 | .nilm=>.nilm
 | .map b=>.map b
 | .nilf=>.nilf
 | .fn f cs=>.fn f (SV.embL env cs)
 | .nili=>.nili
 | .iface t v=>.iface t (v.emb env)
 | .agg cs=>.agg (SV.embL env cs)
 | .tup cs=>.tup (SV.embL env cs)
def SV.embL (env:Env):List SV→List AV
 | []=>[]
 | v::l=>v.emb env::SV.embL env l
end
def SB.emb (env:Env):SB→Blk
 | .rows z t e=>.rows z true (List.map (row t) (e.den env (.lst t)))
 | .box z _ es=>.rows z false (es.map (SV.embL env))
 | .ro z t e=>.ro z (List.map (row t) (e.den env (.lst t)))
 | .map tk tv e=>.map (List.map (fun p=>(valT tk p.1,valT tv p.2)) (e.den env (.lst (.pair tk tv))))
 | .dead=>.dead
def embF (env:Env)(fr:SF):Fr:=fr.map fun p=>(p.1,p.2.emb env)
def embH (env:Env)(H:SH):Heap:=H.map (SB.emb env)
def SS.emb (env:Env)(s:SS):St:=⟨embF env s.fr,embH env s.H⟩
theorem Qbm (env:Env):∀ l:List SV,SV.embL env l=l.map (SV.emb env)
 | []=>rfl
 | v::l=>by simp only [SV.embL,List.map_cons,Qbm env l]
theorem Qmf (env:Env)(a b:List SV):SV.embL env (a++b)=SV.embL env a++SV.embL env b:=by simp [Qbm]
theorem Qf0 (env:Env)(l:List SV):(SV.embL env l).length=l.length:=by simp [Qbm]
theorem Qg7 (env:Env)(l:List SV)(n:Nat):(SV.embL env l).drop n=SV.embL env (l.drop n):=by simp [Qbm,List.map_drop]
theorem QzE (env:Env)(l:List SV)(n:Nat):(SV.embL env l).take n=SV.embL env (l.take n):=by simp [Qbm,List.map_take]
theorem Qd1:∀ (t:Ty) (x:t.D),(row t x).length=t.size
 | .int _,_=>rfl
 | .bool,_=>rfl
 | .str,_=>rfl
 | .lst _,_=>rfl
 | .unit,_=>rfl
 | .nat,_=>rfl
 | .pair a b,x=>by simp only [row,Ty.size,List.length_append,Qd1 a,Qd1 b]
theorem Qfs (env:Env):∀ (t:Ty) (e:Ex),SV.embL env (cellsOf t e)=row t (e.den env t)
 | .int _,_=>rfl
 | .bool,_=>rfl
 | .str,_=>rfl
 | .lst _,_=>rfl
 | .unit,_=>rfl
 | .nat,_=>rfl
 | .pair a b,e=>by
  show SV.embL env (cellsOf a (mk1 (.fst b) e)++cellsOf b (mk1 (.snd a) e))=row a (e.den env (.pair a b)).1++row b (e.den env (.pair a b)).2
  rw [Qmf,Qfs env a,Qfs env b,Qzy,Qzz]
theorem Qsk (env:Env)(t:Ty)(e:Ex):(sval t e).emb env=valT t (e.den env t):=by
 cases t<;>first |rfl |(show AV.agg (SV.embL env (cellsOf _ e))=AV.agg _; rw [Qfs])
theorem Qg8 (env:Env)(v:SV):(v.emb env).cells=SV.embL env v.cells:=by cases v<;>rfl
theorem QxF (env:Env)(v:SV):(v.emb env).Qax=v.Qax:=by cases v<;>rfl
theorem Qg9 (env:Env)(l:List SV):(SV.embL env l).all AV.Qax=l.all SV.Qax:=by
 rw [Qbm,List.all_map]; congr 1; funext v; exact QxF env v
theorem Qon (env:Env):∀ {t:Ty} {cs:List SV} {e:Ex} {r:List SV},reify t cs=some (e,r)→SV.embL env cs=row t (e.den env t)++SV.embL env r
 | .int k,cs,e,r,h=>by
  unfold reify at h
  split at h
  ·split at h
   ·rename_i hk
    simp only [osi,Prod.mk.injEq] at h
    obtain ⟨rfl,rfl⟩:=h
    rw [Qju hk]
    rfl
   ·cases h
  ·cases h
 | .bool,cs,e,r,h=>by
  unfold reify at h
  split at h
  ·simp only [osi,Prod.mk.injEq] at h
   obtain ⟨rfl,rfl⟩:=h
   rfl
  ·cases h
 | .str,cs,e,r,h=>by
  unfold reify at h
  split at h
  ·simp only [osi,Prod.mk.injEq] at h
   obtain ⟨rfl,rfl⟩:=h
   rfl
  ·cases h
 | .lst u,cs,e,r,h=>by
  unfold reify at h
  split at h
  ·split at h
   ·rename_i hk
    simp only [osi,Prod.mk.injEq] at h
    obtain ⟨rfl,rfl⟩:=h
    rw [QaP hk]
    rfl
   ·split at h
    ·simp only [osi,Prod.mk.injEq] at h
     obtain ⟨rfl,rfl⟩:=h
     rfl
    ·cases h
  ·cases h
 | .pair a b,cs,e,r,h=>by
  unfold reify at h
  split at h
  ·cases h
  ·rename_i x r1 h1
   split at h
   ·cases h
   ·rename_i y r2 h2
    simp only [osi,Prod.mk.injEq] at h
    obtain ⟨rfl,rfl⟩:=h
    rw [Qon env h1,Qon env h2,QxE]
    simp only [row,List.append_assoc]
 | .unit,cs,e,r,h=>by
  unfold reify at h
  simp only [osi,Prod.mk.injEq] at h
  obtain ⟨rfl,rfl⟩:=h
  rfl
 | .nat,cs,e,r,h=>by simp [reify] at h
theorem Qf1 (env:Env){t:Ty}{cs:List SV}{e:Ex}(h:QhL t cs=some e):SV.embL env cs=row t (e.den env t):=by
 unfold QhL at h
 split at h
 ·rename_i e' h'
  simp only [osi] at h
  subst h
  rw [Qon env h']
  simp [SV.embL]
 ·cases h
theorem Qwz {t:Ty}(h:Ql7 t=true)(x:t.D):valT t x=.agg (row t x):=by cases t<;>first |rfl |(cases h)
theorem QtG {t:Ty}(h:Ql7 t=false)(x:t.D):[valT t x]=row t x:=by cases t<;>first |rfl |(cases h)
theorem Qmg (env:Env){t:Ty}{v:SV}{e:Ex}(h:Qq7 t v=some e):v.emb env=valT t (e.den env t):=by
 unfold Qq7 at h
 split at h
 ·rename_i ht
  split at h
  ·rw [Qwz ht,← Qf1 env h]
   rfl
  ·cases h
 ·rename_i ht
  split at h
  ·cases h
  ·have:=Qf1 env h
   rw [← QtG ht] at this
   simp only [SV.embL,List.cons.injEq,and_true] at this
   exact this
mutual
theorem Qps {n:Nat}{e1 e2:Env}(h:Agree n e1 e2):∀ {v:SV},v.bnd n=true→v.emb e1=v.emb e2
 | .undef,_=>rfl
 | .ii k e,hb=>by simp only [SV.bnd] at hb; simp only [SV.emb,QaB h hb]
 | .bb e,hb=>by simp only [SV.bnd] at hb; simp only [SV.emb,QaB h hb]
 | .ss e,hb=>by simp only [SV.bnd] at hb; simp only [SV.emb,QaB h hb]
 | .tl t e,hb=>by simp only [SV.bnd] at hb; simp only [SV.emb,QaB h hb]
 | .nilp,_=>rfl
 | .ptr b i o,hb=>by simp only [SV.bnd] at hb; simp only [SV.emb,QaB h hb]
 | .iptr cs,hb=>by simp only [SV.bnd] at hb; simp only [SV.emb,Qd2 h hb]
 | .nils,_=>rfl
 | .emp,_=>rfl
 | .sl b o l,hb=>by
  simp only [SV.bnd] at hb
  obtain ⟨h1,h2⟩:=Qam hb
  simp only [SV.emb,QaB h h1,QaB h h2]
 | .nilm,_=>rfl
 | .map b,_=>rfl
 | .nilf,_=>rfl
 | .fn f cs,hb=>by simp only [SV.bnd] at hb; simp only [SV.emb,Qd2 h hb]
 | .nili,_=>rfl
 | .iface t v,hb=>by simp only [SV.bnd] at hb; simp only [SV.emb,Qps h hb]
 | .agg cs,hb=>by simp only [SV.bnd] at hb; simp only [SV.emb,Qd2 h hb]
 | .tup cs,hb=>by simp only [SV.bnd] at hb; simp only [SV.emb,Qd2 h hb]
theorem Qd2 {n:Nat}{e1 e2:Env}(h:Agree n e1 e2):∀ {l:List SV},SV.bndL n l=true→SV.embL e1 l=SV.embL e2 l
 | [],_=>rfl
 | v::l,hb=>by
  simp only [SV.bndL] at hb
  obtain ⟨h1,h2⟩:=Qam hb
  simp only [SV.embL,Qps h h1,Qd2 h h2]
end
theorem QBH {n:Nat}{e1 e2:Env}(h:Agree n e1 e2){b:SB}(hb:b.bnd n=true):b.emb e1=b.emb e2:=by
 cases b with
 | rows z t e=>simp only [SB.bnd] at hb; simp only [SB.emb,QaB h hb]
 | ro z t e=>simp only [SB.bnd] at hb; simp only [SB.emb,QaB h hb]
 | map tk tv e=>simp only [SB.bnd] at hb; simp only [SB.emb,QaB h hb]
 | dead=>rfl
 | box z tg es=>
  simp only [SB.bnd,List.all_eq_true] at hb
  simp only [SB.emb,Blk.rows.injEq,true_and]
  exact List.map_congr_left fun r hr=>Qd2 h (hb r hr)
theorem QkV {n:Nat}{e1 e2:Env}(h:Agree n e1 e2){fr:SF}(hb:bndF n fr=true):embF e1 fr=embF e2 fr:=by
 simp only [bndF,List.all_eq_true] at hb
 exact List.map_congr_left fun p hp=>by rw [Qps h (hb p hp)]
theorem Qio {n:Nat}{e1 e2:Env}(h:Agree n e1 e2){H:SH}(hb:bndH n H=true):embH e1 H=embH e2 H:=by
 simp only [bndH,List.all_eq_true] at hb
 exact List.map_congr_left fun b hp=>QBH h (hb b hp)
theorem QzF (env:Env){a:AV}{v:SV}(h:ofAV a=some v):v.emb env=a:=by
 unfold ofAV at h
 split at h<;>first
  | (simp only [osi] at h; subst h; rfl)
  | cases h
theorem Qoo (env:Env):∀ {l:List AV} {vs:List SV},QuT l=some vs→SV.embL env vs=l
 | [],vs,h=>by simp only [QuT,osi] at h; subst h; rfl
 | a::l,vs,h=>by
  unfold QuT at h
  split at h
  ·rename_i v vs' h1 h2
   simp only [osi] at h
   subst h
   simp only [SV.embL,QzF env h1,Qoo env h2]
  ·cases h
theorem QgF (env:Env):∀ (fr:SF) (t:Nat),(getF fr t).emb env=Fr.get (embF env fr) t
 | [],t=>rfl
 | p::r,t=>by
  show (match Nat.beq p.1 t with |true=>p.2 |false=>getF r t).emb env=Fr.get ((p.1,p.2.emb env)::embF env r) t
  rw [Fr.Qb7]
  cases Nat.beq p.1 t with
  | true=>rfl
  | false=>exact QgF env r t
theorem QwA (env:Env):∀ (fr:SF) (d:Nat) (v:SV),embF env (setF fr d v)=Fr.set (embF env fr) d (v.emb env)
 | [],d,v=>rfl
 | p::r,d,v=>by
  show embF env (match Nat.beq p.1 d with |true=>(d,v)::r |false=>match Nat.blt d p.1 with |true=>(d,v)::p::r |false=>p::setF r d v)=Fr.set ((p.1,p.2.emb env)::embF env r) d (v.emb env)
  rw [Fr.Qfk]
  cases Nat.beq p.1 d with
  | true=>rfl
  | false=>
   cases Nat.blt d p.1 with
   | true=>rfl
   | false=>
    show (p.1,p.2.emb env)::embF env (setF r d v)=_
    rw [QwA env r d v]
theorem QwB (env:Env)(fr:SF)(d:Option Tmp)(v:SV):embF env (putF fr d v)=(embF env fr).put d (v.emb env):=by
 cases d with
 | none=>rfl
 | some d=>exact QwA env fr d v
theorem Qpt (env:Env)(mask:Nat):∀ fr:SF,embF env (QuS mask fr)=Fr.sift mask (embF env fr)
 | []=>rfl
 | p::r=>by
  show embF env (match tb mask p.1 with |true=>p::QuS mask r |false=>QuS mask r)=Fr.sift mask ((p.1,p.2.emb env)::embF env r)
  rw [Fr.QbY]
  cases tb mask p.1 with
  | true=>show (p.1,p.2.emb env)::embF env (QuS mask r)=_; rw [Qpt env mask r]
  | false=>exact Qpt env mask r
theorem Qkc (env:Env)(mask:Nat)(fr:SF):embF env (Qr1 mask fr)=Fr.only mask (embF env fr):=by
 unfold Qr1 Fr.only
 cases Nat.beq mask 0 with
 | true=>rfl
 | false=>exact Qpt env mask fr
theorem QtH (v:Value):(ofAV (ofConst v)).isSome=true:=by
 unfold ofConst
 split<;>rfl
theorem QaC (env:Env)(fr:SF)(x:Operand):(opvS fr x).emb env=opv (embF env fr) x:=by
 cases x with
 | tmp t=>exact QgF env fr t
 | const v=>
  show ((ofAV (ofConst v)).getD .undef).emb env=ofConst v
  cases h:ofAV (ofConst v) with
  | none=>have:=QtH v; rw [h] at this; cases this
  | some a=>exact QzF env h
 | global g=>rfl
 | func f=>rfl
theorem Qip (env:Env)(i:TI)(cs:List SV):pack i (SV.embL env cs)=(Qtp i cs).map (SV.emb env):=by
 unfold pack Qtp
 cases i.known with
 | false=>rfl
 | true=>
  cases i.isAgg with
  | true=>
   simp only [Qf0]
   cases Nat.ble i.size cs.length with
   | true=>simp only [Option.map_some,SV.emb,QzE]
   | false=>rfl
  | false=>
   cases cs with
   | nil=>rfl
   | cons a l=>rfl
mutual
theorem Qsl (env:Env)(σ:Nat→Ex):∀ v:SV,(v.fill σ).emb env=v.emb (fun i u=>(σ i).den env u)
 | .undef=>rfl
 | .ii k e=>by simp only [SV.fill,SV.emb,Qcg]
 | .bb e=>by simp only [SV.fill,SV.emb,Qcg]
 | .ss e=>by simp only [SV.fill,SV.emb,Qcg]
 | .tl t e=>by simp only [SV.fill,SV.emb,Qcg]
 | .nilp=>rfl
 | .ptr b i o=>by simp only [SV.fill,SV.emb,Qcg]
 | .iptr cs=>by simp only [SV.fill,SV.emb,Qiq env σ cs]
 | .nils=>rfl
 | .emp=>rfl
 | .sl b o l=>by simp only [SV.fill,SV.emb,Qcg]
 | .nilm=>rfl
 | .map b=>rfl
 | .nilf=>rfl
 | .fn f cs=>by simp only [SV.fill,SV.emb,Qiq env σ cs]
 | .nili=>rfl
 | .iface t v=>by simp only [SV.fill,SV.emb,Qsl env σ v]
 | .agg cs=>by simp only [SV.fill,SV.emb,Qiq env σ cs]
 | .tup cs=>by simp only [SV.fill,SV.emb,Qiq env σ cs]
theorem Qiq (env:Env)(σ:Nat→Ex):∀ l:List SV,SV.embL env (SV.Qtt σ l)=SV.embL (fun i u=>(σ i).den env u) l
 | []=>rfl
 | v::l=>by simp only [SV.Qtt,SV.embL,Qsl env σ v,Qiq env σ l]
end
theorem QzG (env:Env)(σ:Nat→Ex)(b:SB):(b.fill σ).emb env=b.emb (fun i u=>(σ i).den env u):=by
 cases b with
 | rows z t e=>simp only [SB.fill,SB.emb,Qcg]
 | ro z t e=>simp only [SB.fill,SB.emb,Qcg]
 | map a b e=>simp only [SB.fill,SB.emb,Qcg]
 | dead=>rfl
 | box z tg es=>simp only [SB.fill,SB.emb,List.map_map,Function.comp_def,Qiq]
theorem Qkd (env:Env)(σ:Nat→Ex)(fr:SF):embF env (QqA σ fr)=embF (fun i u=>(σ i).den env u) fr:=by
 simp only [embF,QqA,List.map_map,Function.comp_def,Qsl]
theorem Qmh (env:Env)(σ:Nat→Ex)(H:SH):embH env (Qr4 σ H)=embH (fun i u=>(σ i).den env u) H:=by
 simp only [embH,Qr4,List.map_map,Function.comp_def,QzG]
theorem QcJ (env:Env)(H:SH)(b:Nat):(embH env H)[b]?=(H[b]?).map (SB.emb env):=by simp [embH]
theorem Qbn (env:Env)(H:SH):(embH env H).length=H.length:=by simp [embH]
theorem QhN (env:Env)(H:SH)(b:Nat)(k:SB):embH env (H.set b k)=(embH env H).set b (k.emb env):=by simp [embH,List.map_set]
theorem Qd3 (env:Env)(H G:SH):embH env (H++G)=embH env H++embH env G:=by simp [embH]
theorem Qpu (env:Env)(fr:SF):(embF env fr).map (·.2)=SV.embL env (fr.map (·.2)):=by
 rw [Qbm]; simp only [embF,List.map_map,Function.comp_def]
end Go.Sy
end
