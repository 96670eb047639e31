/- Symbolic runs: freezing, renumbering, states made ready. -/
import Derived.Test.YtkecfadnfnnfaaaGreatDoorSyF
set_option linter.unusedVariables false
set_option linter.unusedSimpArgs false
namespace Go.Sy
open Go Go.Ev
section
variable {P:Nat→List Ty} {O:Nat→List (List Ty)} (m:(f:Nat)→Pr (P f)→Option (Sm (O f)))
section
variable {α:Type}
mutual
def Ok:T α→Env→(Env→α→Prop)→Prop
 | .ret a,env,Q=>Q env a
 | .fail,_,_=>True
 | .out _ _,_,_=>False
 | .tail _ _,_,_=>False
 | .ite c x y,env,Q=>(c.den env .bool=true→Ok x env Q)∧(c.den env .bool=false→Ok y env Q)
 | .get n t k l i x,env,Q=>∀ a,at' (l.den env (.lst t)) (i.den env (.int k))=some a→Ok x (env.set n t a) Q
 | .call f args n ks,env,Q=>∀ z,m f (mkPr env (P f) args)=some z→OkA ks (O f) z n env Q
 | .join os x n ks,env,Q=>∀ z,x.den P O m os env=some z→OkA ks os z n env Q
 | .alt _ _,_,_=>True
def OkA:T α→(os:List (List Ty))→Sm os→Nat→Env→(Env→α→Prop)→Prop
 | .alt k r,os,z,n,env,Q=>match os,z with
  | [],_=>True
  | [a],z=>Ok k (Env.setP a env n z) Q
  | a::b::l,.inl x=>Ok k (Env.setP a env n x) Q
  | a::b::l,.inr y=>OkA r (b::l) y n env Q
 | .fail,_,_,_,_,_=>True
 | _,_,_,_,_,_=>False
end
end
variable {α β:Type}
mutual
theorem QcC:∀ (x:T α) (os:List (List Ty)) (env:Env),(x.bind fun _=>(T.fail:T β)).den P O m os env=x.den P O m os env
 | .ret a,os,env=>by simp only [T.bind,T.den]
 | .fail,os,env=>by simp only [T.bind,T.den]
 | .out _ _,os,env=>by simp only [T.bind,T.den]
 | .tail _ _,os,env=>by simp only [T.bind,T.den]
 | .ite c x y,os,env=>by simp only [T.bind,T.den,QcC x,QcC y]
 | .get n t k l i x,os,env=>by simp only [T.bind,T.den,QcC x]
 | .call f args n ks,os,env=>by simp only [T.bind,T.den,Qjt ks]
 | .join os' x n ks,os,env=>by simp only [T.bind,T.den,QcC x,Qjt ks]
 | .alt _ _,os,env=>by simp only [T.bind,T.den]
theorem Qjt:∀ (x:T α) (os':List (List Ty)) (z:Sm os') (n:Nat) (os:List (List Ty)) (env:Env),(x.bind fun _=>(T.fail:T β)).alts P O m os' z n os env=x.alts P O m os' z n os env
 | .alt k r,os',z,n,os,env=>by
  match os',z with
  | [],z=>exact z.elim
  | [a],z=>simp only [T.bind,T.alts,QcC k]
  | a::b::l,.inl x=>simp only [T.bind,T.alts,QcC k]
  | a::b::l,.inr y=>simp only [T.bind,T.alts,Qjt r]
 | .ret a,os',z,n,os,env=>by simp only [T.bind,T.alts]
 | .fail,os',z,n,os,env=>by simp only [T.bind,T.alts]
 | .out _ _,os',z,n,os,env=>by simp only [T.bind,T.alts]
 | .tail _ _,os',z,n,os,env=>by simp only [T.bind,T.alts]
 | .ite c x y,os',z,n,os,env=>by simp only [T.bind,T.alts]
 | .get ..,os',z,n,os,env=>by simp only [T.bind,T.alts]
 | .call ..,os',z,n,os,env=>by simp only [T.bind,T.alts]
 | .join ..,os',z,n,os,env=>by simp only [T.bind,T.alts]
end
mutual
theorem Ok.bind {f:α→T β}{Q:Env→α→Prop}{Q':Env→β→Prop}(hf:∀ env a,Q env a→Ok m (f a) env Q'):∀ (x:T α) (env:Env),Ok m x env Q→Ok m (x.bind f) env Q'
 | .ret a,env,h=>by simp only [Ok] at h; simp only [T.bind]; exact hf _ _ h
 | .fail,env,h=>by simp only [T.bind,Ok]
 | .out _ _,env,h=>by simp only [Ok] at h
 | .tail _ _,env,h=>by simp only [Ok] at h
 | .ite c x y,env,h=>by
  simp only [Ok] at h
  simp only [T.bind,Ok]
  exact ⟨fun hc=>Ok.bind hf x env (h.1 hc),fun hc=>Ok.bind hf y env (h.2 hc)⟩
 | .get n t k l i x,env,h=>by
  simp only [Ok] at h
  simp only [T.bind,Ok]
  exact fun a ha=>Ok.bind hf x _ (h a ha)
 | .call g args n ks,env,h=>by
  simp only [Ok] at h
  simp only [T.bind,Ok]
  exact fun z hz=>OkA.bind hf ks _ z n env (h z hz)
 | .join os x n ks,env,h=>by
  simp only [Ok] at h
  simp only [T.bind,Ok,QcC]
  exact fun z hz=>OkA.bind hf ks _ z n env (h z hz)
 | .alt _ _,env,h=>by simp only [T.bind,Ok]
theorem OkA.bind {f:α→T β}{Q:Env→α→Prop}{Q':Env→β→Prop}(hf:∀ env a,Q env a→Ok m (f a) env Q'):∀ (x:T α) (os:List (List Ty)) (z:Sm os) (n:Nat) (env:Env),OkA m x os z n env Q→OkA m (x.bind f) os z n env Q'
 | .alt k r,os,z,n,env,h=>by
  match os,z with
  | [],z=>exact z.elim
  | [a],z=>simp only [OkA] at h; simp only [T.bind,OkA]; exact Ok.bind hf k _ h
  | a::b::l,.inl x=>simp only [OkA] at h; simp only [T.bind,OkA]; exact Ok.bind hf k _ h
  | a::b::l,.inr y=>simp only [OkA] at h; simp only [T.bind,OkA]; exact OkA.bind hf r _ y n env h
 | .ret a,os,z,n,env,h=>by simp only [OkA] at h
 | .fail,os,z,n,env,h=>by simp only [T.bind,OkA]
 | .out _ _,os,z,n,env,h=>by simp only [OkA] at h
 | .tail _ _,os,z,n,env,h=>by simp only [OkA] at h
 | .ite c x y,os,z,n,env,h=>by simp only [OkA] at h
 | .get ..,os,z,n,env,h=>by simp only [OkA] at h
 | .call ..,os,z,n,env,h=>by simp only [OkA] at h
 | .join ..,os,z,n,env,h=>by simp only [OkA] at h
end
mutual
theorem Ok.imp {Q Q':Env→α→Prop}(hq:∀ e a,Q e a→Q' e a):∀ (x:T α) (env:Env),Ok m x env Q→Ok m x env Q'
 | .ret a,env,h=>by simp only [Ok] at *; exact hq _ _ h
 | .fail,env,h=>by simp only [Ok]
 | .out _ _,env,h=>by simp only [Ok] at h
 | .tail _ _,env,h=>by simp only [Ok] at h
 | .ite c x y,env,h=>by
  simp only [Ok] at *
  exact ⟨fun hc=>Ok.imp hq x env (h.1 hc),fun hc=>Ok.imp hq y env (h.2 hc)⟩
 | .get n t k l i x,env,h=>by
  simp only [Ok] at *
  exact fun a ha=>Ok.imp hq x _ (h a ha)
 | .call g args n ks,env,h=>by
  simp only [Ok] at *
  exact fun z hz=>OkA.imp hq ks _ z n env (h z hz)
 | .join os x n ks,env,h=>by
  simp only [Ok] at *
  exact fun z hz=>OkA.imp hq ks _ z n env (h z hz)
 | .alt _ _,env,h=>by simp only [Ok]
theorem OkA.imp {Q Q':Env→α→Prop}(hq:∀ e a,Q e a→Q' e a):∀ (x:T α) (os:List (List Ty)) (z:Sm os) (n:Nat) (env:Env),OkA m x os z n env Q→OkA m x os z n env Q'
 | .alt k r,os,z,n,env,h=>by
  match os,z with
  | [],z=>exact z.elim
  | [a],z=>simp only [OkA] at *; exact Ok.imp hq k _ h
  | a::b::l,.inl x=>simp only [OkA] at *; exact Ok.imp hq k _ h
  | a::b::l,.inr y=>simp only [OkA] at *; exact OkA.imp hq r _ y n env h
 | .ret a,os,z,n,env,h=>by simp only [OkA] at h
 | .fail,os,z,n,env,h=>by simp only [OkA]
 | .out _ _,os,z,n,env,h=>by simp only [OkA] at h
 | .tail _ _,os,z,n,env,h=>by simp only [OkA] at h
 | .ite c x y,os,z,n,env,h=>by simp only [OkA] at h
 | .get ..,os,z,n,env,h=>by simp only [OkA] at h
 | .call ..,os,z,n,env,h=>by simp only [OkA] at h
 | .join ..,os,z,n,env,h=>by simp only [OkA] at h
end
mutual
theorem Qe3 {f:α→T β}{Q:Env→α→Prop}{os:List (List Ty)}{r:Sm os}:∀ (x:T α) (env:Env),(x.bind f).den P O m os env=some r→Ok m x env Q→∃ env' a,Q env' a∧(f a).den P O m os env'=some r
 | .ret a,env,h,k=>by
  simp only [T.bind] at h
  simp only [Ok] at k
  exact ⟨env,a,k,h⟩
 | .fail,env,h,k=>by simp only [T.bind,T.den,reduceCtorEq] at h
 | .out _ _,env,h,k=>by simp only [Ok] at k
 | .tail _ _,env,h,k=>by simp only [Ok] at k
 | .ite c x y,env,h,k=>by
  simp only [T.bind,T.den] at h
  simp only [Ok] at k
  cases hc:c.den env .bool with
  | true=>rw [hc] at h; exact Qe3 x env h (k.1 hc)
  | false=>rw [hc] at h; exact Qe3 y env h (k.2 hc)
 | .get n t k' l i x,env,h,k=>by
  simp only [T.bind,T.den] at h
  simp only [Ok] at k
  cases ha:at' (l.den env (.lst t)) (i.den env (.int k')) with
  | none=>rw [ha] at h; simp at h
  | some a=>rw [ha] at h; exact Qe3 x _ h (k a ha)
 | .call g args n ks,env,h,k=>by
  simp only [T.bind,T.den] at h
  simp only [Ok] at k
  cases ha:m g (mkPr env (P g) args) with
  | none=>rw [ha] at h; simp at h
  | some z=>rw [ha] at h; exact Qqv ks _ z n env h (k z ha)
 | .join os' x n ks,env,h,k=>by
  simp only [T.bind,T.den,QcC] at h
  simp only [Ok] at k
  cases ha:x.den P O m os' env with
  | none=>rw [ha] at h; simp at h
  | some z=>rw [ha] at h; exact Qqv ks _ z n env h (k z ha)
 | .alt _ _,env,h,k=>by simp only [T.bind,T.den,reduceCtorEq] at h
theorem Qqv {f:α→T β}{Q:Env→α→Prop}{os:List (List Ty)}{r:Sm os}:∀ (x:T α) (os':List (List Ty)) (z:Sm os') (n:Nat) (env:Env),(x.bind f).alts P O m os' z n os env=some r→OkA m x os' z n env Q→∃ env' a,Q env' a∧(f a).den P O m os env'=some r
 | .alt k' r',os',z,n,env,h,k=>by
  match os',z with
  | [],z=>exact z.elim
  | [a],z=>simp only [OkA] at k; simp only [T.bind,T.alts] at h; exact Qe3 k' _ h k
  | a::b::l,.inl x=>simp only [OkA] at k; simp only [T.bind,T.alts] at h; exact Qe3 k' _ h k
  | a::b::l,.inr y=>simp only [OkA] at k; simp only [T.bind,T.alts] at h; exact Qqv r' _ y n env h k
 | .ret a,os',z,n,env,h,k=>by simp only [OkA] at k
 | .fail,os',z,n,env,h,k=>by simp only [T.bind,T.alts,reduceCtorEq] at h
 | .out _ _,os',z,n,env,h,k=>by simp only [OkA] at k
 | .tail _ _,os',z,n,env,h,k=>by simp only [OkA] at k
 | .ite c x y,os',z,n,env,h,k=>by simp only [OkA] at k
 | .get ..,os',z,n,env,h,k=>by simp only [OkA] at k
 | .call ..,os',z,n,env,h,k=>by simp only [OkA] at k
 | .join ..,os',z,n,env,h,k=>by simp only [OkA] at k
end
def getP (env:Env):(ts:List Ty)→Nat→Pr ts
 | [],_=>()
 | [a],n=>env n a
 | a::b::l,n=>(env n a,getP env (b::l) (n+1))
def Qg4 (env:Env):(os:List (List Ty))→Sm os→Nat→Nat→Prop
 | [],_,_,_=>False
 | [a],z,j,n=>match j with |0=>z=getP env a n |_+1=>False
 | a::b::l,.inl p,j,n=>match j with |0=>p=getP env a n |_+1=>False
 | a::b::l,.inr y,j,n=>match j with |0=>False |j+1=>Qg4 env (b::l) y j n
def Fact.holds (env:Env):Fact→Prop
 | .cond e b=>e.den env .bool=b
 | .idx t k l i x=>at' (l.den env (.lst t)) (i.den env (.int k))=some (x.den env t)
 | .call f args j n len=>∃ z,m f (mkPr env (P f) args)=some z∧Qg4 env (O f) z j n∧∃ ts,(O f)[j]?=some ts∧ts.length=len
def Inv (env:Env)(s:SS):Prop:=∀ f∈s.fs,Fact.holds m env f
theorem Qe4:∀ (ts:List Ty) (env:Env) (n:Nat) (x:Pr ts),x=getP (Env.setP ts env n x) ts n
 | [],env,n,x=>rfl
 | [a],env,n,x=>(Qe1 env n a x).symm
 | a::b::l,env,n,(x,y)=>by
  show (x,y)=(Env.setP (b::l) (env.set n a x) (n+1) y n a,getP (Env.setP (b::l) (env.set n a x) (n+1) y) (b::l) (n+1))
  rw [← Qe4 (b::l) (env.set n a x) (n+1) y]
  rw [← QdF (b::l) (env.set n a x) (n+1) y n (Nat.lt_succ_self n) a,Qe1]
theorem QiG {n:Nat}{e1 e2:Env}(h:Agree n e1 e2):∀ (ts:List Ty) (es:List Ex),es.all (Ex.bnd n)=true→mkPr e1 ts es=mkPr e2 ts es
 | [],es,_=>rfl
 | [a],es,hb=>by
  cases es with
  | nil=>rfl
  | cons e l=>
   simp only [List.all_cons] at hb
   exact QaB h (Qan hb).1 a
 | a::b::l,es,hb=>by
  cases es with
  | nil=>
   show (dflt a,mkPr e1 (b::l) [])=(dflt a,mkPr e2 (b::l) [])
   rw [QiG h (b::l) [] rfl]
  | cons e es=>
   simp only [List.all_cons] at hb
   show (e.den e1 a,mkPr e1 (b::l) es)=(e.den e2 a,mkPr e2 (b::l) es)
   rw [QaB h (Qan hb).1 a,QiG h (b::l) es (Qan hb).2]
theorem QnZ {n:Nat}{e1 e2:Env}(h:Agree n e1 e2):∀ (ts:List Ty) (k:Nat),k+ts.length≤n→getP e1 ts k=getP e2 ts k
 | [],k,_=>rfl
 | [a],k,hk=>h k (by simp at hk; omega) a
 | a::b::l,k,hk=>by
  show (e1 k a,getP e1 (b::l) (k+1))=(e2 k a,getP e2 (b::l) (k+1))
  rw [h k (by simp at hk; omega) a,QnZ h (b::l) (k+1) (by simp at hk ⊢; omega)]
theorem Qqw {n:Nat}{e1 e2:Env}(h:Agree n e1 e2):∀ (os:List (List Ty)) (z:Sm os) (j k:Nat) (ts:List Ty),os[j]?=some ts→k+ts.length≤n→Qg4 e1 os z j k→Qg4 e2 os z j k
 | [],z,_,_,_,_,_,_=>z.elim
 | [a],z,j,k,ts,hj,hk,hz=>by
  cases j with
  | zero=>
   simp only [List.getElem?_cons_zero,osi] at hj
   subst hj
   simp only [Qg4] at *
   rw [hz,QnZ h _ _ hk]
  | succ j=>simp only [Qg4] at hz
 | a::b::l,.inl p,j,k,ts,hj,hk,hz=>by
  cases j with
  | zero=>
   simp only [List.getElem?_cons_zero,osi] at hj
   subst hj
   simp only [Qg4] at *
   rw [hz,QnZ h _ _ hk]
  | succ j=>simp only [Qg4] at hz
 | a::b::l,.inr y,j,k,ts,hj,hk,hz=>by
  cases j with
  | zero=>simp only [Qg4] at hz
  | succ j=>
   simp only [List.getElem?_cons_succ] at hj
   simp only [Qg4] at *
   exact Qqw h (b::l) y j k ts hj hk hz
theorem QwJ {n:Nat}{e1 e2:Env}(h:Agree n e1 e2){f:Fact}(hb:f.bnd n=true)(hf:f.holds m e1):f.holds m e2:=by
 cases f with
 | cond e b=>
  simp only [Fact.bnd] at hb
  simp only [Fact.holds] at *
  rw [← QaB h hb]
  exact hf
 | idx t k l i x=>
  simp only [Fact.bnd] at hb
  obtain ⟨h1,h2⟩:=Qan hb
  obtain ⟨h2,h3⟩:=Qan h2
  simp only [Fact.holds] at *
  rw [← QaB h h1,← QaB h h2,← QaB h h3]
  exact hf
 | call f args j k len=>
  simp only [Fact.bnd] at hb
  obtain ⟨h1,h2⟩:=Qan hb
  simp only [Fact.holds] at *
  obtain ⟨z,hz,ha,ts,ht,hl⟩:=hf
  refine ⟨z,?_,Qqw h _ z j k ts ht ?_ ha,ts,ht,hl⟩
  ·rw [← QiG h _ _ h2]; exact hz
  ·have:=Nat.le_of_ble_eq_true h1
   omega
structure Ext (env:Env)(s:SS)(env':Env)(s':SS):Prop where
 inv:Inv m env' s'
 nx:s.nx≤s'.nx
 agr:Agree s.nx env env'
 fr:s'.fr=s.fr
 emF:embF env' s.fr=embF env s.fr
structure ExtH (env:Env)(s:SS)(env':Env)(s':SS):Prop extends Ext m env s env' s' where
 H:s'.H=s.H
 emH:embH env' s.H=embH env s.H
variable {m}
theorem ExtH.refl {env:Env}{s:SS}(h:Inv m env s):ExtH m env s env s:=⟨⟨h,Nat.le_refl _,Agree.refl,rfl,rfl⟩,rfl,rfl⟩
theorem Ext.trans {e1 e2 e3:Env}{s1 s2 s3:SS}(h:Ext m e1 s1 e2 s2)(k:Ext m e2 s2 e3 s3):Ext m e1 s1 e3 s3:=
 ⟨k.inv,Nat.le_trans h.nx k.nx,h.agr.trans k.agr h.nx,k.fr.trans h.fr,by rw [← h.emF,← h.fr]; exact k.emF⟩
theorem ExtH.trans {e1 e2 e3:Env}{s1 s2 s3:SS}(h:ExtH m e1 s1 e2 s2)(k:ExtH m e2 s2 e3 s3):ExtH m e1 s1 e3 s3:=
 ⟨h.toExt.trans k.toExt,k.H.trans h.H,by rw [← h.emH,← h.H]; exact k.emH⟩
theorem QhD {env:Env}{e:Ex}:∀ {l:List Fact} {b:Bool},(∀ f∈l,Fact.holds m env f)→QmQ e l=some b→e.den env .bool=b
 | [],_,_,h=>by simp [QmQ] at h
 | .cond x c::r,b,hf,h=>by
  simp only [QmQ] at h
  split at h
  ·rename_i hx
   have:=QaH hx
   subst this
   simp only [osi] at h
   subst h
   exact hf (.cond x c) (by simp)
  ·exact QhD (fun f hm=>hf f (by simp [hm])) h
 | .idx ..::r,b,hf,h=>by simp only [QmQ] at h; exact QhD (fun f hm=>hf f (by simp [hm])) h
 | .call ..::r,b,hf,h=>by simp only [QmQ] at h; exact QhD (fun f hm=>hf f (by simp [hm])) h
theorem Inv.add {env:Env}{s:SS}{f:Fact}(h:Inv m env s)(hf:f.holds m env):Inv m env { s with fs:=f::s.fs }:=fun g hg=>by
 simp only [List.mem_cons] at hg
 rcases hg with rfl |hg
 ·exact hf
 ·exact h g hg
theorem ExtH.add {env:Env}{s:SS}{f:Fact}(h:Inv m env s)(hf:f.holds m env):ExtH m env s env { s with fs:=f::s.fs }:=⟨⟨h.add hf,Nat.le_refl _,Agree.refl,rfl,rfl⟩,rfl,rfl⟩
theorem Qm0 {env:Env}{s:SS}{e:Ex}{k:Bool→SS→T α}{Q:Env→α→Prop}(hi:Inv m env s)
  (hk:∀ b s',e.den env .bool=b→ExtH m env s env s'→Ok m (k b s') env Q):Ok m (branch e s k) env Q:=by
 have pos:∀ x:Ex,(∀ b s',x.den env .bool=b→ExtH m env s env s'→Ok m (k b s') env Q)→Ok m (match QmQ x s.fs with
  | some b=>k b s
  | none=>.ite x (k true { s with fs:=.cond x true::s.fs }) (k false { s with fs:=.cond x false::s.fs })) env Q:=fun x hx=>by
  split
  ·rename_i b hb
   exact hx b s (QhD hi hb) (.refl hi)
  ·simp only [Ok]
   exact ⟨fun hc=>hx true _ hc (.add hi hc),fun hc=>hx false _ hc (.add hi hc)⟩
 have neg:∀ x:Ex,(∀ b s',(!(x.den env .bool))=b→ExtH m env s env s'→Ok m (k b s') env Q)→Ok m (match QmQ x s.fs with
  | some b=>k (!b) s
  | none=>.ite x (k false { s with fs:=.cond x true::s.fs }) (k true { s with fs:=.cond x false::s.fs })) env Q:=fun x hx=>by
  split
  ·rename_i b hb
   exact hx (!b) s (by rw [QhD hi hb]) (.refl hi)
  ·simp only [Ok]
   exact ⟨fun hc=>hx false _ (by rw [hc]; rfl) (.add hi hc),fun hc=>hx true _ (by rw [hc]; rfl) (.add hi hc)⟩
 unfold branch
 split
 ·exact hk _ _ rfl (.refl hi)
 ·exact neg _ hk
 ·exact pos _ hk
theorem Qlx {env:Env}{s:SS}{e:Ex}{k:SS→T α}{Q:Env→α→Prop}(hi:Inv m env s)
  (hk:∀ s',e.den env .bool=true→ExtH m env s env s'→Ok m (k s') env Q):Ok m (guard e s k) env Q:=by
 refine Qm0 hi fun b s' hb he=>?_
 cases b with
 | true=>exact hk s' hb he
 | false=>simp only [Ok]
theorem QcQ {env:Env}{k:SS→T α}{Q:Env→α→Prop}:∀ {l:List Ex} {s:SS},Inv m env s→
  (∀ s',(∀ e∈l,e.den env .bool=true)→ExtH m env s env s'→Ok m (k s') env Q)→Ok m (guards l s k) env Q
 | [],s,hi,hk=>hk s (fun _ h=>by simp at h) (.refl hi)
 | e::l,s,hi,hk=>Qlx hi fun s1 h1 e1=>QcQ e1.inv fun s2 h2 e2=>hk s2 (fun x hx=>by
    simp only [List.mem_cons] at hx
    rcases hx with rfl |hx
    ·exact h1
    ·exact h2 x hx) (e1.trans e2)
theorem Qau {γ:Type}{env:Env}{o:Option γ}{k:γ→T α}{Q:Env→α→Prop}(hk:∀ a,o=some a→Ok m (k a) env Q):Ok m (opt o k) env Q:=by
 cases o with
 | none=>simp only [opt,Ok]
 | some a=>exact hk a rfl
theorem QbR {env:Env}{b:Bool}{k:T α}{Q:Env→α→Prop}(hk:b=true→Ok m k env Q):Ok m (iff b k) env Q:=by
 cases b with
 | false=>simp only [iff,Ok]
 | true=>exact hk rfl
theorem Qm1 {env:Env}{t:Ty}{k:IntKind}{l i:Ex}:∀ {fs:List Fact} {x:Ex},(∀ f∈fs,Fact.holds m env f)→QrI t k l i fs=some x→at' (l.den env (.lst t)) (i.den env (.int k))=some (x.den env t)
 | [],_,_,h=>by simp [QrI] at h
 | .idx u j a b y::r,x,hf,h=>by
  simp only [QrI] at h
  split at h
  ·rename_i hx
   obtain ⟨h1,h2⟩:=Qan hx
   obtain ⟨h2,h3⟩:=Qan h2
   obtain ⟨h3,h4⟩:=Qan h3
   have e1:=QaT h1
   have e2:=QjV h2
   have e3:=QaH h3
   have e4:=QaH h4
   subst e1 e2 e3 e4
   simp only [osi] at h
   subst h
   exact hf (.idx u j a b y) (by simp)
  ·exact Qm1 (fun f hm=>hf f (by simp [hm])) h
 | .cond ..::r,b,hf,h=>by simp only [QrI] at h; exact Qm1 (fun f hm=>hf f (by simp [hm])) h
 | .call ..::r,b,hf,h=>by simp only [QrI] at h; exact Qm1 (fun f hm=>hf f (by simp [hm])) h
theorem Qqx {env env':Env}{s:SS}(h:Agree s.nx env env')(hb:s.bnd=true)(hi:Inv m env s):Inv m env' s:=fun f hf=>by
 unfold SS.bnd at hb
 obtain ⟨_,h2⟩:=Qan hb
 obtain ⟨_,h3⟩:=Qan h2
 exact QwJ m h (List.all_eq_true.mp h3 f hf) (hi f hf)
theorem QtC {env env':Env}{s:SS}(h:Agree s.nx env env')(hb:s.bnd=true):embF env' s.fr=embF env s.fr∧embH env' s.H=embH env s.H:=by
 unfold SS.bnd at hb
 obtain ⟨h1,h2⟩:=Qan hb
 obtain ⟨h2,_⟩:=Qan h2
 exact ⟨(Qlw h h1).symm,(QiD h h2).symm⟩
theorem Qqy {env:Env}{s:SS}{t:Ty}{k:IntKind}{l i:Ex}{pend:List SV}{K:Ex→SS→T α}{Q:Env→α→Prop}(hi:Inv m env s)
  (hk:∀ env' x s',at' (l.den env (.lst t)) (i.den env (.int k))=some (x.den env' t)→ExtH m env s env' s'→SV.embL env' pend=SV.embL env pend→
   (∀ u,l.den env' u=l.den env u)→(∀ u,i.den env' u=i.den env u)→Ok m (K x s') env' Q):Ok m (getI t k l i pend s K) env Q:=by
 unfold getI
 split
 ·rename_i x hx
  exact hk env x s (Qm1 hi hx) (.refl hi) rfl (fun _=>rfl) (fun _=>rfl)
 ·split
  ·rename_i hb
   obtain ⟨h1,h2⟩:=Qan hb
   obtain ⟨h2,h3⟩:=Qan h2
   obtain ⟨h3,h4⟩:=Qan h3
   simp only [Ok]
   intro a ha
   have ag:=Qqq env s.nx t a
   have hl:=QaB ag h3
   have hi':=QaB ag h4
   refine hk _ (.v s.nx) _ ?_ ⟨⟨?_,Nat.le_succ _,ag,rfl,(QtC ag h1).1⟩,rfl,(QtC ag h1).2⟩ (QdH ag h2).symm (fun u=>(hl u).symm) (fun u=>(hi' u).symm)
   ·rw [ha]; simp only [Ex.den,Qe1]
   ·refine Inv.add (s:={ s with nx:=s.nx+1 }) (fun f hf=>Qqx ag h1 hi f hf) ?_
    simp only [Fact.holds,← hl,← hi',ha,Ex.den,Qe1]
  ·simp only [Ok]
end
end Go.Sy
namespace Go.Sy
open Go Go.Ev
theorem Qn0 {env:Env}{t:Ty}{e off len:Ex}(h:Qqj t e off len=true):off.den env .nat=(0:Nat)∧len.den env .nat=(e.den env (.lst t)).length:=by
 unfold Qqj at h
 obtain ⟨h1,h2⟩:=Qan h
 rw [QaH h1,QaH h2]
 exact ⟨rfl,Qb6 env t e⟩
theorem Qx6 {env:Env}{t u:Ty}{e off len x:Ex}{g:List Ex}(h:Ql8.cut t u e off len=some (x,g))(hg:∀ c∈g,c.den env .bool=true):
  u=t∧(off.den env .nat:Nat)+(len.den env .nat:Nat)≤(e.den env (.lst t)).length∧x.den env (.lst t)=((e.den env (.lst t)).drop (off.den env .nat)).take (len.den env .nat):=by
 unfold Ql8.cut at h
 split at h
 ·rename_i hu
  have:=QaT hu
  subst this
  split at h
  ·rename_i hw
   simp only [osi,Prod.mk.injEq] at h
   obtain ⟨rfl,rfl⟩:=h
   obtain ⟨h1,h2⟩:=Qn0 (env:=env) hw
   rw [h1,h2]
   exact ⟨rfl,by simp,by simp⟩
  ·simp only [osi,Prod.mk.injEq] at h
   obtain ⟨rfl,rfl⟩:=h
   have:=hg _ (List.mem_singleton.mpr rfl)
   rw [Qjr,Qjq,Qb6,decide_eq_true_eq] at this
   refine ⟨rfl,this,?_⟩
   show (((mk2 .dr off e).den env (.lst u))).take (len.den env .nat)=_
   rw [QBe]
 ·cases h
theorem QtD {env:Env}{t:Ty}{H:SH}{v:SV}{e:Ex}{g:List Ex}(h:Ql8 t H v=some (e,g))(hg:∀ c∈g,c.den env .bool=true):
  rowsOf (embH env H) (v.emb env)=some (List.map (row t) (e.den env (.lst t)))∧QbP (v.emb env) (embH env H)=true:=by
 unfold Ql8 at h
 split at h
 ·simp only [osi,Prod.mk.injEq] at h
  obtain ⟨rfl,rfl⟩:=h
  exact ⟨rfl,rfl⟩
 ·simp only [osi,Prod.mk.injEq] at h
  obtain ⟨rfl,rfl⟩:=h
  exact ⟨rfl,rfl⟩
 ·split at h
  ·rename_i hu
   simp only [osi,Prod.mk.injEq] at h
   obtain ⟨rfl,rfl⟩:=h
   rw [QaT hu]
   exact ⟨rfl,rfl⟩
  ·split at h
   ·simp only [osi,Prod.mk.injEq] at h
    obtain ⟨rfl,rfl⟩:=h
    exact ⟨rfl,rfl⟩
   ·cases h
 ·rename_i b off len
  simp only [SV.emb,QDe,QDf,Qck]
  split at h
  ·rename_i z u l hb
   rw [hb]
   obtain ⟨rfl,h1,h2⟩:=Qx6 h hg
   simp only [Option.map_some,Option.bind_some,SB.emb,QmW,List.length_map,h1,if_true,h2,List.map_drop,List.map_take]
   first |trivial |exact ⟨rfl,rfl⟩ |exact ⟨trivial,rfl⟩
  ·rename_i z u l hb
   rw [hb]
   obtain ⟨rfl,h1,h2⟩:=Qx6 h hg
   simp only [Option.map_some,Option.bind_some,SB.emb,QmW,List.length_map,h1,if_true,h2,List.map_drop,List.map_take]
   first |trivial |exact ⟨rfl,rfl⟩ |exact ⟨trivial,rfl⟩
  ·cases h
 ·cases h
theorem QrL {env:Env}{H:SH}{b:Nat}(h:QiB H b=none)(n off len:Nat):Qaj (embH env H) (n+1) (.sl b off len)=none:=by
 rw [Qsr,Qck]
 unfold QiB at h
 split at h
 ·cases h
 ·cases h
 ·rename_i h1 h2
  cases hb:H[b]? with
  | none=>rfl
  | some k=>
   rw [hb] at h1 h2
   cases k<;>first |rfl |(exact absurd rfl (h1 _ _ _)) |(exact absurd rfl (h2 _ _ _))
theorem QrM {H:SH}{b:Nat}{t:Ty}(h:QiB H b=some t)(off len:Ex):∃ r,Ql8 t H (.sl b off len)=some r:=by
 unfold QiB at h
 split at h
 ·rename_i hb
  simp only [osi] at h
  subst h
  simp only [Ql8,hb,Ql8.cut]
  have:∀ t:Ty,Ty.beq t t=true:=QiH
  rw [this]
  simp only
  split<;>exact ⟨_,rfl⟩
 ·rename_i hb
  simp only [osi] at h
  subst h
  simp only [Ql8,hb,Ql8.cut]
  have:∀ t:Ty,Ty.beq t t=true:=QiH
  rw [this]
  simp only
  split<;>exact ⟨_,rfl⟩
 ·cases h
where
 QiH:∀ t:Ty,Ty.beq t t=true
  | .nat=>rfl
  | .int k=>QDk k
  | .bool=>rfl
  | .str=>rfl
  | .unit=>rfl
  | .lst e=>QiH e
  | .pair a b=>by simp only [Ty.beq,QiH a,QiH b,Bool.and_self]
theorem QwK {env:Env}{H:SH}{b:Nat}{off len e:Ex}{t:Ty}{g:List Ex}(n:Nat)(h:Ql8 t H (.sl b off len)=some (e,g))(hg:∀ c∈g,c.den env .bool=true):
  Qaj (embH env H) (n+1) ((SV.sl b off len).emb env)=some ((SV.tl t e).emb env):=by
 simp only [SV.emb,Qsr,Qck]
 unfold Ql8 at h
 simp only at h
 split at h
 ·rename_i z u l hb
  rw [hb]
  obtain ⟨rfl,h1,h2⟩:=Qx6 h hg
  simp only [Option.map_some,Option.bind_some,SB.emb,QmW,List.length_map,h1,if_true,h2,List.map_drop,List.map_take]
 ·rename_i z u l hb
  rw [hb]
  obtain ⟨rfl,h1,h2⟩:=Qx6 h hg
  simp only [Option.map_some,Option.bind_some,SB.emb,QmW,List.length_map,h1,if_true,h2,List.map_drop,List.map_take]
 ·cases h
mutual
theorem Qly {env:Env}{H:SH}:∀ (n:Nat) {v x:SV} {g:List Ex},Qbq H n v=some (x,g)→(∀ c∈g,c.den env .bool=true)→Qaj (embH env H) n (v.emb env)=some (x.emb env)
 | 0,v,x,g,h,hg=>by simp [Qbq] at h
 | n+1,v,x,g,h,hg=>by
  cases v with
  | sl b off len=>
   simp only [Qbq] at h
   split at h
   ·split at h
    ·rename_i hr
     simp only [osi,Prod.mk.injEq] at h
     obtain ⟨rfl,rfl⟩:=h
     exact QwK n hr hg
    ·cases h
   ·cases h
  | fn f caps=>
   cases caps with
   | nil=>
    simp only [Qbq,osi,Prod.mk.injEq] at h
    obtain ⟨rfl,rfl⟩:=h
    rfl
   | cons a l=>simp [Qbq] at h
  | iface t v=>
   simp only [Qbq] at h
   split at h
   ·rename_i hv
    simp only [osi,Prod.mk.injEq] at h
    obtain ⟨rfl,rfl⟩:=h
    simp only [SV.emb,Qaj,Qly n hv hg]
   ·cases h
  | agg cs=>
   simp only [Qbq] at h
   split at h
   ·rename_i hv
    simp only [osi,Prod.mk.injEq] at h
    obtain ⟨rfl,rfl⟩:=h
    rw [SV.emb,Qqp,Qlz n hv hg]
    rfl
   ·cases h
  | nils=>
   simp only [Qbq,osi,Prod.mk.injEq] at h
   obtain ⟨rfl,rfl⟩:=h
   rfl
  | emp=>
   simp only [Qbq,osi,Prod.mk.injEq] at h
   obtain ⟨rfl,rfl⟩:=h
   rfl
  | ptr b i o=>simp [Qbq] at h
  | map b=>simp [Qbq] at h
  | undef=>simp [Qbq] at h
  | tup vs=>simp [Qbq] at h
  | _=>
   simp only [Qbq,osi,Prod.mk.injEq] at h
   obtain ⟨rfl,rfl⟩:=h
   rfl
theorem Qlz {env:Env}{H:SH}(n:Nat):∀ {l xs:List SV} {g:List Ex},Qjo (Qbq H n) l=some (xs,g)→(∀ c∈g,c.den env .bool=true)→mapM' (Qaj (embH env H) n) (SV.embL env l)=some (SV.embL env xs)
 | [],xs,g,h,hg=>by
  simp only [Qjo,osi,Prod.mk.injEq] at h
  obtain ⟨rfl,rfl⟩:=h
  rfl
 | v::l,xs,g,h,hg=>by
  simp only [Qjo] at h
  split at h
  ·cases h
  ·rename_i x g1 h1
   split at h
   ·rename_i l' g2 h2
    simp only [osi,Prod.mk.injEq] at h
    obtain ⟨rfl,rfl⟩:=h
    rw [SV.embL,mapM'_cons,Qjp,Qly n h1 (fun c hc=>hg c (List.mem_append_left _ hc)),Qlz n h2 (fun c hc=>hg c (List.mem_append_right _ hc))]
    rfl
   ·cases h
end
mutual
theorem QoQ {env:Env}{H:SH}:∀ (n:Nat) {v:SV},Qbq H n v=none→Qaj (embH env H) n (v.emb env)=none
 | 0,v,h=>rfl
 | n+1,v,h=>by
  cases v with
  | sl b off len=>
   simp only [Qbq] at h
   split at h
   ·rename_i ht
    obtain ⟨r,hr⟩:=QrM ht off len
    rw [hr] at h
    cases h
   ·rename_i ht
    exact QrL ht _ _ _
  | fn f caps=>
   cases caps with
   | nil=>simp [Qbq] at h
   | cons a l=>rfl
  | iface t v=>
   simp only [Qbq] at h
   split at h
   ·cases h
   ·rename_i hv
    simp only [SV.emb,Qaj,QoQ n hv]
  | agg cs=>
   simp only [Qbq] at h
   split at h
   ·cases h
   ·rename_i hv
    rw [SV.emb,Qqp,QkR n hv]
    rfl
  | ptr b i o=>rfl
  | map b=>rfl
  | undef=>rfl
  | tup vs=>rfl
  | _=>simp [Qbq] at h
theorem QkR {env:Env}{H:SH}(n:Nat):∀ {l:List SV},Qjo (Qbq H n) l=none→mapM' (Qaj (embH env H) n) (SV.embL env l)=none
 | [],h=>by simp [Qjo] at h
 | v::l,h=>by
  simp only [Qjo] at h
  rw [SV.embL,mapM'_cons,Qjp]
  split at h
  ·rename_i h1
   rw [QoQ n h1]
   rfl
  ·split at h
   ·cases h
   ·rename_i h2
    rw [QkR n h2]
    cases Qaj (embH env H) n (v.emb env)<;>rfl
end
theorem QhE (env:Env):∀ (n:Nat) (v:SV),frozenIn n (v.emb env)=QfZ n v
 | 0,v=>rfl
 | n+1,v=>by
  cases v with
  | iface t v=>exact QhE env n v
  | agg cs=>
   show (SV.embL env cs).flatMap (frozenIn n)=cs.flatMap (QfZ n)
   rw [Qa9,List.flatMap_map]
   congr 1
   funext v
   exact QhE env n v
  | _=>rfl
theorem QDn {env:Env}{H H':SH}{b:Nat}(h:QEC H b=some H'):shut (embH env H) b=some (embH env H'):=by
 rw [QGb,Qck]
 unfold QEC at h
 split at h
 ·rename_i hb
  simp only [osi] at h
  subst h
  rw [hb,QhC]
  rfl
 ·rename_i hb
  simp only [osi] at h
  subst h
  rw [hb]
  rfl
 ·cases h
theorem Qmh {env:Env}:∀ {l:List Nat} {H H':SH},Qls l H=some H'→QbT l (embH env H)=some (embH env H')
 | [],H,H',h=>by
  simp only [Qls,osi] at h
  subst h
  rfl
 | b::l,H,H',h=>by
  simp only [Qls] at h
  split at h
  ·rename_i h1
   rw [QA2,QDn h1]
   exact Qmh h
  ·cases h
section
variable {P:Nat→List Ty} {O:Nat→List (List Ty)} {m:(f:Nat)→Pr (P f)→Option (Sm (O f))} {α:Type}
theorem Ext.setH {env env':Env}{s s':SS}(h:Ext m env s env' s')(H:SH):Ext m env s env' { s' with H:=H }:=⟨h.inv,h.nx,h.agr,h.fr,h.emF⟩
theorem Ext.QHn {env env':Env}{s s':SS}{fs:List Fact}(h:Ext m env s env' s')(hi:∀ f∈fs,Fact.holds m env' f)(H:SH):Ext m env s env' { s' with H:=H,fs:=fs }:=⟨hi,h.nx,h.agr,h.fr,h.emF⟩
theorem Qsx {env:Env}{s:SS}{v:SV}{k:SV→SS→T α}{Q:Env→α→Prop}(hi:Inv m env s)
  (hk:∀ x s',QeU (embH env s.H) (v.emb env)=some (x.emb env,embH env s'.H)→Ext m env s env s'→Ok m (k x s') env Q):Ok m (Qti v s k) env Q:=by
 unfold Qti
 refine Qau fun p hp=>?_
 obtain ⟨x,g⟩:=p
 refine QcQ hi fun s1 hg e1=>?_
 refine Qau fun H hH=>?_
 refine hk x _ ?_ (e1.toExt.setH H)
 rw [QA3,Qly 12 hp hg,Option.bind_some,QhE,← e1.H,Qmh hH]
 rfl
theorem QiI (env:Env):∀ (n:Nat) (v:SV),Qhp n (v.emb env)=QuS n v
 | 0,v=>rfl
 | n+1,v=>by
  cases v with
  | iface t v=>exact QiI env n v
  | agg cs=>
   show (SV.embL env cs).all (Qhp n)=cs.all (QuS n)
   rw [Qa9,List.all_map]
   congr 1
   funext v
   exact QiI env n v
  | tup cs=>
   show (SV.embL env cs).all (Qhp n)=cs.all (QuS n)
   rw [Qa9,List.all_map]
   congr 1
   funext v
   exact QiI env n v
  | fn f caps=>cases caps<;>rfl
  | _=>rfl
theorem Qqz (env:Env):∀ (n:Nat) (v:SV),Qes n (v.emb env)=Qo9 n v
 | 0,v=>rfl
 | n+1,v=>by
  have hm:∀ cs:List SV,(SV.embL env cs).flatMap (Qes n)=cs.flatMap (Qo9 n):=fun cs=>by
   rw [Qa9,List.flatMap_map]
   congr 1
   funext v
   exact Qqz env n v
  cases v with
  | iface t v=>exact Qqz env n v
  | agg cs=>exact hm cs
  | tup cs=>exact hm cs
  | fn f caps=>cases caps with
   | nil=>rfl
   | cons a l=>exact hm (a::l)
  | _=>rfl
theorem Qm2 (env:Env)(σ:Nat→Nat):∀ (n:Nat) (v:SV),renN σ n (v.emb env)=(renS σ n v).emb env
 | 0,v=>rfl
 | n+1,v=>by
  have hm:∀ cs:List SV,(SV.embL env cs).map (renN σ n)=SV.embL env (cs.map (renS σ n)):=fun cs=>by
   rw [Qa9,Qa9,List.map_map,List.map_map]
   exact List.map_congr_left fun v _=>Qm2 env σ n v
  cases v with
  | iface t v=>show AV.iface t (renN σ n (v.emb env))=_; rw [Qm2 env σ n v]; rfl
  | agg cs=>show AV.agg ((SV.embL env cs).map (renN σ n))=_; rw [hm]; rfl
  | tup cs=>show AV.tup ((SV.embL env cs).map (renN σ n))=_; rw [hm]; rfl
  | fn f caps=>cases caps with
   | nil=>rfl
   | cons a l=>show AV.fn f ((SV.embL env (a::l)).map (renN σ n))=_; rw [hm]; rfl
  | _=>rfl
theorem QqA (env:Env)(l:List SV):(SV.embL env l).flatMap refs=l.flatMap (Qo9 8):=by
 rw [Qa9,List.flatMap_map]
 congr 1
 funext v
 exact Qqz env 8 v
theorem Qx7 (env:Env)(σ:Nat→Nat)(l:List SV):(SV.embL env l).map (Ev.ren σ)=SV.embL env (l.map (renS σ 8)):=by
 rw [Qa9,Qa9,List.map_map,List.map_map]
 exact List.map_congr_left fun v _=>Qm2 env σ 8 v
theorem QqB (env:Env)(b:SB):(b.emb env).refs=b.refs:=by
 cases b with
 | box z tg es=>
  show (es.map (SV.embL env)).flatMap (fun r=>r.flatMap Ev.refs)=es.flatMap fun r=>r.flatMap (Qo9 8)
  rw [List.flatMap_map]
  congr 1
  funext r
  exact QqA env r
 | _=>rfl
theorem QlA (env:Env)(σ:Nat→Nat)(b:SB):(b.emb env).rn σ=(b.ren σ).emb env:=by
 cases b with
 | box z tg es=>
  show Blk.rows z false ((es.map (SV.embL env)).map fun r=>r.map (Ev.ren σ))=Blk.rows z false ((es.map fun r=>r.map (renS σ 8)).map (SV.embL env))
  rw [List.map_map,List.map_map]
  congr 1
  exact List.map_congr_left fun r _=>Qx7 env σ r
 | _=>rfl
theorem Qm3 (env:Env)(H:SH)(b:Nat):Qcr (embH env H) b=(blkS H b).emb env:=by
 unfold Qcr blkS
 rw [Qck]
 cases H[b]?<;>rfl
theorem QqC (env:Env)(H:SH):∀ (n:Nat) (todo seen:List Nat),visit (embH env H) n todo seen=Qsm H n todo seen
 | 0,_,_=>rfl
 | _+1,[],_=>rfl
 | n+1,b::todo,seen=>by
  simp only [visit,Qsm]
  cases isIn b seen with
  | true=>exact QqC env H n todo seen
  | false=>
   simp only [Qat,Qm3,QqB]
   exact QqC env H n _ _
theorem Qu9 {β:Type}(env:Env)(m:Nat)(vs:List SV)(H:SH)(k:List Nat→Option β):reach m (SV.embL env vs) (embH env H) k=(QxN m vs H).bind k:=by
 unfold reach QxN
 simp only [Qat,QqA,Qm3,QqB,QqC]
 cases Qsm H 100000 ((Qa8 m).reverse.flatMap (fun b=>(blkS H b).refs)++vs.flatMap (Qo9 8)) (Qa8 m)<;>rfl
theorem QDo (env:Env)(σ:Nat→Nat)(fr:SF):(embF env fr).map (fun p=>(p.1,Ev.ren σ p.2))=embF env (Sy.renF σ fr):=by
 simp only [embF,Sy.renF,List.map_map,Function.comp_def]
 exact List.map_congr_left fun p _=>by rw [show Ev.ren σ (p.2.emb env)=_ from Qm2 env σ 8 p.2]
theorem Qx8 (env:Env)(σ:Nat→Nat)(H:SH)(l:List Nat):(l.map fun b=>(Qcr (embH env H) b).rn σ)=embH env (Qpn σ H l):=by
 simp only [Qpn,embH,List.map_map,Function.comp_def]
 exact List.map_congr_left fun b _=>by rw [show Qcr (List.map (SB.emb env) H) b=_ from Qm3 env H b,QlA]
theorem Qm4 {β:Type}{env:Env}{m:Nat}{s s':SS}(h:QuT m s=some s')(k:St→Option β):(s.emb env).canon m k=k (s'.emb env)∧s'.nx=s.nx∧s'.fs=s.fs:=by
 unfold QuT at h
 split at h
 ·cases h
 ·rename_i seen hs
  simp only [osi] at h
  subst h
  refine ⟨?_,rfl,rfl⟩
  unfold St.canon SS.emb
  simp only [Qqu,Qu9,hs,Option.bind_some,Qpk,QeF,QDo,Qx8]
theorem QBk {env:Env}{v:SV}:QlL.isNil v=true→v.emb env=.nils∨v.emb env=.emp:=by
 intro h
 cases v<;>first |exact Or.inl rfl |exact Or.inr rfl |(exact absurd h (by simp [QlL.isNil]))
theorem Qzf {env:Env}{v:SV}(h:QlL.isNil v=false):v.emb env≠.nils∧v.emb env≠.emp:=by
 cases v<;>first |(cases h; done) |(constructor<;>simp [SV.emb])
theorem QtE {β:Type}(c:Ctx)(z:Nat)(zs:List Nat)(v:AV)(vs:List AV)(H:Heap)(k:List AV→Heap→β)(h1:v≠.nils)(h2:v≠.emp):
  QaA c ((z+1)::zs) (v::vs) H k=QaA c zs vs H fun vs H=>k (v::vs) H:=by
 cases v<;>first |rfl |(exact absurd rfl h1) |(exact absurd rfl h2)
theorem Qgx {β:Type}{env:Env}{c:Ctx}:∀ {zs:List Nat} {vs ws:List SV} {H H':SH},QlL c zs vs H=some (ws,H')→∀ (k:List AV→Heap→β),QaA c zs (SV.embL env vs) (embH env H) k=k (SV.embL env ws) (embH env H')
 | [],vs,ws,H,H',h,k=>by
  cases vs<;>(simp only [QlL,osi,Prod.mk.injEq] at h; obtain ⟨rfl,rfl⟩:=h; rfl)
 | z::zs,[],ws,H,H',h,k=>by
  simp only [QlL,osi,Prod.mk.injEq] at h
  obtain ⟨rfl,rfl⟩:=h
  rfl
 | 0::zs,v::vs,ws,H,H',h,k=>by
  simp only [QlL] at h
  split at h
  ·rename_i h1
   simp only [osi,Prod.mk.injEq] at h
   obtain ⟨rfl,rfl⟩:=h
   show QaA c zs (SV.embL env vs) (embH env H) (fun vs H=>k (v.emb env::vs) H)=_
   rw [Qgx h1]
   rfl
  ·cases h
 | (z+1)::zs,v::vs,ws,H,H',h,k=>by
  simp only [QlL] at h
  split at h
  ·rename_i hn
   split at h
   ·rename_i t ht
    split at h
    ·rename_i h1
     simp only [osi,Prod.mk.injEq] at h
     obtain ⟨rfl,rfl⟩:=h
     have hb:embH env H++[.rows (c.ty z).size true (tg z [])]=embH env (H++[.rows (c.ty z).size t .nl]):=by rw [QdI]; rfl
     rcases QBk (env:=env) hn with e |e
     ·rw [SV.embL,e,QwC,hb,Qgx h1,Qba]
      rfl
     ·rw [SV.embL,e,Qy6,hb,Qgx h1,Qba]
      rfl
    ·cases h
   ·cases h
  ·rename_i hn
   split at h
   ·rename_i h1
    simp only [osi,Prod.mk.injEq] at h
    obtain ⟨rfl,rfl⟩:=h
    obtain ⟨a,b⟩:=Qzf (env:=env) hn
    rw [SV.embL,QtE c z zs _ _ _ _ a b,Qgx h1]
    rfl
   ·cases h
theorem QBl (env:Env)(d:SV)(l:List SV):oneOf (d.emb env) (SV.embL env l)=(QD5 d l).emb env:=by
 cases l with
 | nil=>rfl
 | cons a l=>cases l<;>rfl
theorem QDp {β:Type}{env:Env}{c:Ctx}{zs:List Nat}{v w:SV}{H H':SH}(h:QED c zs v H=some (w,H'))(k:AV→Heap→β):QoA c zs (v.emb env) (embH env H) k=k (w.emb env) (embH env H'):=by
 unfold QED at h
 split at h
 ·simp only [osi,Prod.mk.injEq] at h
  obtain ⟨rfl,rfl⟩:=h
  rfl
 ·rename_i hz
  split at h
  ·rename_i cs
   split at h
   ·rename_i h1
    simp only [osi,Prod.mk.injEq] at h
    obtain ⟨rfl,rfl⟩:=h
    cases zs with
    | nil=>exact absurd rfl hz
    | cons z zs=>
     show QoA c (z::zs) (.agg (SV.embL env cs)) (embH env H) k=_
     rw [QA0,Qgx h1]
     rfl
   ·cases h
  ·rename_i hv
   split at h
   ·rename_i h1
    simp only [osi,Prod.mk.injEq] at h
    obtain ⟨rfl,rfl⟩:=h
    cases zs with
    | nil=>exact absurd rfl hz
    | cons z zs=>
     have key:QaA c (z::zs) [v.emb env] (embH env H) (fun cs H=>k (oneOf (v.emb env) cs) H)=_:=Qgx (env:=env) (vs:=[v]) h1 _
     have:QoA c (z::zs) (v.emb env) (embH env H) k=QaA c (z::zs) [v.emb env] (embH env H) (fun cs H=>k (oneOf (v.emb env) cs) H):=by
      cases v<;>first |rfl |exact absurd rfl (hv _)
     rw [this,key,QBl]
   ·cases h
theorem Qx9 {β:Type}{env:Env}{c:Ctx}{nz:Nat→List Nat}:∀ {fr fr':SF} {H H':SH},QfJ c nz fr H=some (fr',H')→∀ (k:Fr→Heap→β),QlQ c nz (embF env fr) (embH env H) k=k (embF env fr') (embH env H')
 | [],fr',H,H',h,k=>by
  simp only [QfJ,osi,Prod.mk.injEq] at h
  obtain ⟨rfl,rfl⟩:=h
  rfl
 | p::r,fr',H,H',h,k=>by
  simp only [QfJ] at h
  split at h
  ·cases h
  ·rename_i v H1 h1
   split at h
   ·cases h
   ·rename_i r' H2 h2
    simp only [osi,Prod.mk.injEq] at h
    obtain ⟨rfl,rfl⟩:=h
    show QlQ c nz ((p.1,p.2.emb env)::embF env r) (embH env H) k=_
    rw [Qy5,QDp h1,Qx9 h2]
    rfl
theorem Qm5 {β:Type}{env:Env}{c:Ctx}{nz:Nat→List Nat}{mask m:Nat}{s s':SS}(h:QCZ c nz mask m s=some s')(k:St→Option β):(s.emb env).norm c nz mask m k=k (s'.emb env)∧s'.nx=s.nx∧s'.fs=s.fs:=by
 unfold QCZ at h
 split at h
 ·cases h
 ·rename_i fr H h1
  obtain ⟨a,b,d⟩:=Qm4 (env:=env) h k
  refine ⟨?_,b,d⟩
  rw [QGa]
  show QlQ c nz ((embF env s.fr).only mask) (embH env s.H) _=_
  rw [← QkP,Qx9 h1]
  exact a
theorem Qsy (env:Env)(keep:List Nat):∀ (i:Nat) (H:SH),Qgh keep i (embH env H)=Ql9 keep i H
 | _,[]=>rfl
 | i,k::r=>by
  have ih:=Qsy env keep (i+1) r
  cases k with
  | rows z t e=>
   show ifB (isIn i keep) (Qgh keep (i+1) (embH env r)) (i::Qgh keep (i+1) (embH env r))=(match isIn i keep with |true=>Ql9 keep (i+1) r |false=>i::Ql9 keep (i+1) r)
   rw [ih]
   cases isIn i keep<;>rfl
  | _=>exact ih
theorem Qsz (env:Env)(σ:Nat→Nat)(mv:List Nat):∀ (i:Nat) (H:SH),mvB σ mv i (embH env H)=embH env (Qtj σ mv i H)
 | _,[]=>rfl
 | i,x::r=>by
  show (if i∈mv then Blk.dead else (x.emb env).rn σ)::mvB σ mv (i+1) (embH env r)=(match isIn i mv with |true=>SB.dead |false=>x.ren σ).emb env::embH env (Qtj σ mv (i+1) r)
  rw [Qsz env σ mv (i+1) r,QlA]
  have:=Qgu i mv
  cases h:isIn i mv with
  | true=>rw [if_pos (this.mp h)]; rfl
  | false=>
   rw [if_neg fun hm=>by rw [this.mpr hm] at h; cases h]
theorem Qzg {β:Type}(env:Env)(args:List SV)(H:SH)(k:Heap→β):Quv (SV.embL env args) (embH env H) k=k (embH env (Qwk args H)):=by
 rw [Qqe]
 unfold Qwk
 simp only [QqA,Qsy,Qba,Qsz,QdI]
 congr 2
 simp only [embH,List.map_map,Function.comp_def]
 exact List.map_congr_left fun b _=>Qm3 env H b
end
end Go.Sy
