/- Of the models: a node alone, of the program, whole. -/
import Derived.Test.YtkecfadnfnnfaaaGreatDoorPlB5
set_option linter.unusedVariables false
set_option linter.unusedSimpArgs false
namespace Go.Proofs.YtkecfadnfnnfaaaGreatDoor.LabB
open Go Go.Ev Go.Sy
def kd (f:GFun)(v:Int):Int:=match (Qac f)[v.toNat]? with |some x=>x.1 |none=>0
def rdOf (f:GFun)(v:Int):Bool:=match (Qac f)[v.toNat]? with |some x=>x.2 |none=>false
def inR (f:GFun)(v:Int):Bool:=decide (0≤v∧v<((Qac f).length:Int))
def tyL (f:GFun)(hole:Int)(l:List Int)(ts:List Int):Bool:=decide (l.length=ts.length)&&allI (fun i v=>if (i:Int)=hole then decide (v = -1) else decide (0≤v)&&decide (some (kd f v)=ts[i]?)) 0 l
def fieldsOf (p:Qae)(t con:Int):Option (List Int):=if t<1∨con<0 then none else match (QgK p.1 t)[con.toNat]? with |some c=>some c.2 |none=>none
def QfN (p:Qae)(g:Int):Option (List Int):=match p.2[g.toNat]? with
 | none=>none
 | some h=>if fPar h<0∨((Qac h).length:Int)<fPar h then none else some (((Qac h).take (fPar h).toNat).map (·.1))
def Qib (p:Qae)(f:GFun)(g:Int)(l:List Int):Bool:=match QfN p g with |none=>false |some ts=>tyL f (-1) l ts
def QsR (p:Qae)(g:Int):Int:=match p.2[g.toNat]? with |some h=>fRes h |none=>0
def arg0 (n:Qab):Int:=match QaG n with |v::_=>v |[]=>0
def Qj5 (p:Qae)(f:GFun)(n:Qab):Bool:=
 if nOp n=0 then decide (kd f (arg0 n)=fRes f)
 else if nOp n=1 then decide (kd f (nVar n)=0)
 else if nOp n=2 then tyL f (-1) (QaG n) [0,0]&&decide (kd f (nVar n)=if nNum n<5 then 0 else 1)
 else if nOp n=3 then (match fieldsOf p (kd f (nVar n)) (nCon n) with |none=>false |some ts=>tyL f (-1) (QaG n) ts)
 else if nOp n=4 then decide (kd f (nVar n)=kd f (arg0 n))&&!flat p.1 (kd f (nVar n))
 else if nOp n=5 then !flat p.1 (kd f (arg0 n))
 else if nOp n=6 then Qib p f (nFun n) (QaG n)&&decide (kd f (nVar n)=QsR p (nFun n))
 else if nOp n=7 then Qib p f (nFun n) (QaG n)&&decide (fRes f=QsR p (nFun n))
 else if nOp n=8 then (match fieldsOf p (fRes f) (nCon n) with |none=>false |some ts=>decide (0≤nNum n∧nNum n<(ts.length:Int))&&tyL f (nNum n) (QaG n) ts&&Qib p f (nFun n) (Qbf n)&&decide (some (QsR p (nFun n))=ts[(nNum n).toNat]?))
 else !decide (kd f (arg0 n)<1)&&decide ((nBr n).length=(QgK p.1 (kd f (arg0 n))).length)&&!(Qlq n&&flat p.1 (kd f (arg0 n)))&&
  allI (fun i b=>match (QgK p.1 (kd f (arg0 n)))[i]? with |some c=>tyL f (-1) b.1 c.2 |none=>false) 0 (nBr n)
def Qmp (p:Qae)(f:GFun)(n:Qab):Bool:=(binds n).all fun v=>rdOf f v==(decide (nOp n=9)&&(!Qlq n&&!flat p.1 (kd f v)))
def Qje:List Bool→List Int→List Bool⊕List Bool
 | bo,[]=>.inr bo
 | bo,v::l=>if bo[v.toNat]?=some false then Qje (bo.set v.toNat true) l else .inl bo
def Qd0 (sc:List Bool)(l:List Int):Bool:=l.all fun v=>decide (0≤v∧sc[v.toNat]?=some true)
def Qmq (p:Qae)(n:Qab):Bool:=(fFun (nOp n)&&!decide (0≤nFun n∧nFun n<(p.2.length:Int)))||(decide (nOp n=2)&&!decide (0≤nNum n∧nNum n<8))
def Qj6 (p:Qae)(f:GFun)(sc bo:List Bool)(n:Qab):Int⊕List Bool:=
 if Qcd n=false then .inl 3
 else if Qd0 sc (uses n)=false then .inl 9
 else if (binds n).all (inR f)=false then .inl 2
 else if Qmq p n=true then .inl 2
 else match Qje bo (binds n) with
  | .inl _=>.inl 8
  | .inr bo'=>if Qj5 p f n=false then .inl 10 else if Qmp p f n=false then .inl 11 else .inr bo'
structure HOk (p:Qae)(f:GFun):Prop where
 par:0≤fPar f∧fPar f≤((Qac f).length:Int)
 res:isTy p.1 (fRes f)=true
 vars:∀ v∈Qac f,isTy p.1 v.1=true
theorem Qop {d:List Qai}{t:Int}:isTy d t=true↔0≤t∧t≤(d.length:Int):=by unfold isTy; rw [decide_eq_true_eq]
theorem HOk.kd {p:Qae}{f:GFun}(h:HOk p f)(v:Int):isTy p.1 (kd f v)=true:=by
 unfold LabB.kd
 split
 ·rename_i x hx; exact h.vars x (List.mem_of_getElem? hx)
 ·rw [Qop]; omega
theorem QDj (f:GFun){v:Int}(h0:0≤v)(h1:v<((Qac f).length:Int)):∃ x,at' (Qac f) v=some x∧(Qac f)[v.toNat]?=some x∧kd f v=x.1∧rdOf f v=x.2:=by
 obtain ⟨x,hx,hx'⟩:=Qeg h0 h1
 exact ⟨x,hx,hx',by unfold kd; rw [hx'],by unfold rdOf; rw [hx']⟩
section
variable (p:Qae) (f:GFun) (a b c:List Bool)
theorem Qmr {v:Int}(h0:0≤v)(h1:v<((Qac f).length:Int)):Qaq a b c p.1 p.2 f.1 f.2.1 f.2.2.1 f.2.2.2.1 f.2.2.2.2.1 f.2.2.2.2.2.1 f.2.2.2.2.2.2 v=some (kd f v):=by
 obtain ⟨x,hx,_,hk,_⟩:=QDj f h0 h1
 rw [QiA,show at' f.2.2.2.1 v=_ from hx,Qaa,hk]
theorem QBb (hd:QeA p.1){v:Int}(h0:0≤v)(h1:v<((Qac f).length:Int)):Qbl a b c p.1 p.2 f.1 f.2.1 f.2.2.1 f.2.2.2.1 f.2.2.2.2.1 f.2.2.2.2.2.1 f.2.2.2.2.2.2 v=some (flat p.1 (kd f v)):=by
 rw [QiB,Qmr p f a b c h0 h1,Qaa,Qp3 p.1 hd,Qaa]
theorem Qxf (hole:Int)(l ts:List Int)(hl:l.length≤9223372036854775807)(hr:∀ v∈l,0≤v→v<((Qac f).length:Int)):
  QcH a b c ts p.1 p.2 f.1 f.2.1 f.2.2.1 f.2.2.2.1 f.2.2.2.2.1 f.2.2.2.2.2.1 f.2.2.2.2.2.2 l hole=some (tyL f hole l ts):=by
 rw [Qj1]
 unfold tyL
 by_cases he:l.length=ts.length
 ·rw [Qad (by omega),Qc1 he,QjG (L:=fun i=>Qbe a b c ts p.1 p.2 f.1 f.2.1 f.2.2.1 f.2.2.2.1 f.2.2.2.2.1 f.2.2.2.2.2.1 f.2.2.2.2.2.2 hole l (l.length:Int) i) (l:=l) (p:=fun i v=>if (i:Int)=hole then decide (v = -1) else decide (0≤v)&&decide (some (kd f v)=ts[i]?)) (A:=.inl ()) (B:=.inr ()) (fun i v hv=>by
   have hi:=Qat hv
   have ht:ts[i]?=some ts[i]:=List.getElem?_eq_getElem (by omega)
   rw [QdX,Qaz hv,cond_true,Qao hv,Qaa,QaC hv hl]
   by_cases hh:(i:Int)=hole
   ·rw [Qad hh,if_pos hh,Qan]
   ·rw [Qaf hh,if_neg hh]
    by_cases h0:v<0
    ·rw [Qad h0,Qa7 (show ¬ 0≤v by omega)]; rfl
    ·obtain ⟨x,hx,_,hk,_⟩:=QDj f (show 0≤v by omega) (hr v (List.mem_of_getElem? hv) (by omega))
     rw [Qaf h0,show at' f.2.2.2.1 v=_ from hx,Qaa,Qao ht,Qaa,Qc1 (show 0≤v by omega),ht,hk,Qan]
     simp) (by rw [QdX,QaF,cond_false]),Qaa,Bool.true_and]
  cases allI _ _ _<;>rfl
 ·rw [Qaf (by omega),Qa7 he]; rfl
theorem Qp6 (hole:Int)(l ts:List Int)(hl:l.length≤9223372036854775807)(hr:∀ v∈l,0≤v→v<((Qac f).length:Int)):
  Qbn a b c p.1 p.2 f.1 f.2.1 f.2.2.1 f.2.2.2.1 f.2.2.2.2.1 f.2.2.2.2.2.1 f.2.2.2.2.2.2 l ts hole=some (tyL f hole l ts):=by
 rw [QiC]
 unfold tyL
 by_cases he:l.length=ts.length
 ·rw [Qad (by omega),Qc1 he,QjG (L:=fun i=>QaY a b c p.1 p.2 f.1 f.2.1 f.2.2.1 f.2.2.2.1 f.2.2.2.2.1 f.2.2.2.2.2.1 f.2.2.2.2.2.2 ts hole l (l.length:Int) i) (l:=l) (p:=fun i v=>if (i:Int)=hole then decide (v = -1) else decide (0≤v)&&decide (some (kd f v)=ts[i]?)) (A:=.inl ()) (B:=.inr ()) (fun i v hv=>by
   have hi:=Qat hv
   have ht:ts[i]?=some ts[i]:=List.getElem?_eq_getElem (by omega)
   rw [Qc0,Qaz hv,cond_true,Qao hv,Qaa,QaC hv hl]
   by_cases hh:(i:Int)=hole
   ·rw [Qad hh,if_pos hh,Qan]
   ·rw [Qaf hh,if_neg hh]
    by_cases h0:v<0
    ·rw [Qad h0,Qa7 (show ¬ 0≤v by omega)]; rfl
    ·obtain ⟨x,hx,_,hk,_⟩:=QDj f (show 0≤v by omega) (hr v (List.mem_of_getElem? hv) (by omega))
     rw [Qaf h0,show at' f.2.2.2.1 v=_ from hx,Qaa,Qao ht,Qaa,Qc1 (show 0≤v by omega),ht,hk,Qan]
     simp) (by rw [Qc0,QaF,cond_false]),Qaa,Bool.true_and]
  cases allI _ _ _<;>rfl
 ·rw [Qaf (by omega),Qa7 he]; rfl
theorem Qp7 {d:List Qai}{t:Int}(h1:¬ t<1)(h:t≤(d.length:Int)):∃ x,at' d (t - 1)=some x∧QgK d t=x.2∧x∈d:=by
 obtain ⟨x,hx,hx'⟩:=Qeg (l:=d) (i:=t - 1) (by omega) (by omega)
 exact ⟨x,hx,by unfold QgK; rw [if_neg h1,hx'],List.mem_of_getElem? hx'⟩
theorem Qp8 (hd:QeA p.1)(t con:Int)(ht:isTy p.1 t=true):Qci a b c p.1 p.2 f.1 f.2.1 f.2.2.1 f.2.2.2.1 f.2.2.2.2.1 f.2.2.2.2.2.1 f.2.2.2.2.2.2 t con=some (match fieldsOf p t con with |none=>.inl () |some ts=>.inr ts):=by
 rw [Qop] at ht
 have hl:=hd.len
 rw [Qjb]
 simp only [Qaj,Qaa,QaJ,Qbq]
 unfold fieldsOf
 by_cases h1:t<1∨con<0
 ·rw [if_pos h1,QcZ (by simp only [Bool.or_eq_true,decide_eq_true_eq]; exact h1)]; rfl
 ·rw [if_neg h1,QcM (by simp only [Bool.or_eq_false_iff,decide_eq_false_iff_not]; omega),QsP (by omega) (by omega)]
  obtain ⟨x,hx,hc,hm⟩:=Qp7 (d:=p.1) (t:=t) (by omega) (by omega)
  rw [hx,Qaa,hc,Qaa]
  rcases QsB x.2 con with ⟨h0,h2,y,hy,hy',_⟩ |⟨h2,hy⟩
  ·rw [Qc1 h2,Bool.not_true,cond_false,Qaa,hy,hy']; rfl
  ·rw [Qa7 (show ¬ con<(x.2.length:Int) by omega),List.getElem?_eq_none (by omega)]; rfl
theorem QvS (hp:Qj3 p)(g:Int)(h0:0≤g)(h1:g<(p.2.length:Int)):∃ l,QdL a b c p.1 p.2 f.1 f.2.1 f.2.2.1 f.2.2.2.1 f.2.2.2.2.1 f.2.2.2.2.2.1 f.2.2.2.2.2.2 g=some (l,(QfN p g).isSome)∧∀ ts,QfN p g=some ts→l=ts:=by
 obtain ⟨h,hh,hh'⟩:=Qeg h0 h1
 have hs:=hp.all h (List.mem_of_getElem? hh')
 have hv:=hs.vars
 rw [Qjd,hh,Qaa]
 simp only [Qaj,Qaa,Qbq]
 unfold QfN
 rw [hh']
 simp only
 by_cases hc:fPar h<0∨((Qac h).length:Int)<fPar h
 ·rw [if_pos hc,QcZ (by simp only [Bool.or_eq_true,decide_eq_true_eq]; exact hc)]
  exact ⟨_,rfl,fun ts h=>by cases h⟩
 ·rw [if_neg hc,QcM (by simp only [Bool.or_eq_false_iff,decide_eq_false_iff_not]; show ¬ fPar h<0∧¬ ((Qac h).length:Int)<fPar h; omega),Qaf (show ¬ fPar h<0 by omega),Qaf (show ¬ ((Qac h).length:Int)<fPar h by omega)]
  have hl:(List.take (fPar h).toNat (Qac h)).length≤1000000:=by rw [List.length_take]; exact Nat.le_trans (Nat.min_le_right _ _) hv
  have:=Qc8 (L:=fun s i=>Qa3 a b c s p.1 p.2 f.1 f.2.1 f.2.2.1 f.2.2.2.1 f.2.2.2.2.1 f.2.2.2.2.2.1 f.2.2.2.2.2.2 (List.take (fPar h).toNat (Qac h)) ((List.take (fPar h).toNat (Qac h)).length:Int) i) (l:=List.take (fPar h).toNat (Qac h)) (F:=fun s x=>s++[x.1]) (E:=id) (fun i s=>s.length≤i)
   (fun s i x hx hI=>⟨by
    have:=Qat hx
    rw [Qdv,Qaz hx,cond_true,Qao hx,Qaa,Qad (by omega),QaC hx (by omega)],by simp; omega⟩)
   (fun s hI=>by rw [Qdv,QaF,cond_false]; rfl) [] (by simp)
  rw [show Qa3 a b c [] p.1 p.2 f.1 f.2.1 f.2.2.1 f.2.2.2.1 f.2.2.2.2.1 f.2.2.2.2.2.1 f.2.2.2.2.2.2 (List.take h.2.1.toNat h.2.2.2.1) ((List.take h.2.1.toNat h.2.2.2.1).length:Int) 0=_ from this,Qkt]
  exact ⟨_,rfl,fun ts h=>by simp only [Option.some.injEq] at h; rw [← h]; rfl⟩
theorem Qp9 (hp:Qj3 p)(g:Int)(l:List Int)(h0:0≤g)(h1:g<(p.2.length:Int))(hl:l.length≤9223372036854775807)(hr:∀ v∈l,0≤v→v<((Qac f).length:Int)):Qca a b c p.1 p.2 f.1 f.2.1 f.2.2.1 f.2.2.2.1 f.2.2.2.2.1 f.2.2.2.2.2.1 f.2.2.2.2.2.2 g l=some (Qib p f g l):=by
 obtain ⟨ts,h2,h3⟩:=QvS p f a b c hp g h0 h1
 rw [QkE,h2,Qaa]
 unfold Qib
 cases hpo:QfN p g with
 | none=>rfl
 | some ts'=>
  rw [h3 ts' hpo]
  simp only [Option.isSome_some,cond_true]
  rw [Qxf p f a b c (-1) l ts' hl hr]
  rfl
theorem QBc (p:Qae){g:Int}(h0:0≤g)(h1:g<(p.2.length:Int)):∃ h,at' p.2 g=some h∧QsR p g=h.2.2.1:=by
 obtain ⟨h,hh,hh'⟩:=Qeg h0 h1
 exact ⟨h,hh,by unfold QsR; rw [hh']⟩
theorem QvT (hp:Qj3 p)(t:Int)(ht:isTy p.1 t=true)(h1:¬ t<1)(l:List Qak)(hl:l.length≤1000)(hc:l.length=(QgK p.1 t).length)(hbl:∀ x∈l,x.1.length≤1073741824)(hr:∀ x∈l,∀ v∈x.1,0≤v→v<((Qac f).length:Int)):
  QaR a b c p.1 p.2 f.1 f.2.1 f.2.2.1 f.2.2.2.1 f.2.2.2.2.1 f.2.2.2.2.2.1 f.2.2.2.2.2.2 t l (l.length:Int) 0=some (if allI (fun i x=>match (QgK p.1 t)[i]? with |some c=>tyL f (-1) x.1 c.2 |none=>false) 0 l=true then .inr () else .inl ()):=by
 rw [Qop] at ht
 have hdl:=hp.Qj4.len
 obtain ⟨x,hx,hco,_⟩:=Qp7 (d:=p.1) (t:=t) h1 ht.2
 refine QjG (L:=fun i=>QaR a b c p.1 p.2 f.1 f.2.1 f.2.2.1 f.2.2.2.1 f.2.2.2.2.1 f.2.2.2.2.2.1 f.2.2.2.2.2.2 t l (l.length:Int) i) (fun i y hy=>?_) ?_
 ·have hm:=List.mem_of_getElem? hy
  have hi:=Qat hy
  have hi2:i<x.2.length:=by rw [← hco]; omega
  have hci:x.2[i]?=some x.2[i]:=List.getElem?_eq_getElem hi2
  rw [QdY,Qaz hy,cond_true,Qao hy,Qaa,QsP (by omega) (by omega),hx,Qaa,Qao hci,Qaa,Qp6 p f a b c (-1) y.1 _ (by have:=hbl y hm; omega) (hr y hm),Qaa,QaC hy (by omega),hco,hci,Qan]
 ·rw [QdY,QaF,cond_false]
theorem QEV (n:Qab)(h:QaG n≠[]):at' (QaG n) 0=some (arg0 n)∧arg0 n∈QaG n:=by
 unfold arg0
 cases hn:QaG n with
 | nil=>exact absurd hn h
 | cons v l=>exact ⟨at_0 v l,by simp⟩
theorem QyC (hp:Qj3 p)(ho:HOk p f)(n:Qab)(hn:QaQ n)(hform:Qcd n=true)(hu:∀ v∈uses n,0≤v∧v<((Qac f).length:Int))(hb:∀ v∈binds n,0≤v∧v<((Qac f).length:Int))(hbad:Qmq p n=false):
  QaO a b c p.1 p.2 f.1 f.2.1 f.2.2.1 f.2.2.2.1 f.2.2.2.2.1 f.2.2.2.2.2.1 f.2.2.2.2.2.2 n=some (Qj5 p f n):=by
 unfold Qcd at hform
 simp only [Bool.and_eq_true,decide_eq_true_eq,Bool.or_eq_true] at hform
 obtain ⟨⟨⟨⟨⟨⟨⟨⟨⟨hop,hargs⟩,_⟩,_⟩,_⟩,_⟩,_⟩,_⟩,_⟩,_⟩:=hform
 unfold Qmq at hbad
 rw [Bool.or_eq_false_iff] at hbad
 obtain ⟨hbad,hbad2⟩:=hbad
 have hd:=hp.Qj4
 have hdl:=hd.len
 have ha:=hn.args
 have hm:=hn.more
 have hone:(nOp n=0∨nOp n=4∨nOp n=5∨nOp n=9)→at' (QaG n) 0=some (arg0 n)∧0≤arg0 n∧arg0 n<((Qac f).length:Int):=by
  intro h
  have h1:fArgs (nOp n)=1:=by unfold fArgs; rw [if_pos h]
  rw [h1] at hargs
  have hne:QaG n≠[]:=by intro he; rw [he] at hargs; simp at hargs
  obtain ⟨h2,h3⟩:=QEV n hne
  refine ⟨h2,hu _ ?_⟩
  unfold uses
  rw [if_neg (by omega),if_neg (by omega)]
  exact h3
 have hall:nOp n≠8→nOp n≠1→∀ v∈QaG n,0≤v→v<((Qac f).length:Int):=fun h8 h1 v hv _=>(hu v (by unfold uses; rw [if_neg (by omega),if_neg h8]; exact hv)).2
 have hvar:QaS (nOp n)=true→0≤nVar n∧nVar n<((Qac f).length:Int):=by
  intro h
  apply hb
  unfold binds
  have h9:nOp n≠9:=by unfold QaS at h; rw [decide_eq_true_eq] at h; omega
  rw [if_neg h9,if_pos h]
  simp
 have hfun:fFun (nOp n)=true→0≤nFun n∧nFun n<(p.2.length:Int):=by
  intro h
  rw [h] at hbad
  simpa using hbad
 rw [Qj0]
 unfold Qj5
 by_cases h0:nOp n=0
 ·obtain ⟨h1,h2,h3⟩:=hone (by omega)
  rw [Qad h0,if_pos h0,show at' n.2.2.1 0=_ from h1,Qaa,Qmr p f a b c h2 h3]
  rfl
 rw [Qaf h0,if_neg h0]
 by_cases h1:nOp n=1
 ·obtain ⟨h2,h3⟩:=hvar (by rw [h1]; rfl)
  rw [Qad h1,if_pos h1,Qmr p f a b c h2 h3]
  rfl
 rw [Qaf h1,if_neg h1]
 by_cases h2:nOp n=2
 ·obtain ⟨h3,h4⟩:=hvar (by rw [h2]; rfl)
  rw [Qad h2,if_pos h2,Qyi,Qaa,Qxf p f a b c (-1) n.2.2.1 [0,0] (by have:n.2.2.1.length≤1000:=ha; omega) (hall (by omega) h1),Qmr p f a b c h3 h4]
  simp only [Qaa,Qaj,Qdx]
  rw [QFI]
 rw [Qaf h2,if_neg h2]
 by_cases h3:nOp n=3
 ·obtain ⟨h4,h5⟩:=hvar (by rw [h3]; rfl)
  rw [Qad h3,if_pos h3,Qmr p f a b c h4 h5,Qaa,Qp8 p f a b c hd _ _ (ho.kd _),Qaa]
  show _=some (match fieldsOf p (kd f n.2.1) n.2.2.2.1 with |none=>false |some ts=>tyL f (-1) (QaG n) ts)
  cases fieldsOf p (kd f n.2.1) n.2.2.2.1 with
  | none=>rfl
  | some ts=>
   simp only
   rw [Qp6 p f a b c (-1) n.2.2.1 ts (by have:n.2.2.1.length≤1000:=ha; omega) (hall (by omega) h1)]
   rfl
 rw [Qaf h3,if_neg h3]
 by_cases h4:nOp n=4
 ·obtain ⟨h5,h6⟩:=hvar (by rw [h4]; rfl)
  obtain ⟨h7,h8,h9⟩:=hone (by omega)
  rw [Qad h4,if_pos h4,show at' n.2.2.1 0=_ from h7,Qaa,Qmr p f a b c h5 h6,Qmr p f a b c h8 h9,Qaa,Qaa,QBb p f a b c hd h5 h6,Qaa,Qaj,Qdx]
 rw [Qaf h4,if_neg h4]
 by_cases h5:nOp n=5
 ·obtain ⟨h7,h8,h9⟩:=hone (by omega)
  rw [Qad h5,if_pos h5,show at' n.2.2.1 0=_ from h7,Qaa,QBb p f a b c hd h8 h9,Qaa]
 rw [Qaf h5,if_neg h5]
 by_cases h6:nOp n=6
 ·obtain ⟨h7,h8⟩:=hvar (by rw [h6]; rfl)
  obtain ⟨h9,h10⟩:=hfun (by rw [h6]; rfl)
  obtain ⟨g,hg,hres⟩:=QBc p h9 h10
  rw [Qad h6,if_pos h6,Qp9 p f a b c hp _ n.2.2.1 h9 h10 (by have:n.2.2.1.length≤1000:=ha; omega) (hall (by omega) h1),Qaa,Qmr p f a b c h7 h8,show at' p.2 n.2.2.2.2.2.1=_ from hg,Qaa,Qaa,Qaj,Qdx,← hres]
 rw [Qaf h6,if_neg h6]
 by_cases h7:nOp n=7
 ·obtain ⟨h9,h10⟩:=hfun (by rw [h7]; rfl)
  obtain ⟨g,hg,hres⟩:=QBc p h9 h10
  rw [Qad h7,if_pos h7,Qp9 p f a b c hp _ n.2.2.1 h9 h10 (by have:n.2.2.1.length≤1000:=ha; omega) (hall (by omega) h1),Qaa,show at' p.2 n.2.2.2.2.2.1=_ from hg,Qaa,Qaj,Qdx,← hres]
 rw [Qaf h7,if_neg h7]
 by_cases h8:nOp n=8
 ·obtain ⟨h9,h10⟩:=hfun (by rw [h8]; rfl)
  obtain ⟨g,hg,hres⟩:=QBc p h9 h10
  have hv:∀ v∈QaG n++Qbf n,0≤v→v<((Qac f).length:Int):=fun v hv h0=>(hu v (by unfold uses; rw [if_neg (by omega),if_pos h8,List.mem_filter]; exact ⟨hv,by simpa using h0⟩)).2
  rw [Qad h8,if_pos h8,Qp8 p f a b c hd _ _ ho.res,Qaa]
  show _=some (match fieldsOf p f.2.2.1 n.2.2.2.1 with |none=>false |some ts=>decide (0≤nNum n∧nNum n<(ts.length:Int))&&tyL f (nNum n) (QaG n) ts&&Qib p f (nFun n) (Qbf n)&&decide (some (QsR p (nFun n))=ts[(nNum n).toNat]?))
  cases fieldsOf p f.2.2.1 n.2.2.2.1 with
  | none=>rfl
  | some ts=>
   simp only [Qaj,Qaa,Qbq]
   rw [Qp6 p f a b c _ n.2.2.1 ts (by have:n.2.2.1.length≤1000:=ha; omega) (fun v h=>hv v (by simp; exact Or.inl h)),Qp9 p f a b c hp _ n.2.2.2.2.2.2.1 h9 h10 (by have:n.2.2.2.2.2.2.1.length≤1000:=hm; omega) (fun v h=>hv v (by simp; exact Or.inr h)),show at' p.2 n.2.2.2.2.2.1=_ from hg]
   simp only [Qaj,Qaa,Qbq,QaJ]
   by_cases hnum:0≤nNum n∧nNum n<(ts.length:Int)
   ·obtain ⟨t,ht,ht'⟩:=Qeg hnum.1 hnum.2
    rw [Qc1 hnum,show decide (n.2.2.2.2.1<0)=false from Qa7 (show ¬ nNum n<0 by omega),show decide (n.2.2.2.2.1<(ts.length:Int))=true from Qc1 hnum.2,show at' ts n.2.2.2.2.1=_ from ht,ht',hres]
    simp only [Bool.not_true,Bool.or_false,cond_false,Bool.true_and,Qaa,Option.some.injEq]
    show (bif !(tyL f (nNum n) (QaG n) ts) then some false else bif Qib p f (nFun n) (Qbf n) then some (decide (g.2.2.1=t)) else some false)=_
    cases tyL f (nNum n) (QaG n) ts<;>cases Qib p f (nFun n) (Qbf n)<;>rfl
   ·rw [Qa7 hnum,show (decide (n.2.2.2.2.1<0)||!decide (n.2.2.2.2.1<(ts.length:Int)))=true by
     rw [Bool.or_eq_true,Bool.not_eq_true',decide_eq_true_eq,decide_eq_false_iff_not]; show nNum n<0∨¬ nNum n<(ts.length:Int); omega]
    rfl
 rw [Qaf h8,if_neg h8]
 obtain ⟨h9,h10,h11⟩:=hone (by omega)
 rw [show at' n.2.2.1 0=_ from h9,Qaa,Qmr p f a b c h10 h11,Qaa,QBb p f a b c hd h10 h11]
 have hty:=ho.kd (arg0 n)
 have hty':=hty
 rw [Qop] at hty'
 by_cases ht1:kd f (arg0 n)<1
 ·rw [Qad ht1,Qc1 ht1]; rfl
 ·rw [Qaf ht1,Qa7 ht1,QsP (by omega) (by omega)]
  obtain ⟨x,hx,hco,_⟩:=Qp7 (d:=p.1) (t:=kd f (arg0 n)) ht1 hty'.2
  rw [hx,Qaa]
  by_cases hlen:(nBr n).length=(QgK p.1 (kd f (arg0 n))).length
  ·have h9:nOp n=9:=by omega
   have hbr:∀ x∈nBr n,∀ v∈x.1,0≤v→v<((Qac f).length:Int):=fun x hx v hv _=>(hb v (by unfold binds; rw [if_pos h9,List.mem_flatMap]; exact ⟨x,hx,hv⟩)).2
   rw [Qc1 hlen,Qad (show ((n.2.2.2.2.2.2.2.2.1.length:Int)=(x.2.length:Int)) by rw [← hco]; exact congrArg _ hlen),QvT p f a b c hp _ hty ht1 n.2.2.2.2.2.2.2.2.1 hn.br hlen hn.bs hbr]
   simp only [Qaa,Bool.not_false,Bool.true_and]
   show (bif Qlq n then _ else _)=some (!(Qlq n&&flat p.1 (kd f (arg0 n)))&&_)
   cases Qlq n<;>cases flat p.1 (kd f (arg0 n))<;>simp only [cond_true,cond_false,Bool.and_true,Bool.and_false,Bool.true_and,Bool.false_and,Bool.not_true,Bool.not_false]<;>(first |rfl |(cases allI _ 0 _<;>rfl))
  ·rw [Qa7 hlen,Qaf (show ¬ ((n.2.2.2.2.2.2.2.2.1.length:Int)=(x.2.length:Int)) by rw [← hco]; show ¬ (((nBr n).length:Int)=_); omega)]
   simp
end
end Go.Proofs.YtkecfadnfnnfaaaGreatDoor.LabB
namespace Go.Proofs.YtkecfadnfnnfaaaGreatDoor.LabB
open Go Go.Ev Go.Sy
theorem Quk:∀ (l:List Int) (bo:List Bool) (i:Nat),runI (fun _ s v=>if s[v.toNat]?=some false then .inl (s.set v.toNat true) else .inr (.inl s)) (fun s=>(.inr s:List Bool⊕List Bool)) i bo l=Qje bo l
 | [],bo,i=>rfl
 | v::l,bo,i=>by
  rw [runI,Qje]
  by_cases h:bo[v.toNat]?=some false
  ·rw [if_pos h,if_pos h]; exact Quk l _ _
  ·rw [if_neg h,if_neg h]
theorem tf:¬ (true=false):=by simp
theorem ft:¬ (false=true):=by simp
section
variable (p:Qae) (f:GFun) (a b c:List Bool)
theorem QF5 (n:Qab)(l:List Int)(hl:l.length≤9223372036854775807):Qbc a b c p.1 p.2 f.1 f.2.1 f.2.2.1 f.2.2.2.1 f.2.2.2.2.1 f.2.2.2.2.2.1 f.2.2.2.2.2.2 n l (l.length:Int) 0=some (if Qd0 c l=true then .inr () else .inl ()):=by
 refine Qcf (L:=fun i=>Qbc a b c p.1 p.2 f.1 f.2.1 f.2.2.1 f.2.2.2.1 f.2.2.2.2.1 f.2.2.2.2.2.1 f.2.2.2.2.2.2 n l (l.length:Int) i) (p:=fun (v:Int)=>decide (0≤v∧c[v.toNat]?=some true)) (fun i v hv=>?_) ?_
 ·rw [QdV,Qaz hv,cond_true,Qao hv,QaC hv hl]
  simp only [Qaa,Qaj,Qbq]
  rcases QsB c v with ⟨h0,h1,y,hy,hy',_⟩ |⟨h1,hy⟩
  ·rw [Qa7 (show ¬ v<0 by omega),Qc1 h1,hy,hy']
   cases y<;>simp [Qaa,h0]
  ·have hz:(decide (v<0)||!decide (v<(c.length:Int)))=true:=by
    rw [Bool.or_eq_true,Bool.not_eq_true',decide_eq_true_eq,decide_eq_false_iff_not]; omega
   rw [hz,cond_true,Qaa,cond_true,if_neg (by
    rw [decide_eq_true_eq]
    rintro ⟨h2,h3⟩
    have:=Qat h3
    omega)]
 ·rw [QdV,QaF,cond_false]
theorem QF6 (n:Qab)(bs l:List Int)(hl:l.length≤9223372036854775807):Qbd a b c p.1 p.2 f.1 f.2.1 f.2.2.1 f.2.2.2.1 f.2.2.2.2.1 f.2.2.2.2.2.1 f.2.2.2.2.2.2 n bs l (l.length:Int) 0=some (if l.all (inR f)=true then .inr () else .inl ()):=by
 refine Qcf (L:=fun i=>Qbd a b c p.1 p.2 f.1 f.2.1 f.2.2.1 f.2.2.2.1 f.2.2.2.2.1 f.2.2.2.2.2.1 f.2.2.2.2.2.2 n bs l (l.length:Int) i) (p:=inR f) (fun i v hv=>?_) ?_
 ·rw [QdW,Qaz hv,cond_true,Qao hv,QaC hv hl]
  simp only [Qaa,Qaj,Qbq]
  unfold inR
  by_cases h:0≤v∧v<((Qac f).length:Int)
  ·rw [Qc1 h,if_pos rfl,Qa7 (show ¬ v<0 by omega),show decide (v<(f.2.2.2.1.length:Int))=true from Qc1 h.2]; rfl
  ·rw [Qa7 h,if_neg (by simp),show (decide (v<0)||!decide (v<(f.2.2.2.1.length:Int)))=true by
    rw [Bool.or_eq_true,Bool.not_eq_true',decide_eq_true_eq,decide_eq_false_iff_not]; show v<0∨¬ v<((Qac f).length:Int); omega]
   rfl
 ·rw [QdW,QaF,cond_false]
theorem QF7 (n:Qab)(bs l:List Int)(hl:l.length≤9223372036854775807)(hr:∀ v∈l,0≤v∧v<((Qac f).length:Int))(hb:b.length=(Qac f).length):Qay a b c p.1 p.2 f.1 f.2.1 f.2.2.1 f.2.2.2.1 f.2.2.2.2.1 f.2.2.2.2.2.1 f.2.2.2.2.2.2 n bs l (l.length:Int) 0=some (Qje b l):=by
 rw [← Quk l b 0]
 refine Qsz (L:=fun s i=>Qay a s c p.1 p.2 f.1 f.2.1 f.2.2.1 f.2.2.2.1 f.2.2.2.2.1 f.2.2.2.2.2.1 f.2.2.2.2.2.2 n bs l (l.length:Int) i) (fun _ s=>s.length=(Qac f).length) (fun s i v hv hI=>?_) (fun s hI=>?_) b hb
 ·obtain ⟨h0,h1⟩:=hr v (List.mem_of_getElem? hv)
  have hI':s.length=(Qac f).length:=hI
  obtain ⟨y,hy,hy'⟩:=Qeg (l:=s) h0 (by omega)
  cases y with
  | true=>
   rw [if_neg (by rw [hy']; simp)]
   show Qay a s c p.1 p.2 f.1 f.2.1 f.2.2.1 f.2.2.2.1 f.2.2.2.2.1 f.2.2.2.2.2.1 f.2.2.2.2.2.2 n bs l (l.length:Int) (i:Int)=some (.inl s)
   rw [Qcb,Qaz hv,cond_true,Qao hv,Qaa,hy,Qaa,cond_true]
  | false=>
   rw [if_pos hy']
   refine ⟨?_,by simpa using hI⟩
   rw [Qcb,Qaz hv,cond_true,Qao hv,Qaa,hy,Qaa,cond_false,QaC hv hl]
 ·rw [Qcb,QaF,cond_false]
theorem QF8 (hd:QeA p.1)(n:Qab)(l:List Int)(hl:l.length≤9223372036854775807)(hr:∀ v∈l,0≤v∧v<((Qac f).length:Int)):Qam a b c p.1 p.2 f.1 f.2.1 f.2.2.1 f.2.2.2.1 f.2.2.2.2.1 f.2.2.2.2.2.1 f.2.2.2.2.2.2 n l (l.length:Int) 0=some (if (l.all fun v=>rdOf f v==(decide (nOp n=9)&&(!Qlq n&&!flat p.1 (kd f v))))=true then .inr () else .inl ()):=by
 refine Qcf (L:=fun i=>Qam a b c p.1 p.2 f.1 f.2.1 f.2.2.1 f.2.2.2.1 f.2.2.2.2.1 f.2.2.2.2.2.1 f.2.2.2.2.2.2 n l (l.length:Int) i) (p:=fun v=>rdOf f v==(decide (nOp n=9)&&(!Qlq n&&!flat p.1 (kd f v)))) (fun i v hv=>?_) ?_
 ·obtain ⟨h0,h1⟩:=hr v (List.mem_of_getElem? hv)
  obtain ⟨x,hx,_,hk,hrd⟩:=QDj f h0 h1
  rw [QdZ,Qaz hv,cond_true,Qao hv,Qaa,show at' f.2.2.2.1 v=_ from hx,Qaa,Qp3 p.1 hd,Qaa,QaC hv hl,hk,hrd]
  show (bif decide (nOp n=9) then bif Qlq n then _ else _ else _)=_
  cases decide (nOp n=9)<;>cases Qlq n<;>cases x.2<;>cases flat p.1 x.1<;>rfl
 ·rw [QdZ,QaF,cond_false]
theorem Qoq (n:Qab)(h:QaQ n):(uses n).length≤2000:=by
 have ha:=h.args
 have hm:=h.more
 unfold uses
 split
 ·simp
 ·split
  ·have:=List.length_filter_le (fun v=>decide (0≤v)) (QaG n++Qbf n)
   rw [List.length_append] at this
   omega
  ·omega
theorem Qqa {α β:Type}(g:α→List β)(K:Nat):∀ l:List α,(∀ x∈l,(g x).length≤K)→(l.flatMap g).length≤l.length * K
 | [],h=>by simp
 | x::l,h=>by
  have h1:=h x (by simp)
  have h2:=Qqa g K l (fun y hy=>h y (by simp [hy]))
  rw [List.flatMap_cons,List.length_append,List.length_cons,Nat.add_mul]
  omega
theorem QBd (n:Qab)(h:QaQ n):(binds n).length≤1073741824000:=by
 have hb:=h.br
 unfold binds
 split
 ·have:=Qqa (fun b:Qak=>b.1) 1073741824 (nBr n) h.bs
  omega
 ·split<;>simp
theorem QyD (hp:Qj3 p)(ho:HOk p f)(n:Qab)(hn:QaQ n)(hb:b.length=(Qac f).length)(hc:c.length=(Qac f).length):
  ∃ b' e,Qen a b c p.1 p.2 f.1 f.2.1 f.2.2.1 f.2.2.2.1 f.2.2.2.2.1 f.2.2.2.2.2.1 f.2.2.2.2.2.2 n=some (b',e)∧(match Qj6 p f c b n with | .inl e'=>e=e'∧e'≠0 | .inr bo'=>e=0∧b'=bo'):=by
 have hul:=Qoq n hn
 have hbl:=QBd n hn
 rw [QjX,QA2,Qaa]
 unfold Qj6
 cases hform:Qcd n with
 | false=>exact ⟨_,_,rfl,rfl,by decide⟩
 | true=>
  rw [cond_true,Qmn n hn,Qaa,QF5 p f a b c n _ (by omega),Qaa,if_neg tf]
  cases hu:Qd0 c (uses n) with
  | false=>exact ⟨_,_,rfl,rfl,by decide⟩
  | true=>
   rw [if_pos (show true=true from rfl),QfR n hn]
   simp only [Qaa]
   rw [QF6 p f a b c n _ _ (by omega),Qaa,if_neg tf]
   cases hr:(binds n).all (inR f) with
   | false=>exact ⟨_,_,rfl,rfl,by decide⟩
   | true=>
    rw [if_pos (show true=true from rfl)]
    simp only
    have hop:0≤nOp n∧nOp n<10:=by
     unfold Qcd at hform
     simp only [Bool.and_eq_true,decide_eq_true_eq] at hform
     exact hform.1.1.1.1.1.1.1.1.1
    rw [Qmi,Qaa,Qxd n.1 hop,Qaa,if_neg tf]
    have hr':∀ v∈binds n,0≤v∧v<((Qac f).length:Int):=fun v hv=>by
     have:=List.all_eq_true.1 hr v hv
     unfold inR at this
     simpa using this
    have hu':∀ v∈uses n,0≤v∧v<((Qac f).length:Int):=fun v hv=>by
     have:=List.all_eq_true.1 hu v hv
     rw [decide_eq_true_eq] at this
     have:=Qat this.2
     omega
    rw [QF7 p f a b c n _ _ (by omega) hr' hb]
    show ∃ b' e,(bif fFun (nOp n) then _ else _)=some (b',e)∧_
    cases hbad:Qmq p n with
    | true=>
     rw [if_pos (show true=true from rfl)]
     refine ⟨b,2,?_,rfl,by decide⟩
     unfold Qmq at hbad
     rw [Bool.or_eq_true] at hbad
     cases hff:fFun (nOp n) with
     | true=>
      have h2:nOp n≠2:=by unfold fFun at hff; rw [decide_eq_true_eq] at hff; omega
      rw [hff,Qa7 h2] at hbad
      simp only [Bool.true_and,Bool.false_and,Bool.false_eq_true,or_false,Bool.not_eq_true',decide_eq_false_iff_not] at hbad
      rw [cond_true]
      by_cases h0:nFun n<0
      ·rw [Qad h0]
      ·rw [Qaf h0,Qaf (show ¬ nFun n<(p.2.length:Int) by omega)]
     | false=>
      rw [hff] at hbad
      simp only [Bool.false_and,Bool.false_eq_true,false_or,Bool.and_eq_true,decide_eq_true_eq,Bool.not_eq_true',decide_eq_false_iff_not] at hbad
      rw [cond_false,Qad hbad.1]
      by_cases h0:nNum n<0
      ·rw [Qad h0]
      ·rw [Qaf h0,Qaf (show ¬ nNum n<8 by omega)]
    | false=>
     rw [if_neg ft]
     have key:∀ bo,Qje b (binds n)=.inr bo→QaO a bo c p.1 p.2 f.1 f.2.1 f.2.2.1 f.2.2.2.1 f.2.2.2.2.1 f.2.2.2.2.2.1 f.2.2.2.2.2.2 n=some (Qj5 p f n):=fun bo _=>QyC p f a bo c hp ho n hn hform hu' hr' hbad
     have key6:∀ bo,Qam a bo c p.1 p.2 f.1 f.2.1 f.2.2.1 f.2.2.2.1 f.2.2.2.2.1 f.2.2.2.2.2.1 f.2.2.2.2.2.2 n (binds n) ((binds n).length:Int) 0=some (if Qmp p f n=true then .inr () else .inl ()):=fun bo=>QF8 p f a bo c hp.Qj4 n _ (by omega) hr'
     unfold Qmq at hbad
     rw [Bool.or_eq_false_iff] at hbad
     obtain ⟨hbad1,hbad2⟩:=hbad
     have tail:∃ b' e,(Option.bind (some (Qje b (binds n))) fun z=>match z with
       | .inl v17=>some (v17,(8:Int))
       | .inr v17=>Option.bind (QaO a v17 c p.1 p.2 f.1 f.2.1 f.2.2.1 f.2.2.2.1 f.2.2.2.2.1 f.2.2.2.2.2.1 f.2.2.2.2.2.2 n) fun v18=>bif v18 then
         Option.bind (Qam a v17 c p.1 p.2 f.1 f.2.1 f.2.2.1 f.2.2.2.1 f.2.2.2.2.1 f.2.2.2.2.2.1 f.2.2.2.2.2.2 n (binds n) ((binds n).length:Int) 0) fun z=>match z with
          | .inl _=>some (v17,11)
          | .inr _=>some (v17,0)
        else some (v17,10))=some (b',e)∧(match (match Qje b (binds n) with
        | .inl _=>(.inl 8:Int⊕List Bool)
        | .inr bo'=>if Qj5 p f n=false then .inl 10 else if Qmp p f n=false then .inl 11 else .inr bo') with | .inl e'=>e=e'∧e'≠0 | .inr bo'=>e=0∧b'=bo'):=by
      rw [Qaa]
      cases hm:Qje b (binds n) with
      | inl bo=>exact ⟨_,_,rfl,rfl,by decide⟩
      | inr bo=>
       simp only
       rw [key bo hm,Qaa,key6 bo]
       cases Qj5 p f n with
       | false=>exact ⟨_,_,rfl,rfl,by decide⟩
       | true=>
        cases Qmp p f n with
        | false=>exact ⟨_,_,rfl,rfl,by decide⟩
        | true=>exact ⟨_,_,rfl,rfl,rfl⟩
     cases hff:fFun (nOp n) with
     | true=>
      rw [hff] at hbad1
      simp only [Bool.true_and,Bool.not_eq_false',decide_eq_true_eq] at hbad1
      have h2:nOp n≠2:=by unfold fFun at hff; rw [decide_eq_true_eq] at hff; omega
      rw [cond_true,Qaf (show ¬ nFun n<0 by omega),Qad (show nFun n<(p.2.length:Int) from hbad1.2),Qaf h2]
      exact tail
     | false=>
      rw [cond_false]
      by_cases h2:nOp n=2
      ·rw [Qc1 h2] at hbad2
       simp only [Bool.true_and,Bool.not_eq_false',decide_eq_true_eq] at hbad2
       rw [Qad h2,Qaf (show ¬ nNum n<0 by omega),Qad (show nNum n<8 from hbad2.2)]
       exact tail
      ·rw [Qaf h2]
       exact tail
end
end Go.Proofs.YtkecfadnfnnfaaaGreatDoor.LabB
