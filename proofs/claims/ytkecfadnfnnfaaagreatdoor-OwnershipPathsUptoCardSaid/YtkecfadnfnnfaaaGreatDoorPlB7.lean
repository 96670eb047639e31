/- Of the models: a node alone, of the program, whole. -/
import Derived.Test.YtkecfadnfnnfaaaGreatDoorPlB5
set_option linter.unusedVariables false
set_option linter.unusedSimpArgs false
namespace Go.Proofs.YtkecfadnfnnfaaaGreatDoor.LabB
open Go Go.Ev Go.Sy
def kd (f:GFun)(v:Int):Int:=match (Qaf f)[v.toNat]? with |some x=>x.1 |none=>0
def rdOf (f:GFun)(v:Int):Bool:=match (Qaf f)[v.toNat]? with |some x=>x.2 |none=>false
def inR (f:GFun)(v:Int):Bool:=decide (0≤v∧v<((Qaf f).length:Int))
def tyL (f:GFun)(hole:Int)(l:List Int)(ts:List Int):Bool:=decide (l.length=ts.length)&&allI (fun i v=>if (i:Int)=hole then decide (v = -1) else decide (0≤v)&&decide (some (kd f v)=ts[i]?)) 0 l
def fieldsOf (p:Qae)(t con:Int):Option (List Int):=if t<1∨con<0 then none else match (Qhs p.1 t)[con.toNat]? with |some c=>some c.2 |none=>none
def Qk7 (p:Qae)(g:Int):Option (List Int):=match p.2[g.toNat]? with
 | none=>none
 | some h=>if fPar h<0∨((Qaf h).length:Int)<fPar h then none else some (((Qaf h).take (fPar h).toNat).map (·.1))
def Qla (p:Qae)(f:GFun)(g:Int)(l:List Int):Bool:=match Qk7 p g with |none=>false |some ts=>tyL f (-1) l ts
def Qx2 (p:Qae)(g:Int):Int:=match p.2[g.toNat]? with |some h=>fRes h |none=>0
def arg0 (n:Qag):Int:=match Qa1 n with |v::_=>v |[]=>0
def QkG (p:Qae)(f:GFun)(n:Qag):Bool:=
 if nOp n=0 then decide (kd f (arg0 n)=fRes f)
 else if nOp n=1 then decide (kd f (nVar n)=0)
 else if nOp n=2 then tyL f (-1) (Qa1 n) [0,0]&&decide (kd f (nVar n)=if nNum n<5 then 0 else 1)
 else if nOp n=3 then (match fieldsOf p (kd f (nVar n)) (nCon n) with |none=>false |some ts=>tyL f (-1) (Qa1 n) ts)
 else if nOp n=4 then decide (kd f (nVar n)=kd f (arg0 n))&&!flat p.1 (kd f (nVar n))
 else if nOp n=5 then !flat p.1 (kd f (arg0 n))
 else if nOp n=6 then Qla p f (nFun n) (Qa1 n)&&decide (kd f (nVar n)=Qx2 p (nFun n))
 else if nOp n=7 then Qla p f (nFun n) (Qa1 n)&&decide (fRes f=Qx2 p (nFun n))
 else if nOp n=8 then (match fieldsOf p (fRes f) (nCon n) with |none=>false |some ts=>decide (0≤nNum n∧nNum n<(ts.length:Int))&&tyL f (nNum n) (Qa1 n) ts&&Qla p f (nFun n) (QiT n)&&decide (some (Qx2 p (nFun n))=ts[(nNum n).toNat]?))
 else !decide (kd f (arg0 n)<1)&&decide ((nBr n).length=(Qhs p.1 (kd f (arg0 n))).length)&&!(QhD n&&flat p.1 (kd f (arg0 n)))&&
  allI (fun i b=>match (Qhs p.1 (kd f (arg0 n)))[i]? with |some c=>tyL f (-1) b.1 c.2 |none=>false) 0 (nBr n)
def Quk (p:Qae)(f:GFun)(n:Qag):Bool:=(binds n).all fun v=>rdOf f v==(decide (nOp n=9)&&(!QhD n&&!flat p.1 (kd f v)))
def QmG:List Bool→List Int→List Bool⊕List Bool
 | bo,[]=>.inr bo
 | bo,v::l=>if bo[v.toNat]?=some false then QmG (bo.set v.toNat true) l else .inl bo
def QrD (sc:List Bool)(l:List Int):Bool:=l.all fun v=>decide (0≤v∧sc[v.toNat]?=some true)
def Qlq (p:Qae)(n:Qag):Bool:=(fFun (nOp n)&&!decide (0≤nFun n∧nFun n<(p.2.length:Int)))||(decide (nOp n=2)&&!decide (0≤nNum n∧nNum n<8))
def QmH (p:Qae)(f:GFun)(sc bo:List Bool)(n:Qag):Int⊕List Bool:=
 if QkE n=false then .inl 3
 else if QrD sc (uses n)=false then .inl 9
 else if (binds n).all (inR f)=false then .inl 2
 else if Qlq p n=true then .inl 2
 else match QmG bo (binds n) with
  | .inl _=>.inl 8
  | .inr bo'=>if QkG p f n=false then .inl 10 else if Quk p f n=false then .inl 11 else .inr bo'
structure HOk (p:Qae)(f:GFun):Prop where
 par:0≤fPar f∧fPar f≤((Qaf f).length:Int)
 res:isTy p.1 (fRes f)=true
 vars:∀ v∈Qaf f,isTy p.1 v.1=true
theorem QmI {d:List Qak}{t:Int}:isTy d t=true↔0≤t∧t≤(d.length:Int):=by unfold isTy; rw [decide_eq_true_eq]
theorem HOk.kd {p:Qae}{f:GFun}(h:HOk p f)(v:Int):isTy p.1 (kd f v)=true:=by
 unfold LabB.kd
 split
 ·rename_i x hx; exact h.vars x (List.mem_of_getElem? hx)
 ·rw [QmI]; omega
theorem QhE (f:GFun){v:Int}(h0:0≤v)(h1:v<((Qaf f).length:Int)):∃ x,at' (Qaf f) v=some x∧(Qaf f)[v.toNat]?=some x∧kd f v=x.1∧rdOf f v=x.2:=by
 obtain ⟨x,hx,hx'⟩:=Qhy h0 h1
 exact ⟨x,hx,hx',by unfold kd; rw [hx'],by unfold rdOf; rw [hx']⟩
section
variable (p:Qae) (f:GFun) (a b c:List Bool)
theorem QmJ {v:Int}(h0:0≤v)(h1:v<((Qaf f).length:Int)):Qav a b c p.1 p.2 f.1 f.2.1 f.2.2.1 f.2.2.2.1 f.2.2.2.2.1 f.2.2.2.2.2.1 f.2.2.2.2.2.2 v=some (kd f v):=by
 obtain ⟨x,hx,_,hk,_⟩:=QhE f h0 h1
 rw [Qji,show at' f.2.2.2.1 v=_ from hx,Qaa,hk]
theorem QAw (hd:QeO p.1){v:Int}(h0:0≤v)(h1:v<((Qaf f).length:Int)):Qb3 a b c p.1 p.2 f.1 f.2.1 f.2.2.1 f.2.2.2.1 f.2.2.2.2.1 f.2.2.2.2.2.1 f.2.2.2.2.2.2 v=some (flat p.1 (kd f v)):=by
 rw [Qjj,QmJ p f a b c h0 h1,Qaa,QmE p.1 hd,Qaa]
theorem QwU (hole:Int)(l ts:List Int)(hl:l.length≤9223372036854775807)(hr:∀ v∈l,0≤v→v<((Qaf f).length:Int)):
  Qdy a b c ts p.1 p.2 f.1 f.2.1 f.2.2.1 f.2.2.2.1 f.2.2.2.2.1 f.2.2.2.2.2.1 f.2.2.2.2.2.2 l hole=some (tyL f hole l ts):=by
 rw [Qkv]
 unfold tyL
 by_cases he:l.length=ts.length
 ·rw [Qac (by omega),QdC he,QdG (L:=fun i=>QbN a b c ts p.1 p.2 f.1 f.2.1 f.2.2.1 f.2.2.2.1 f.2.2.2.2.1 f.2.2.2.2.2.1 f.2.2.2.2.2.2 hole l (l.length:Int) i) (l:=l) (p:=fun i v=>if (i:Int)=hole then decide (v = -1) else decide (0≤v)&&decide (some (kd f v)=ts[i]?)) (A:=.inl ()) (B:=.inr ()) (fun i v hv=>by
   have hi:=Qcd hv
   have ht:ts[i]?=some ts[i]:=List.getElem?_eq_getElem (by omega)
   rw [Qfb,Qal hv,cond_true,Qah hv,Qaa,Qan hv hl]
   by_cases hh:(i:Int)=hole
   ·rw [Qac hh,if_pos hh,Qaz]
   ·rw [Qab hh,if_neg hh]
    by_cases h0:v<0
    ·rw [Qac h0,QaR (show ¬ 0≤v by omega)]; rfl
    ·obtain ⟨x,hx,_,hk,_⟩:=QhE f (show 0≤v by omega) (hr v (List.mem_of_getElem? hv) (by omega))
     rw [Qab h0,show at' f.2.2.2.1 v=_ from hx,Qaa,Qah ht,Qaa,QdC (show 0≤v by omega),ht,hk,Qaz]
     simp) (by rw [Qfb,Qap,cond_false]),Qaa,Bool.true_and]
  cases allI _ _ _<;>rfl
 ·rw [Qab (by omega),QaR he]; rfl
theorem Qqf (hole:Int)(l ts:List Int)(hl:l.length≤9223372036854775807)(hr:∀ v∈l,0≤v→v<((Qaf f).length:Int)):
  Qb5 a b c p.1 p.2 f.1 f.2.1 f.2.2.1 f.2.2.2.1 f.2.2.2.2.1 f.2.2.2.2.2.1 f.2.2.2.2.2.2 l ts hole=some (tyL f hole l ts):=by
 rw [Qjk]
 unfold tyL
 by_cases he:l.length=ts.length
 ·rw [Qac (by omega),QdC he,QdG (L:=fun i=>Qbo a b c p.1 p.2 f.1 f.2.1 f.2.2.1 f.2.2.2.1 f.2.2.2.2.1 f.2.2.2.2.2.1 f.2.2.2.2.2.2 ts hole l (l.length:Int) i) (l:=l) (p:=fun i v=>if (i:Int)=hole then decide (v = -1) else decide (0≤v)&&decide (some (kd f v)=ts[i]?)) (A:=.inl ()) (B:=.inr ()) (fun i v hv=>by
   have hi:=Qcd hv
   have ht:ts[i]?=some ts[i]:=List.getElem?_eq_getElem (by omega)
   rw [Qd7,Qal hv,cond_true,Qah hv,Qaa,Qan hv hl]
   by_cases hh:(i:Int)=hole
   ·rw [Qac hh,if_pos hh,Qaz]
   ·rw [Qab hh,if_neg hh]
    by_cases h0:v<0
    ·rw [Qac h0,QaR (show ¬ 0≤v by omega)]; rfl
    ·obtain ⟨x,hx,_,hk,_⟩:=QhE f (show 0≤v by omega) (hr v (List.mem_of_getElem? hv) (by omega))
     rw [Qab h0,show at' f.2.2.2.1 v=_ from hx,Qaa,Qah ht,Qaa,QdC (show 0≤v by omega),ht,hk,Qaz]
     simp) (by rw [Qd7,Qap,cond_false]),Qaa,Bool.true_and]
  cases allI _ _ _<;>rfl
 ·rw [Qab (by omega),QaR he]; rfl
theorem QmK {d:List Qak}{t:Int}(h1:¬ t<1)(h:t≤(d.length:Int)):∃ x,at' d (t - 1)=some x∧Qhs d t=x.2∧x∈d:=by
 obtain ⟨x,hx,hx'⟩:=Qhy (l:=d) (i:=t - 1) (by omega) (by omega)
 exact ⟨x,hx,by unfold Qhs; rw [if_neg h1,hx'],List.mem_of_getElem? hx'⟩
theorem Qqg (hd:QeO p.1)(t con:Int)(ht:isTy p.1 t=true):Qc2 a b c p.1 p.2 f.1 f.2.1 f.2.2.1 f.2.2.2.1 f.2.2.2.2.1 f.2.2.2.2.2.1 f.2.2.2.2.2.2 t con=some (match fieldsOf p t con with |none=>.inl () |some ts=>.inr ts):=by
 rw [QmI] at ht
 have hl:=hd.len
 rw [QjN]
 simp only [Qai,Qaa,Qb0,Qb9]
 unfold fieldsOf
 by_cases h1:t<1∨con<0
 ·rw [if_pos h1,Qt5 (by simp only [Bool.or_eq_true,decide_eq_true_eq]; exact h1)]; rfl
 ·rw [if_neg h1,Qem (by simp only [Bool.or_eq_false_iff,decide_eq_false_iff_not]; omega),Qqc (by omega) (by omega)]
  obtain ⟨x,hx,hc,hm⟩:=QmK (d:=p.1) (t:=t) (by omega) (by omega)
  rw [hx,Qaa,hc,Qaa]
  rcases QsH x.2 con with ⟨h0,h2,y,hy,hy',_⟩ |⟨h2,hy⟩
  ·rw [QdC h2,Bool.not_true,cond_false,Qaa,hy,hy']; rfl
  ·rw [QaR (show ¬ con<(x.2.length:Int) by omega),List.getElem?_eq_none (by omega)]; rfl
theorem QvQ (hp:Qcq p)(g:Int)(h0:0≤g)(h1:g<(p.2.length:Int)):∃ l,QeW a b c p.1 p.2 f.1 f.2.1 f.2.2.1 f.2.2.2.1 f.2.2.2.2.1 f.2.2.2.2.2.1 f.2.2.2.2.2.2 g=some (l,(Qk7 p g).isSome)∧∀ ts,Qk7 p g=some ts→l=ts:=by
 obtain ⟨h,hh,hh'⟩:=Qhy h0 h1
 have hs:=hp.all h (List.mem_of_getElem? hh')
 have hv:=hs.vars
 rw [QjP,hh,Qaa]
 simp only [Qai,Qaa,Qb9]
 unfold Qk7
 rw [hh']
 simp only
 by_cases hc:fPar h<0∨((Qaf h).length:Int)<fPar h
 ·rw [if_pos hc,Qt5 (by simp only [Bool.or_eq_true,decide_eq_true_eq]; exact hc)]
  exact ⟨_,rfl,fun ts h=>by cases h⟩
 ·rw [if_neg hc,Qem (by simp only [Bool.or_eq_false_iff,decide_eq_false_iff_not]; show ¬ fPar h<0∧¬ ((Qaf h).length:Int)<fPar h; omega),Qab (show ¬ fPar h<0 by omega),Qab (show ¬ ((Qaf h).length:Int)<fPar h by omega)]
  have hl:(List.take (fPar h).toNat (Qaf h)).length≤1000000:=by rw [List.length_take]; exact Nat.le_trans (Nat.min_le_right _ _) hv
  have:=QaY (L:=fun s i=>Qbw a b c s p.1 p.2 f.1 f.2.1 f.2.2.1 f.2.2.2.1 f.2.2.2.2.1 f.2.2.2.2.2.1 f.2.2.2.2.2.2 (List.take (fPar h).toNat (Qaf h)) ((List.take (fPar h).toNat (Qaf h)).length:Int) i) (l:=List.take (fPar h).toNat (Qaf h)) (F:=fun s x=>s++[x.1]) (E:=id) (fun i s=>s.length≤i)
   (fun s i x hx hI=>⟨by
    have:=Qcd hx
    rw [QeG,Qal hx,cond_true,Qah hx,Qaa,Qac (by omega),Qan hx (by omega)],by simp; omega⟩)
   (fun s hI=>by rw [QeG,Qap,cond_false]; rfl) [] (by simp)
  rw [show Qbw a b c [] p.1 p.2 f.1 f.2.1 f.2.2.1 f.2.2.2.1 f.2.2.2.2.1 f.2.2.2.2.2.1 f.2.2.2.2.2.2 (List.take h.2.1.toNat h.2.2.2.1) ((List.take h.2.1.toNat h.2.2.2.1).length:Int) 0=_ from this,Qk6]
  exact ⟨_,rfl,fun ts h=>by simp only [osi] at h; rw [← h]; rfl⟩
theorem Qqh (hp:Qcq p)(g:Int)(l:List Int)(h0:0≤g)(h1:g<(p.2.length:Int))(hl:l.length≤9223372036854775807)(hr:∀ v∈l,0≤v→v<((Qaf f).length:Int)):QcV a b c p.1 p.2 f.1 f.2.1 f.2.2.1 f.2.2.2.1 f.2.2.2.2.1 f.2.2.2.2.2.1 f.2.2.2.2.2.2 g l=some (Qla p f g l):=by
 obtain ⟨ts,h2,h3⟩:=QvQ p f a b c hp g h0 h1
 rw [Qld,h2,Qaa]
 unfold Qla
 cases hpo:Qk7 p g with
 | none=>rfl
 | some ts'=>
  rw [h3 ts' hpo]
  simp only [Option.isSome_some,cond_true]
  rw [QwU p f a b c (-1) l ts' hl hr]
  rfl
theorem QAx (p:Qae){g:Int}(h0:0≤g)(h1:g<(p.2.length:Int)):∃ h,at' p.2 g=some h∧Qx2 p g=h.2.2.1:=by
 obtain ⟨h,hh,hh'⟩:=Qhy h0 h1
 exact ⟨h,hh,by unfold Qx2; rw [hh']⟩
theorem QvR (hp:Qcq p)(t:Int)(ht:isTy p.1 t=true)(h1:¬ t<1)(l:List Qa2)(hl:l.length≤1000)(hc:l.length=(Qhs p.1 t).length)(hbl:∀ x∈l,x.1.length≤1073741824)(hr:∀ x∈l,∀ v∈x.1,0≤v→v<((Qaf f).length:Int)):
  Qa3 a b c p.1 p.2 f.1 f.2.1 f.2.2.1 f.2.2.2.1 f.2.2.2.2.1 f.2.2.2.2.2.1 f.2.2.2.2.2.2 t l (l.length:Int) 0=some (if allI (fun i x=>match (Qhs p.1 t)[i]? with |some c=>tyL f (-1) x.1 c.2 |none=>false) 0 l=true then .inr () else .inl ()):=by
 rw [QmI] at ht
 have hdl:=hp.QsW.len
 obtain ⟨x,hx,hco,_⟩:=QmK (d:=p.1) (t:=t) h1 ht.2
 refine QdG (L:=fun i=>Qa3 a b c p.1 p.2 f.1 f.2.1 f.2.2.1 f.2.2.2.1 f.2.2.2.2.1 f.2.2.2.2.2.1 f.2.2.2.2.2.2 t l (l.length:Int) i) (fun i y hy=>?_) ?_
 ·have hm:=List.mem_of_getElem? hy
  have hi:=Qcd hy
  have hi2:i<x.2.length:=by rw [← hco]; omega
  have hci:x.2[i]?=some x.2[i]:=List.getElem?_eq_getElem hi2
  rw [Qfc,Qal hy,cond_true,Qah hy,Qaa,Qqc (by omega) (by omega),hx,Qaa,Qah hci,Qaa,Qqf p f a b c (-1) y.1 _ (by have:=hbl y hm; omega) (hr y hm),Qaa,Qan hy (by omega),hco,hci,Qaz]
 ·rw [Qfc,Qap,cond_false]
theorem QDL (n:Qag)(h:Qa1 n≠[]):at' (Qa1 n) 0=some (arg0 n)∧arg0 n∈Qa1 n:=by
 unfold arg0
 cases hn:Qa1 n with
 | nil=>exact absurd hn h
 | cons v l=>exact ⟨at_0 v l,by simp⟩
theorem Qx3 (hp:Qcq p)(ho:HOk p f)(n:Qag)(hn:QcD n)(hform:QkE n=true)(hu:∀ v∈uses n,0≤v∧v<((Qaf f).length:Int))(hb:∀ v∈binds n,0≤v∧v<((Qaf f).length:Int))(hbad:Qlq p n=false):
  QaV a b c p.1 p.2 f.1 f.2.1 f.2.2.1 f.2.2.2.1 f.2.2.2.2.1 f.2.2.2.2.2.1 f.2.2.2.2.2.2 n=some (QkG p f n):=by
 unfold QkE at hform
 simp only [Bool.and_eq_true,decide_eq_true_eq,Bool.or_eq_true] at hform
 obtain ⟨⟨⟨⟨⟨⟨⟨⟨⟨hop,hargs⟩,_⟩,_⟩,_⟩,_⟩,_⟩,_⟩,_⟩,_⟩:=hform
 unfold Qlq at hbad
 rw [Bool.or_eq_false_iff] at hbad
 obtain ⟨hbad,hbad2⟩:=hbad
 have hd:=hp.QsW
 have hdl:=hd.len
 have ha:=hn.args
 have hm:=hn.more
 have hone:(nOp n=0∨nOp n=4∨nOp n=5∨nOp n=9)→at' (Qa1 n) 0=some (arg0 n)∧0≤arg0 n∧arg0 n<((Qaf f).length:Int):=by
  intro h
  have h1:fArgs (nOp n)=1:=by unfold fArgs; rw [if_pos h]
  rw [h1] at hargs
  have hne:Qa1 n≠[]:=by intro he; rw [he] at hargs; simp at hargs
  obtain ⟨h2,h3⟩:=QDL n hne
  refine ⟨h2,hu _ ?_⟩
  unfold uses
  rw [if_neg (by omega),if_neg (by omega)]
  exact h3
 have hall:nOp n≠8→nOp n≠1→∀ v∈Qa1 n,0≤v→v<((Qaf f).length:Int):=fun h8 h1 v hv _=>(hu v (by unfold uses; rw [if_neg (by omega),if_neg h8]; exact hv)).2
 have hvar:Qlp (nOp n)=true→0≤nVar n∧nVar n<((Qaf f).length:Int):=by
  intro h
  apply hb
  unfold binds
  have h9:nOp n≠9:=by unfold Qlp at h; rw [decide_eq_true_eq] at h; omega
  rw [if_neg h9,if_pos h]
  simp
 have hfun:fFun (nOp n)=true→0≤nFun n∧nFun n<(p.2.length:Int):=by
  intro h
  rw [h] at hbad
  simpa using hbad
 rw [Qku]
 unfold QkG
 by_cases h0:nOp n=0
 ·obtain ⟨h1,h2,h3⟩:=hone (by omega)
  rw [Qac h0,if_pos h0,show at' n.2.2.1 0=_ from h1,Qaa,QmJ p f a b c h2 h3]
  rfl
 rw [Qab h0,if_neg h0]
 by_cases h1:nOp n=1
 ·obtain ⟨h2,h3⟩:=hvar (by rw [h1]; rfl)
  rw [Qac h1,if_pos h1,QmJ p f a b c h2 h3]
  rfl
 rw [Qab h1,if_neg h1]
 by_cases h2:nOp n=2
 ·obtain ⟨h3,h4⟩:=hvar (by rw [h2]; rfl)
  rw [Qac h2,if_pos h2,Qk3,Qaa,QwU p f a b c (-1) n.2.2.1 [0,0] (by have:n.2.2.1.length≤1000:=ha; omega) (hall (by omega) h1),QmJ p f a b c h3 h4]
  simp only [Qaa,Qai,Qje]
  rw [QEv]
 rw [Qab h2,if_neg h2]
 by_cases h3:nOp n=3
 ·obtain ⟨h4,h5⟩:=hvar (by rw [h3]; rfl)
  rw [Qac h3,if_pos h3,QmJ p f a b c h4 h5,Qaa,Qqg p f a b c hd _ _ (ho.kd _),Qaa]
  show _=some (match fieldsOf p (kd f n.2.1) n.2.2.2.1 with |none=>false |some ts=>tyL f (-1) (Qa1 n) ts)
  cases fieldsOf p (kd f n.2.1) n.2.2.2.1 with
  | none=>rfl
  | some ts=>
   simp only
   rw [Qqf p f a b c (-1) n.2.2.1 ts (by have:n.2.2.1.length≤1000:=ha; omega) (hall (by omega) h1)]
   rfl
 rw [Qab h3,if_neg h3]
 by_cases h4:nOp n=4
 ·obtain ⟨h5,h6⟩:=hvar (by rw [h4]; rfl)
  obtain ⟨h7,h8,h9⟩:=hone (by omega)
  rw [Qac h4,if_pos h4,show at' n.2.2.1 0=_ from h7,Qaa,QmJ p f a b c h5 h6,QmJ p f a b c h8 h9,Qaa,Qaa,QAw p f a b c hd h5 h6,Qaa,Qai,Qje]
 rw [Qab h4,if_neg h4]
 by_cases h5:nOp n=5
 ·obtain ⟨h7,h8,h9⟩:=hone (by omega)
  rw [Qac h5,if_pos h5,show at' n.2.2.1 0=_ from h7,Qaa,QAw p f a b c hd h8 h9,Qaa]
 rw [Qab h5,if_neg h5]
 by_cases h6:nOp n=6
 ·obtain ⟨h7,h8⟩:=hvar (by rw [h6]; rfl)
  obtain ⟨h9,h10⟩:=hfun (by rw [h6]; rfl)
  obtain ⟨g,hg,hres⟩:=QAx p h9 h10
  rw [Qac h6,if_pos h6,Qqh p f a b c hp _ n.2.2.1 h9 h10 (by have:n.2.2.1.length≤1000:=ha; omega) (hall (by omega) h1),Qaa,QmJ p f a b c h7 h8,show at' p.2 n.2.2.2.2.2.1=_ from hg,Qaa,Qaa,Qai,Qje,← hres]
 rw [Qab h6,if_neg h6]
 by_cases h7:nOp n=7
 ·obtain ⟨h9,h10⟩:=hfun (by rw [h7]; rfl)
  obtain ⟨g,hg,hres⟩:=QAx p h9 h10
  rw [Qac h7,if_pos h7,Qqh p f a b c hp _ n.2.2.1 h9 h10 (by have:n.2.2.1.length≤1000:=ha; omega) (hall (by omega) h1),Qaa,show at' p.2 n.2.2.2.2.2.1=_ from hg,Qaa,Qai,Qje,← hres]
 rw [Qab h7,if_neg h7]
 by_cases h8:nOp n=8
 ·obtain ⟨h9,h10⟩:=hfun (by rw [h8]; rfl)
  obtain ⟨g,hg,hres⟩:=QAx p h9 h10
  have hv:∀ v∈Qa1 n++QiT n,0≤v→v<((Qaf f).length:Int):=fun v hv h0=>(hu v (by unfold uses; rw [if_neg (by omega),if_pos h8,List.mem_filter]; exact ⟨hv,by simpa using h0⟩)).2
  rw [Qac h8,if_pos h8,Qqg p f a b c hd _ _ ho.res,Qaa]
  show _=some (match fieldsOf p f.2.2.1 n.2.2.2.1 with |none=>false |some ts=>decide (0≤nNum n∧nNum n<(ts.length:Int))&&tyL f (nNum n) (Qa1 n) ts&&Qla p f (nFun n) (QiT n)&&decide (some (Qx2 p (nFun n))=ts[(nNum n).toNat]?))
  cases fieldsOf p f.2.2.1 n.2.2.2.1 with
  | none=>rfl
  | some ts=>
   simp only [Qai,Qaa,Qb9]
   rw [Qqf p f a b c _ n.2.2.1 ts (by have:n.2.2.1.length≤1000:=ha; omega) (fun v h=>hv v (by simp; exact Or.inl h)),Qqh p f a b c hp _ n.2.2.2.2.2.2.1 h9 h10 (by have:n.2.2.2.2.2.2.1.length≤1000:=hm; omega) (fun v h=>hv v (by simp; exact Or.inr h)),show at' p.2 n.2.2.2.2.2.1=_ from hg]
   simp only [Qai,Qaa,Qb9,Qb0]
   by_cases hnum:0≤nNum n∧nNum n<(ts.length:Int)
   ·obtain ⟨t,ht,ht'⟩:=Qhy hnum.1 hnum.2
    rw [QdC hnum,show decide (n.2.2.2.2.1<0)=false from QaR (show ¬ nNum n<0 by omega),show decide (n.2.2.2.2.1<(ts.length:Int))=true from QdC hnum.2,show at' ts n.2.2.2.2.1=_ from ht,ht',hres]
    simp only [Bool.not_true,Bool.or_false,cond_false,Bool.true_and,Qaa,osi]
    show (bif !(tyL f (nNum n) (Qa1 n) ts) then some false else bif Qla p f (nFun n) (QiT n) then some (decide (g.2.2.1=t)) else some false)=_
    cases tyL f (nNum n) (Qa1 n) ts<;>cases Qla p f (nFun n) (QiT n)<;>rfl
   ·rw [QaR hnum,show (decide (n.2.2.2.2.1<0)||!decide (n.2.2.2.2.1<(ts.length:Int)))=true by
     rw [Bool.or_eq_true,Bool.not_eq_true',decide_eq_true_eq,decide_eq_false_iff_not]; show nNum n<0∨¬ nNum n<(ts.length:Int); omega]
    rfl
 rw [Qab h8,if_neg h8]
 obtain ⟨h9,h10,h11⟩:=hone (by omega)
 rw [show at' n.2.2.1 0=_ from h9,Qaa,QmJ p f a b c h10 h11,Qaa,QAw p f a b c hd h10 h11]
 have hty:=ho.kd (arg0 n)
 have hty':=hty
 rw [QmI] at hty'
 by_cases ht1:kd f (arg0 n)<1
 ·rw [Qac ht1,QdC ht1]; rfl
 ·rw [Qab ht1,QaR ht1,Qqc (by omega) (by omega)]
  obtain ⟨x,hx,hco,_⟩:=QmK (d:=p.1) (t:=kd f (arg0 n)) ht1 hty'.2
  rw [hx,Qaa]
  by_cases hlen:(nBr n).length=(Qhs p.1 (kd f (arg0 n))).length
  ·have h9:nOp n=9:=by omega
   have hbr:∀ x∈nBr n,∀ v∈x.1,0≤v→v<((Qaf f).length:Int):=fun x hx v hv _=>(hb v (by unfold binds; rw [if_pos h9,List.mem_flatMap]; exact ⟨x,hx,hv⟩)).2
   rw [QdC hlen,Qac (show ((n.2.2.2.2.2.2.2.2.1.length:Int)=(x.2.length:Int)) by rw [← hco]; exact congrArg _ hlen),QvR p f a b c hp _ hty ht1 n.2.2.2.2.2.2.2.2.1 hn.br hlen hn.bs hbr]
   simp only [Qaa,Bool.not_false,Bool.true_and]
   show (bif QhD n then _ else _)=some (!(QhD n&&flat p.1 (kd f (arg0 n)))&&_)
   cases QhD n<;>cases flat p.1 (kd f (arg0 n))<;>simp only [cond_true,cond_false,Bool.and_true,Bool.and_false,Bool.true_and,Bool.false_and,Bool.not_true,Bool.not_false]<;>(first |rfl |(cases allI _ 0 _<;>rfl))
  ·rw [QaR hlen,Qab (show ¬ ((n.2.2.2.2.2.2.2.2.1.length:Int)=(x.2.length:Int)) by rw [← hco]; show ¬ (((nBr n).length:Int)=_); omega)]
   simp
end
end Go.Proofs.YtkecfadnfnnfaaaGreatDoor.LabB
namespace Go.Proofs.YtkecfadnfnnfaaaGreatDoor.LabB
open Go Go.Ev Go.Sy
theorem Qul:∀ (l:List Int) (bo:List Bool) (i:Nat),runI (fun _ s v=>if s[v.toNat]?=some false then .inl (s.set v.toNat true) else .inr (.inl s)) (fun s=>(.inr s:List Bool⊕List Bool)) i bo l=QmG bo l
 | [],bo,i=>rfl
 | v::l,bo,i=>by
  rw [runI,QmG]
  by_cases h:bo[v.toNat]?=some false
  ·rw [if_pos h,if_pos h]; exact Qul l _ _
  ·rw [if_neg h,if_neg h]
theorem tf:¬ (true=false):=by simp
theorem ft:¬ (false=true):=by simp
section
variable (p:Qae) (f:GFun) (a b c:List Bool)
theorem QES (n:Qag)(l:List Int)(hl:l.length≤9223372036854775807):QbL a b c p.1 p.2 f.1 f.2.1 f.2.2.1 f.2.2.2.1 f.2.2.2.2.1 f.2.2.2.2.2.1 f.2.2.2.2.2.2 n l (l.length:Int) 0=some (if QrD c l=true then .inr () else .inl ()):=by
 refine Qay (L:=fun i=>QbL a b c p.1 p.2 f.1 f.2.1 f.2.2.1 f.2.2.2.1 f.2.2.2.2.1 f.2.2.2.2.2.1 f.2.2.2.2.2.2 n l (l.length:Int) i) (p:=fun (v:Int)=>decide (0≤v∧c[v.toNat]?=some true)) (fun i v hv=>?_) ?_
 ·rw [Qe9,Qal hv,cond_true,Qah hv,Qan hv hl]
  simp only [Qaa,Qai,Qb9]
  rcases QsH c v with ⟨h0,h1,y,hy,hy',_⟩ |⟨h1,hy⟩
  ·rw [QaR (show ¬ v<0 by omega),QdC h1,hy,hy']
   cases y<;>simp [Qaa,h0]
  ·have hz:(decide (v<0)||!decide (v<(c.length:Int)))=true:=by
    rw [Bool.or_eq_true,Bool.not_eq_true',decide_eq_true_eq,decide_eq_false_iff_not]; omega
   rw [hz,cond_true,Qaa,cond_true,if_neg (by
    rw [decide_eq_true_eq]
    rintro ⟨h2,h3⟩
    have:=Qcd h3
    omega)]
 ·rw [Qe9,Qap,cond_false]
theorem QET (n:Qag)(bs l:List Int)(hl:l.length≤9223372036854775807):QbM a b c p.1 p.2 f.1 f.2.1 f.2.2.1 f.2.2.2.1 f.2.2.2.2.1 f.2.2.2.2.2.1 f.2.2.2.2.2.2 n bs l (l.length:Int) 0=some (if l.all (inR f)=true then .inr () else .inl ()):=by
 refine Qay (L:=fun i=>QbM a b c p.1 p.2 f.1 f.2.1 f.2.2.1 f.2.2.2.1 f.2.2.2.2.1 f.2.2.2.2.2.1 f.2.2.2.2.2.2 n bs l (l.length:Int) i) (p:=inR f) (fun i v hv=>?_) ?_
 ·rw [Qfa,Qal hv,cond_true,Qah hv,Qan hv hl]
  simp only [Qaa,Qai,Qb9]
  unfold inR
  by_cases h:0≤v∧v<((Qaf f).length:Int)
  ·rw [QdC h,if_pos rfl,QaR (show ¬ v<0 by omega),show decide (v<(f.2.2.2.1.length:Int))=true from QdC h.2]; rfl
  ·rw [QaR h,if_neg (by simp),show (decide (v<0)||!decide (v<(f.2.2.2.1.length:Int)))=true by
    rw [Bool.or_eq_true,Bool.not_eq_true',decide_eq_true_eq,decide_eq_false_iff_not]; show v<0∨¬ v<((Qaf f).length:Int); omega]
   rfl
 ·rw [Qfa,Qap,cond_false]
theorem QEU (n:Qag)(bs l:List Int)(hl:l.length≤9223372036854775807)(hr:∀ v∈l,0≤v∧v<((Qaf f).length:Int))(hb:b.length=(Qaf f).length):QaD a b c p.1 p.2 f.1 f.2.1 f.2.2.1 f.2.2.2.1 f.2.2.2.2.1 f.2.2.2.2.2.1 f.2.2.2.2.2.2 n bs l (l.length:Int) 0=some (QmG b l):=by
 rw [← Qul l b 0]
 refine QwQ (L:=fun s i=>QaD a s c p.1 p.2 f.1 f.2.1 f.2.2.1 f.2.2.2.1 f.2.2.2.2.1 f.2.2.2.2.2.1 f.2.2.2.2.2.2 n bs l (l.length:Int) i) (fun _ s=>s.length=(Qaf f).length) (fun s i v hv hI=>?_) (fun s hI=>?_) b hb
 ·obtain ⟨h0,h1⟩:=hr v (List.mem_of_getElem? hv)
  have hI':s.length=(Qaf f).length:=hI
  obtain ⟨y,hy,hy'⟩:=Qhy (l:=s) h0 (by omega)
  cases y with
  | true=>
   rw [if_neg (by rw [hy']; simp)]
   show QaD a s c p.1 p.2 f.1 f.2.1 f.2.2.1 f.2.2.2.1 f.2.2.2.2.1 f.2.2.2.2.2.1 f.2.2.2.2.2.2 n bs l (l.length:Int) (i:Int)=some (.inl s)
   rw [QcX,Qal hv,cond_true,Qah hv,Qaa,hy,Qaa,cond_true]
  | false=>
   rw [if_pos hy']
   refine ⟨?_,by simpa using hI⟩
   rw [QcX,Qal hv,cond_true,Qah hv,Qaa,hy,Qaa,cond_false,Qan hv hl]
 ·rw [QcX,Qap,cond_false]
theorem QEV (hd:QeO p.1)(n:Qag)(l:List Int)(hl:l.length≤9223372036854775807)(hr:∀ v∈l,0≤v∧v<((Qaf f).length:Int)):Qaq a b c p.1 p.2 f.1 f.2.1 f.2.2.1 f.2.2.2.1 f.2.2.2.2.1 f.2.2.2.2.2.1 f.2.2.2.2.2.2 n l (l.length:Int) 0=some (if (l.all fun v=>rdOf f v==(decide (nOp n=9)&&(!QhD n&&!flat p.1 (kd f v))))=true then .inr () else .inl ()):=by
 refine Qay (L:=fun i=>Qaq a b c p.1 p.2 f.1 f.2.1 f.2.2.1 f.2.2.2.1 f.2.2.2.2.1 f.2.2.2.2.2.1 f.2.2.2.2.2.2 n l (l.length:Int) i) (p:=fun v=>rdOf f v==(decide (nOp n=9)&&(!QhD n&&!flat p.1 (kd f v)))) (fun i v hv=>?_) ?_
 ·obtain ⟨h0,h1⟩:=hr v (List.mem_of_getElem? hv)
  obtain ⟨x,hx,_,hk,hrd⟩:=QhE f h0 h1
  rw [Qfd,Qal hv,cond_true,Qah hv,Qaa,show at' f.2.2.2.1 v=_ from hx,Qaa,QmE p.1 hd,Qaa,Qan hv hl,hk,hrd]
  show (bif decide (nOp n=9) then bif QhD n then _ else _ else _)=_
  cases decide (nOp n=9)<;>cases QhD n<;>cases x.2<;>cases flat p.1 x.1<;>rfl
 ·rw [Qfd,Qap,cond_false]
theorem QCe (n:Qag)(h:QcD n):(uses n).length≤2000:=by
 have ha:=h.args
 have hm:=h.more
 unfold uses
 split
 ·simp
 ·split
  ·have:=List.length_filter_le (fun v=>decide (0≤v)) (Qa1 n++QiT n)
   rw [List.length_append] at this
   omega
  ·omega
theorem Qqi {α β:Type}(g:α→List β)(K:Nat):∀ l:List α,(∀ x∈l,(g x).length≤K)→(l.flatMap g).length≤l.length * K
 | [],h=>by simp
 | x::l,h=>by
  have h1:=h x (by simp)
  have h2:=Qqi g K l (fun y hy=>h y (by simp [hy]))
  rw [List.flatMap_cons,List.length_append,List.length_cons,Nat.add_mul]
  omega
theorem Qum (n:Qag)(h:QcD n):(binds n).length≤1073741824000:=by
 have hb:=h.br
 unfold binds
 split
 ·have:=Qqi (fun b:Qa2=>b.1) 1073741824 (nBr n) h.bs
  omega
 ·split<;>simp
theorem Qx4 (hp:Qcq p)(ho:HOk p f)(n:Qag)(hn:QcD n)(hb:b.length=(Qaf f).length)(hc:c.length=(Qaf f).length):
  ∃ b' e,Qfy a b c p.1 p.2 f.1 f.2.1 f.2.2.1 f.2.2.2.1 f.2.2.2.2.1 f.2.2.2.2.2.1 f.2.2.2.2.2.2 n=some (b',e)∧(match QmH p f c b n with | .inl e'=>e=e'∧e'≠0 | .inr bo'=>e=0∧b'=bo'):=by
 have hul:=QCe n hn
 have hbl:=Qum n hn
 rw [Qkr,QAn,Qaa]
 unfold QmH
 cases hform:QkE n with
 | false=>exact ⟨_,_,rfl,rfl,by decide⟩
 | true=>
  rw [cond_true,QAo n hn,Qaa,QES p f a b c n _ (by omega),Qaa,if_neg tf]
  cases hu:QrD c (uses n) with
  | false=>exact ⟨_,_,rfl,rfl,by decide⟩
  | true=>
   rw [if_pos (show true=true from rfl),QgS n hn]
   simp only [Qaa]
   rw [QET p f a b c n _ _ (by omega),Qaa,if_neg tf]
   cases hr:(binds n).all (inR f) with
   | false=>exact ⟨_,_,rfl,rfl,by decide⟩
   | true=>
    rw [if_pos (show true=true from rfl)]
    simp only
    have hop:0≤nOp n∧nOp n<10:=by
     unfold QkE at hform
     simp only [Bool.and_eq_true,decide_eq_true_eq] at hform
     exact hform.1.1.1.1.1.1.1.1.1
    rw [QmB,Qaa,QwS n.1 hop,Qaa,if_neg tf]
    have hr':∀ v∈binds n,0≤v∧v<((Qaf f).length:Int):=fun v hv=>by
     have:=List.all_eq_true.1 hr v hv
     unfold inR at this
     simpa using this
    have hu':∀ v∈uses n,0≤v∧v<((Qaf f).length:Int):=fun v hv=>by
     have:=List.all_eq_true.1 hu v hv
     rw [decide_eq_true_eq] at this
     have:=Qcd this.2
     omega
    rw [QEU p f a b c n _ _ (by omega) hr' hb]
    show ∃ b' e,(bif fFun (nOp n) then _ else _)=some (b',e)∧_
    cases hbad:Qlq p n with
    | true=>
     rw [if_pos (show true=true from rfl)]
     refine ⟨b,2,?_,rfl,by decide⟩
     unfold Qlq at hbad
     rw [Bool.or_eq_true] at hbad
     cases hff:fFun (nOp n) with
     | true=>
      have h2:nOp n≠2:=by unfold fFun at hff; rw [decide_eq_true_eq] at hff; omega
      rw [hff,QaR h2] at hbad
      simp only [Bool.true_and,Bool.false_and,Bool.false_eq_true,or_false,Bool.not_eq_true',decide_eq_false_iff_not] at hbad
      rw [cond_true]
      by_cases h0:nFun n<0
      ·rw [Qac h0]
      ·rw [Qab h0,Qab (show ¬ nFun n<(p.2.length:Int) by omega)]
     | false=>
      rw [hff] at hbad
      simp only [Bool.false_and,Bool.false_eq_true,false_or,Bool.and_eq_true,decide_eq_true_eq,Bool.not_eq_true',decide_eq_false_iff_not] at hbad
      rw [cond_false,Qac hbad.1]
      by_cases h0:nNum n<0
      ·rw [Qac h0]
      ·rw [Qab h0,Qab (show ¬ nNum n<8 by omega)]
    | false=>
     rw [if_neg ft]
     have key:∀ bo,QmG b (binds n)=.inr bo→QaV a bo c p.1 p.2 f.1 f.2.1 f.2.2.1 f.2.2.2.1 f.2.2.2.2.1 f.2.2.2.2.2.1 f.2.2.2.2.2.2 n=some (QkG p f n):=fun bo _=>Qx3 p f a bo c hp ho n hn hform hu' hr' hbad
     have key6:∀ bo,Qaq a bo c p.1 p.2 f.1 f.2.1 f.2.2.1 f.2.2.2.1 f.2.2.2.2.1 f.2.2.2.2.2.1 f.2.2.2.2.2.2 n (binds n) ((binds n).length:Int) 0=some (if Quk p f n=true then .inr () else .inl ()):=fun bo=>QEV p f a bo c hp.QsW n _ (by omega) hr'
     unfold Qlq at hbad
     rw [Bool.or_eq_false_iff] at hbad
     obtain ⟨hbad1,hbad2⟩:=hbad
     have tail:∃ b' e,(Option.bind (some (QmG b (binds n))) fun z=>match z with
       | .inl v17=>some (v17,(8:Int))
       | .inr v17=>Option.bind (QaV a v17 c p.1 p.2 f.1 f.2.1 f.2.2.1 f.2.2.2.1 f.2.2.2.2.1 f.2.2.2.2.2.1 f.2.2.2.2.2.2 n) fun v18=>bif v18 then
         Option.bind (Qaq a v17 c p.1 p.2 f.1 f.2.1 f.2.2.1 f.2.2.2.1 f.2.2.2.2.1 f.2.2.2.2.2.1 f.2.2.2.2.2.2 n (binds n) ((binds n).length:Int) 0) fun z=>match z with
          | .inl _=>some (v17,11)
          | .inr _=>some (v17,0)
        else some (v17,10))=some (b',e)∧(match (match QmG b (binds n) with
        | .inl _=>(.inl 8:Int⊕List Bool)
        | .inr bo'=>if QkG p f n=false then .inl 10 else if Quk p f n=false then .inl 11 else .inr bo') with | .inl e'=>e=e'∧e'≠0 | .inr bo'=>e=0∧b'=bo'):=by
      rw [Qaa]
      cases hm:QmG b (binds n) with
      | inl bo=>exact ⟨_,_,rfl,rfl,by decide⟩
      | inr bo=>
       simp only
       rw [key bo hm,Qaa,key6 bo]
       cases QkG p f n with
       | false=>exact ⟨_,_,rfl,rfl,by decide⟩
       | true=>
        cases Quk p f n with
        | false=>exact ⟨_,_,rfl,rfl,by decide⟩
        | true=>exact ⟨_,_,rfl,rfl,rfl⟩
     cases hff:fFun (nOp n) with
     | true=>
      rw [hff] at hbad1
      simp only [Bool.true_and,Bool.not_eq_false',decide_eq_true_eq] at hbad1
      have h2:nOp n≠2:=by unfold fFun at hff; rw [decide_eq_true_eq] at hff; omega
      rw [cond_true,Qab (show ¬ nFun n<0 by omega),Qac (show nFun n<(p.2.length:Int) from hbad1.2),Qab h2]
      exact tail
     | false=>
      rw [cond_false]
      by_cases h2:nOp n=2
      ·rw [QdC h2] at hbad2
       simp only [Bool.true_and,Bool.not_eq_false',decide_eq_true_eq] at hbad2
       rw [Qac h2,Qab (show ¬ nNum n<0 by omega),Qac (show nNum n<8 from hbad2.2)]
       exact tail
      ·rw [Qab h2]
       exact tail
end
end Go.Proofs.YtkecfadnfnnfaaaGreatDoor.LabB
