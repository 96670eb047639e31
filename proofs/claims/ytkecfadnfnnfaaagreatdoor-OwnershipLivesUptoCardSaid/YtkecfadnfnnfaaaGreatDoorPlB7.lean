/- Of the models: a node alone, of the program, whole. -/
import Derived.Test.YtkecfadnfnnfaaaGreatDoorPlB5
set_option linter.unusedVariables false
set_option linter.unusedSimpArgs false
namespace Go.Proofs.YtkecfadnfnnfaaaGreatDoor.LabB
open Go Go.Ev Go.Sy
def kd (f:GFun)(v:Int):Int:=match (Qad f)[v.toNat]? with |some x=>x.1 |none=>0
def rdOf (f:GFun)(v:Int):Bool:=match (Qad f)[v.toNat]? with |some x=>x.2 |none=>false
def inR (f:GFun)(v:Int):Bool:=decide (0≤v∧v<((Qad f).length:Int))
def tyL (f:GFun)(hole:Int)(l:List Int)(ts:List Int):Bool:=decide (l.length=ts.length)&&allI (fun i v=>if (i:Int)=hole then decide (v = -1) else decide (0≤v)&&decide (some (kd f v)=ts[i]?)) 0 l
def fieldsOf (p:Qae)(t con:Int):Option (List Int):=if t<1∨con<0 then none else match (QdW p.1 t)[con.toNat]? with |some c=>some c.2 |none=>none
def QjO (p:Qae)(g:Int):Option (List Int):=match p.2[g.toNat]? with
 | none=>none
 | some h=>if fPar h<0∨((Qad h).length:Int)<fPar h then none else some (((Qad h).take (fPar h).toNat).map (·.1))
def Qii (p:Qae)(f:GFun)(g:Int)(l:List Int):Bool:=match QjO p g with |none=>false |some ts=>tyL f (-1) l ts
def Qxm (p:Qae)(g:Int):Int:=match p.2[g.toNat]? with |some h=>fRes h |none=>0
def arg0 (n:Qaf):Int:=match QaG n with |v::_=>v |[]=>0
def Qhm (p:Qae)(f:GFun)(n:Qaf):Bool:=
 if nOp n=0 then decide (kd f (arg0 n)=fRes f)
 else if nOp n=1 then decide (kd f (nVar n)=0)
 else if nOp n=2 then tyL f (-1) (QaG n) [0,0]&&decide (kd f (nVar n)=if nNum n<5 then 0 else 1)
 else if nOp n=3 then (match fieldsOf p (kd f (nVar n)) (nCon n) with |none=>false |some ts=>tyL f (-1) (QaG n) ts)
 else if nOp n=4 then decide (kd f (nVar n)=kd f (arg0 n))&&!flat p.1 (kd f (nVar n))
 else if nOp n=5 then !flat p.1 (kd f (arg0 n))
 else if nOp n=6 then Qii p f (nFun n) (QaG n)&&decide (kd f (nVar n)=Qxm p (nFun n))
 else if nOp n=7 then Qii p f (nFun n) (QaG n)&&decide (fRes f=Qxm p (nFun n))
 else if nOp n=8 then (match fieldsOf p (fRes f) (nCon n) with |none=>false |some ts=>decide (0≤nNum n∧nNum n<(ts.length:Int))&&tyL f (nNum n) (QaG n) ts&&Qii p f (nFun n) (Qfq n)&&decide (some (Qxm p (nFun n))=ts[(nNum n).toNat]?))
 else !decide (kd f (arg0 n)<1)&&decide ((nBr n).length=(QdW p.1 (kd f (arg0 n))).length)&&!(Qfr n&&flat p.1 (kd f (arg0 n)))&&
  allI (fun i b=>match (QdW p.1 (kd f (arg0 n)))[i]? with |some c=>tyL f (-1) b.1 c.2 |none=>false) 0 (nBr n)
def Qns (p:Qae)(f:GFun)(n:Qaf):Bool:=(binds n).all fun v=>rdOf f v==(decide (nOp n=9)&&(!Qfr n&&!flat p.1 (kd f v)))
def Qkx:List Bool→List Int→List Bool⊕List Bool
 | bo,[]=>.inr bo
 | bo,v::l=>if bo[v.toNat]?=some false then Qkx (bo.set v.toNat true) l else .inl bo
def Qo5 (sc:List Bool)(l:List Int):Bool:=l.all fun v=>decide (0≤v∧sc[v.toNat]?=some true)
def Qic (p:Qae)(n:Qaf):Bool:=(fFun (nOp n)&&!decide (0≤nFun n∧nFun n<(p.2.length:Int)))||(decide (nOp n=2)&&!decide (0≤nNum n∧nNum n<8))
def Qjd (p:Qae)(f:GFun)(sc bo:List Bool)(n:Qaf):Int⊕List Bool:=
 if QfF n=false then .inl 3
 else if Qo5 sc (uses n)=false then .inl 9
 else if (binds n).all (inR f)=false then .inl 2
 else if Qic p n=true then .inl 2
 else match Qkx bo (binds n) with
  | .inl _=>.inl 8
  | .inr bo'=>if Qhm p f n=false then .inl 10 else if Qns p f n=false then .inl 11 else .inr bo'
structure HOk (p:Qae)(f:GFun):Prop where
 par:0≤fPar f∧fPar f≤((Qad f).length:Int)
 res:isTy p.1 (fRes f)=true
 vars:∀ v∈Qad f,isTy p.1 v.1=true
theorem Qid {d:List Qah}{t:Int}:isTy d t=true↔0≤t∧t≤(d.length:Int):=by unfold isTy; rw [decide_eq_true_eq]
theorem HOk.kd {p:Qae}{f:GFun}(h:HOk p f)(v:Int):isTy p.1 (kd f v)=true:=by
 unfold LabB.kd
 split
 ·rename_i x hx; exact h.vars x (List.mem_of_getElem? hx)
 ·rw [Qid]; omega
theorem Qot (f:GFun){v:Int}(h0:0≤v)(h1:v<((Qad f).length:Int)):∃ x,at' (Qad f) v=some x∧(Qad f)[v.toNat]?=some x∧kd f v=x.1∧rdOf f v=x.2:=by
 obtain ⟨x,hx,hx'⟩:=Qfp h0 h1
 exact ⟨x,hx,hx',by unfold kd; rw [hx'],by unfold rdOf; rw [hx']⟩
section
variable (p:Qae) (f:GFun) (a b c:List Bool)
theorem Qnt {v:Int}(h0:0≤v)(h1:v<((Qad f).length:Int)):Qav a b c p.1 p.2 f.1 f.2.1 f.2.2.1 f.2.2.2.1 f.2.2.2.2.1 f.2.2.2.2.2.1 f.2.2.2.2.2.2 v=some (kd f v):=by
 obtain ⟨x,hx,_,hk,_⟩:=Qot f h0 h1
 rw [QjF,show at' f.2.2.2.1 v=_ from hx,Qaa,hk]
theorem QCc (hd:Qbo p.1){v:Int}(h0:0≤v)(h1:v<((Qad f).length:Int)):QbK a b c p.1 p.2 f.1 f.2.1 f.2.2.1 f.2.2.2.1 f.2.2.2.2.1 f.2.2.2.2.2.1 f.2.2.2.2.2.2 v=some (flat p.1 (kd f v)):=by
 rw [QjG,Qnt p f a b c h0 h1,Qaa,Qnp p.1 hd,Qaa]
theorem Qys (hole:Int)(l ts:List Int)(hl:l.length≤9223372036854775807)(hr:∀ v∈l,0≤v→v<((Qad f).length:Int)):
  Qde a b c ts p.1 p.2 f.1 f.2.1 f.2.2.1 f.2.2.2.1 f.2.2.2.2.1 f.2.2.2.2.2.1 f.2.2.2.2.2.2 l hole=some (tyL f hole l ts):=by
 rw [Qlb]
 unfold tyL
 by_cases he:l.length=ts.length
 ·rw [Qac (by omega),QbE he,Qg6 (L:=fun i=>Qbz a b c ts p.1 p.2 f.1 f.2.1 f.2.2.1 f.2.2.2.1 f.2.2.2.2.1 f.2.2.2.2.2.1 f.2.2.2.2.2.2 hole l (l.length:Int) i) (l:=l) (p:=fun i v=>if (i:Int)=hole then decide (v = -1) else decide (0≤v)&&decide (some (kd f v)=ts[i]?)) (A:=.inl ()) (B:=.inr ()) (fun i v hv=>by
   have hi:=Qa7 hv
   have ht:ts[i]?=some ts[i]:=List.getElem?_eq_getElem (by omega)
   rw [QeN,Qal hv,cond_true,Qag hv,Qaa,Qam hv hl]
   by_cases hh:(i:Int)=hole
   ·rw [Qac hh,if_pos hh,Qak]
   ·rw [Qab hh,if_neg hh]
    by_cases h0:v<0
    ·rw [Qac h0,QaP (show ¬ 0≤v by omega)]; rfl
    ·obtain ⟨x,hx,_,hk,_⟩:=Qot f (show 0≤v by omega) (hr v (List.mem_of_getElem? hv) (by omega))
     rw [Qab h0,show at' f.2.2.2.1 v=_ from hx,Qaa,Qag ht,Qaa,QbE (show 0≤v by omega),ht,hk,Qak]
     simp) (by rw [QeN,Qar,cond_false]),Qaa,Bool.true_and]
  cases allI _ _ _<;>rfl
 ·rw [Qab (by omega),QaP he]; rfl
theorem Qrs (hole:Int)(l ts:List Int)(hl:l.length≤9223372036854775807)(hr:∀ v∈l,0≤v→v<((Qad f).length:Int)):
  QbM a b c p.1 p.2 f.1 f.2.1 f.2.2.1 f.2.2.2.1 f.2.2.2.2.1 f.2.2.2.2.2.1 f.2.2.2.2.2.2 l ts hole=some (tyL f hole l ts):=by
 rw [QjH]
 unfold tyL
 by_cases he:l.length=ts.length
 ·rw [Qac (by omega),QbE he,Qg6 (L:=fun i=>Qbc a b c p.1 p.2 f.1 f.2.1 f.2.2.1 f.2.2.2.1 f.2.2.2.2.1 f.2.2.2.2.2.1 f.2.2.2.2.2.2 ts hole l (l.length:Int) i) (l:=l) (p:=fun i v=>if (i:Int)=hole then decide (v = -1) else decide (0≤v)&&decide (some (kd f v)=ts[i]?)) (A:=.inl ()) (B:=.inr ()) (fun i v hv=>by
   have hi:=Qa7 hv
   have ht:ts[i]?=some ts[i]:=List.getElem?_eq_getElem (by omega)
   rw [QdQ,Qal hv,cond_true,Qag hv,Qaa,Qam hv hl]
   by_cases hh:(i:Int)=hole
   ·rw [Qac hh,if_pos hh,Qak]
   ·rw [Qab hh,if_neg hh]
    by_cases h0:v<0
    ·rw [Qac h0,QaP (show ¬ 0≤v by omega)]; rfl
    ·obtain ⟨x,hx,_,hk,_⟩:=Qot f (show 0≤v by omega) (hr v (List.mem_of_getElem? hv) (by omega))
     rw [Qab h0,show at' f.2.2.2.1 v=_ from hx,Qaa,Qag ht,Qaa,QbE (show 0≤v by omega),ht,hk,Qak]
     simp) (by rw [QdQ,Qar,cond_false]),Qaa,Bool.true_and]
  cases allI _ _ _<;>rfl
 ·rw [Qab (by omega),QaP he]; rfl
theorem Qhn {d:List Qah}{t:Int}(h1:¬ t<1)(h:t≤(d.length:Int)):∃ x,at' d (t - 1)=some x∧QdW d t=x.2∧x∈d:=by
 obtain ⟨x,hx,hx'⟩:=Qfp (l:=d) (i:=t - 1) (by omega) (by omega)
 exact ⟨x,hx,by unfold QdW; rw [if_neg h1,hx'],List.mem_of_getElem? hx'⟩
theorem Qrt (hd:Qbo p.1)(t con:Int)(ht:isTy p.1 t=true):QcH a b c p.1 p.2 f.1 f.2.1 f.2.2.1 f.2.2.2.1 f.2.2.2.2.1 f.2.2.2.2.2.1 f.2.2.2.2.2.2 t con=some (match fieldsOf p t con with |none=>.inl () |some ts=>.inr ts):=by
 rw [Qid] at ht
 have hl:=hd.len
 rw [Qkp]
 simp only [Qai,Qaa,Qaz,QaQ]
 unfold fieldsOf
 by_cases h1:t<1∨con<0
 ·rw [if_pos h1,Qnf (by simp only [Bool.or_eq_true,decide_eq_true_eq]; exact h1)]; rfl
 ·rw [if_neg h1,Qdd (by simp only [Bool.or_eq_false_iff,decide_eq_false_iff_not]; omega),Qhl (by omega) (by omega)]
  obtain ⟨x,hx,hc,hm⟩:=Qhn (d:=p.1) (t:=t) (by omega) (by omega)
  rw [hx,Qaa,hc,Qaa]
  rcases Qni x.2 con with ⟨h0,h2,y,hy,hy',_⟩ |⟨h2,hy⟩
  ·rw [QbE h2,Bool.not_true,cond_false,Qaa,hy,hy']; rfl
  ·rw [QaP (show ¬ con<(x.2.length:Int) by omega),List.getElem?_eq_none (by omega)]; rfl
theorem Qxn (hp:QbS p)(g:Int)(h0:0≤g)(h1:g<(p.2.length:Int)):∃ l,QeA a b c p.1 p.2 f.1 f.2.1 f.2.2.1 f.2.2.2.1 f.2.2.2.2.1 f.2.2.2.2.2.1 f.2.2.2.2.2.2 g=some (l,(QjO p g).isSome)∧∀ ts,QjO p g=some ts→l=ts:=by
 obtain ⟨h,hh,hh'⟩:=Qfp h0 h1
 have hs:=hp.all h (List.mem_of_getElem? hh')
 have hv:=hs.vars
 rw [Qkr,hh,Qaa]
 simp only [Qai,Qaa,QaQ]
 unfold QjO
 rw [hh']
 simp only
 by_cases hc:fPar h<0∨((Qad h).length:Int)<fPar h
 ·rw [if_pos hc,Qnf (by simp only [Bool.or_eq_true,decide_eq_true_eq]; exact hc)]
  exact ⟨_,rfl,fun ts h=>by cases h⟩
 ·rw [if_neg hc,Qdd (by simp only [Bool.or_eq_false_iff,decide_eq_false_iff_not]; show ¬ fPar h<0∧¬ ((Qad h).length:Int)<fPar h; omega),Qab (show ¬ fPar h<0 by omega),Qab (show ¬ ((Qad h).length:Int)<fPar h by omega)]
  have hl:(List.take (fPar h).toNat (Qad h)).length≤1000000:=by rw [List.length_take]; exact Nat.le_trans (Nat.min_le_right _ _) hv
  have:=QaM (L:=fun s i=>Qbm a b c s p.1 p.2 f.1 f.2.1 f.2.2.1 f.2.2.2.1 f.2.2.2.2.1 f.2.2.2.2.2.1 f.2.2.2.2.2.2 (List.take (fPar h).toNat (Qad h)) ((List.take (fPar h).toNat (Qad h)).length:Int) i) (l:=List.take (fPar h).toNat (Qad h)) (F:=fun s x=>s++[x.1]) (E:=id) (fun i s=>s.length≤i)
   (fun s i x hx hI=>⟨by
    have:=Qa7 hx
    rw [Qem,Qal hx,cond_true,Qag hx,Qaa,Qac (by omega),Qam hx (by omega)],by simp; omega⟩)
   (fun s hI=>by rw [Qem,Qar,cond_false]; rfl) [] (by simp)
  rw [show Qbm a b c [] p.1 p.2 f.1 f.2.1 f.2.2.1 f.2.2.2.1 f.2.2.2.2.1 f.2.2.2.2.2.1 f.2.2.2.2.2.2 (List.take h.2.1.toNat h.2.2.2.1) ((List.take h.2.1.toNat h.2.2.2.1).length:Int) 0=_ from this,QlJ]
  exact ⟨_,rfl,fun ts h=>by simp only [osi] at h; rw [← h]; rfl⟩
theorem Qru (hp:QbS p)(g:Int)(l:List Int)(h0:0≤g)(h1:g<(p.2.length:Int))(hl:l.length≤9223372036854775807)(hr:∀ v∈l,0≤v→v<((Qad f).length:Int)):Qcz a b c p.1 p.2 f.1 f.2.1 f.2.2.1 f.2.2.2.1 f.2.2.2.2.1 f.2.2.2.2.2.1 f.2.2.2.2.2.2 g l=some (Qii p f g l):=by
 obtain ⟨ts,h2,h3⟩:=Qxn p f a b c hp g h0 h1
 rw [QlO,h2,Qaa]
 unfold Qii
 cases hpo:QjO p g with
 | none=>rfl
 | some ts'=>
  rw [h3 ts' hpo]
  simp only [Option.isSome_some,cond_true]
  rw [Qys p f a b c (-1) l ts' hl hr]
  rfl
theorem QsS (p:Qae){g:Int}(h0:0≤g)(h1:g<(p.2.length:Int)):∃ h,at' p.2 g=some h∧Qxm p g=h.2.2.1:=by
 obtain ⟨h,hh,hh'⟩:=Qfp h0 h1
 exact ⟨h,hh,by unfold Qxm; rw [hh']⟩
theorem Qxo (hp:QbS p)(t:Int)(ht:isTy p.1 t=true)(h1:¬ t<1)(l:List Qcq)(hl:l.length≤1000)(hc:l.length=(QdW p.1 t).length)(hbl:∀ x∈l,x.1.length≤1073741824)(hr:∀ x∈l,∀ v∈x.1,0≤v→v<((Qad f).length:Int)):
  Qa1 a b c p.1 p.2 f.1 f.2.1 f.2.2.1 f.2.2.2.1 f.2.2.2.2.1 f.2.2.2.2.2.1 f.2.2.2.2.2.2 t l (l.length:Int) 0=some (if allI (fun i x=>match (QdW p.1 t)[i]? with |some c=>tyL f (-1) x.1 c.2 |none=>false) 0 l=true then .inr () else .inl ()):=by
 rw [Qid] at ht
 have hdl:=hp.Qnr.len
 obtain ⟨x,hx,hco,_⟩:=Qhn (d:=p.1) (t:=t) h1 ht.2
 refine Qg6 (L:=fun i=>Qa1 a b c p.1 p.2 f.1 f.2.1 f.2.2.1 f.2.2.2.1 f.2.2.2.2.1 f.2.2.2.2.2.1 f.2.2.2.2.2.2 t l (l.length:Int) i) (fun i y hy=>?_) ?_
 ·have hm:=List.mem_of_getElem? hy
  have hi:=Qa7 hy
  have hi2:i<x.2.length:=by rw [← hco]; omega
  have hci:x.2[i]?=some x.2[i]:=List.getElem?_eq_getElem hi2
  rw [QeO,Qal hy,cond_true,Qag hy,Qaa,Qhl (by omega) (by omega),hx,Qaa,Qag hci,Qaa,Qrs p f a b c (-1) y.1 _ (by have:=hbl y hm; omega) (hr y hm),Qaa,Qam hy (by omega),hco,hci,Qak]
 ·rw [QeO,Qar,cond_false]
theorem QCd (n:Qaf)(h:QaG n≠[]):at' (QaG n) 0=some (arg0 n)∧arg0 n∈QaG n:=by
 unfold arg0
 cases hn:QaG n with
 | nil=>exact absurd hn h
 | cons v l=>exact ⟨at_0 v l,by simp⟩
theorem QzG (hp:QbS p)(ho:HOk p f)(n:Qaf)(hn:QbN n)(hform:QfF n=true)(hu:∀ v∈uses n,0≤v∧v<((Qad f).length:Int))(hb:∀ v∈binds n,0≤v∧v<((Qad f).length:Int))(hbad:Qic p n=false):
  QaW a b c p.1 p.2 f.1 f.2.1 f.2.2.1 f.2.2.2.1 f.2.2.2.2.1 f.2.2.2.2.2.1 f.2.2.2.2.2.2 n=some (Qhm p f n):=by
 unfold QfF at hform
 simp only [Bool.and_eq_true,decide_eq_true_eq,Bool.or_eq_true] at hform
 obtain ⟨⟨⟨⟨⟨⟨⟨⟨⟨hop,hargs⟩,_⟩,_⟩,_⟩,_⟩,_⟩,_⟩,_⟩,_⟩:=hform
 unfold Qic at hbad
 rw [Bool.or_eq_false_iff] at hbad
 obtain ⟨hbad,hbad2⟩:=hbad
 have hd:=hp.Qnr
 have hdl:=hd.len
 have ha:=hn.args
 have hm:=hn.more
 have hone:(nOp n=0∨nOp n=4∨nOp n=5∨nOp n=9)→at' (QaG n) 0=some (arg0 n)∧0≤arg0 n∧arg0 n<((Qad f).length:Int):=by
  intro h
  have h1:fArgs (nOp n)=1:=by unfold fArgs; rw [if_pos h]
  rw [h1] at hargs
  have hne:QaG n≠[]:=by intro he; rw [he] at hargs; simp at hargs
  obtain ⟨h2,h3⟩:=QCd n hne
  refine ⟨h2,hu _ ?_⟩
  unfold uses
  rw [if_neg (by omega),if_neg (by omega)]
  exact h3
 have hall:nOp n≠8→nOp n≠1→∀ v∈QaG n,0≤v→v<((Qad f).length:Int):=fun h8 h1 v hv _=>(hu v (by unfold uses; rw [if_neg (by omega),if_neg h8]; exact hv)).2
 have hvar:Qkf (nOp n)=true→0≤nVar n∧nVar n<((Qad f).length:Int):=by
  intro h
  apply hb
  unfold binds
  have h9:nOp n≠9:=by unfold Qkf at h; rw [decide_eq_true_eq] at h; omega
  rw [if_neg h9,if_pos h]
  simp
 have hfun:fFun (nOp n)=true→0≤nFun n∧nFun n<(p.2.length:Int):=by
  intro h
  rw [h] at hbad
  simpa using hbad
 rw [Qla]
 unfold Qhm
 by_cases h0:nOp n=0
 ·obtain ⟨h1,h2,h3⟩:=hone (by omega)
  rw [Qac h0,if_pos h0,show at' n.2.2.1 0=_ from h1,Qaa,Qnt p f a b c h2 h3]
  rfl
 rw [Qab h0,if_neg h0]
 by_cases h1:nOp n=1
 ·obtain ⟨h2,h3⟩:=hvar (by rw [h1]; rfl)
  rw [Qac h1,if_pos h1,Qnt p f a b c h2 h3]
  rfl
 rw [Qab h1,if_neg h1]
 by_cases h2:nOp n=2
 ·obtain ⟨h3,h4⟩:=hvar (by rw [h2]; rfl)
  rw [Qac h2,if_pos h2,QlE,Qaa,Qys p f a b c (-1) n.2.2.1 [0,0] (by have:n.2.2.1.length≤1000:=ha; omega) (hall (by omega) h1),Qnt p f a b c h3 h4]
  simp only [Qaa,Qai,Qeo]
  rw [QEi]
 rw [Qab h2,if_neg h2]
 by_cases h3:nOp n=3
 ·obtain ⟨h4,h5⟩:=hvar (by rw [h3]; rfl)
  rw [Qac h3,if_pos h3,Qnt p f a b c h4 h5,Qaa,Qrt p f a b c hd _ _ (ho.kd _),Qaa]
  show _=some (match fieldsOf p (kd f n.2.1) n.2.2.2.1 with |none=>false |some ts=>tyL f (-1) (QaG n) ts)
  cases fieldsOf p (kd f n.2.1) n.2.2.2.1 with
  | none=>rfl
  | some ts=>
   simp only
   rw [Qrs p f a b c (-1) n.2.2.1 ts (by have:n.2.2.1.length≤1000:=ha; omega) (hall (by omega) h1)]
   rfl
 rw [Qab h3,if_neg h3]
 by_cases h4:nOp n=4
 ·obtain ⟨h5,h6⟩:=hvar (by rw [h4]; rfl)
  obtain ⟨h7,h8,h9⟩:=hone (by omega)
  rw [Qac h4,if_pos h4,show at' n.2.2.1 0=_ from h7,Qaa,Qnt p f a b c h5 h6,Qnt p f a b c h8 h9,Qaa,Qaa,QCc p f a b c hd h5 h6,Qaa,Qai,Qeo]
 rw [Qab h4,if_neg h4]
 by_cases h5:nOp n=5
 ·obtain ⟨h7,h8,h9⟩:=hone (by omega)
  rw [Qac h5,if_pos h5,show at' n.2.2.1 0=_ from h7,Qaa,QCc p f a b c hd h8 h9,Qaa]
 rw [Qab h5,if_neg h5]
 by_cases h6:nOp n=6
 ·obtain ⟨h7,h8⟩:=hvar (by rw [h6]; rfl)
  obtain ⟨h9,h10⟩:=hfun (by rw [h6]; rfl)
  obtain ⟨g,hg,hres⟩:=QsS p h9 h10
  rw [Qac h6,if_pos h6,Qru p f a b c hp _ n.2.2.1 h9 h10 (by have:n.2.2.1.length≤1000:=ha; omega) (hall (by omega) h1),Qaa,Qnt p f a b c h7 h8,show at' p.2 n.2.2.2.2.2.1=_ from hg,Qaa,Qaa,Qai,Qeo,← hres]
 rw [Qab h6,if_neg h6]
 by_cases h7:nOp n=7
 ·obtain ⟨h9,h10⟩:=hfun (by rw [h7]; rfl)
  obtain ⟨g,hg,hres⟩:=QsS p h9 h10
  rw [Qac h7,if_pos h7,Qru p f a b c hp _ n.2.2.1 h9 h10 (by have:n.2.2.1.length≤1000:=ha; omega) (hall (by omega) h1),Qaa,show at' p.2 n.2.2.2.2.2.1=_ from hg,Qaa,Qai,Qeo,← hres]
 rw [Qab h7,if_neg h7]
 by_cases h8:nOp n=8
 ·obtain ⟨h9,h10⟩:=hfun (by rw [h8]; rfl)
  obtain ⟨g,hg,hres⟩:=QsS p h9 h10
  have hv:∀ v∈QaG n++Qfq n,0≤v→v<((Qad f).length:Int):=fun v hv h0=>(hu v (by unfold uses; rw [if_neg (by omega),if_pos h8,List.mem_filter]; exact ⟨hv,by simpa using h0⟩)).2
  rw [Qac h8,if_pos h8,Qrt p f a b c hd _ _ ho.res,Qaa]
  show _=some (match fieldsOf p f.2.2.1 n.2.2.2.1 with |none=>false |some ts=>decide (0≤nNum n∧nNum n<(ts.length:Int))&&tyL f (nNum n) (QaG n) ts&&Qii p f (nFun n) (Qfq n)&&decide (some (Qxm p (nFun n))=ts[(nNum n).toNat]?))
  cases fieldsOf p f.2.2.1 n.2.2.2.1 with
  | none=>rfl
  | some ts=>
   simp only [Qai,Qaa,QaQ]
   rw [Qrs p f a b c _ n.2.2.1 ts (by have:n.2.2.1.length≤1000:=ha; omega) (fun v h=>hv v (by simp; exact Or.inl h)),Qru p f a b c hp _ n.2.2.2.2.2.2.1 h9 h10 (by have:n.2.2.2.2.2.2.1.length≤1000:=hm; omega) (fun v h=>hv v (by simp; exact Or.inr h)),show at' p.2 n.2.2.2.2.2.1=_ from hg]
   simp only [Qai,Qaa,QaQ,Qaz]
   by_cases hnum:0≤nNum n∧nNum n<(ts.length:Int)
   ·obtain ⟨t,ht,ht'⟩:=Qfp hnum.1 hnum.2
    rw [QbE hnum,show decide (n.2.2.2.2.1<0)=false from QaP (show ¬ nNum n<0 by omega),show decide (n.2.2.2.2.1<(ts.length:Int))=true from QbE hnum.2,show at' ts n.2.2.2.2.1=_ from ht,ht',hres]
    simp only [Bool.not_true,Bool.or_false,cond_false,Bool.true_and,Qaa,osi]
    show (bif !(tyL f (nNum n) (QaG n) ts) then some false else bif Qii p f (nFun n) (Qfq n) then some (decide (g.2.2.1=t)) else some false)=_
    cases tyL f (nNum n) (QaG n) ts<;>cases Qii p f (nFun n) (Qfq n)<;>rfl
   ·rw [QaP hnum,show (decide (n.2.2.2.2.1<0)||!decide (n.2.2.2.2.1<(ts.length:Int)))=true by
     rw [Bool.or_eq_true,Bool.not_eq_true',decide_eq_true_eq,decide_eq_false_iff_not]; show nNum n<0∨¬ nNum n<(ts.length:Int); omega]
    rfl
 rw [Qab h8,if_neg h8]
 obtain ⟨h9,h10,h11⟩:=hone (by omega)
 rw [show at' n.2.2.1 0=_ from h9,Qaa,Qnt p f a b c h10 h11,Qaa,QCc p f a b c hd h10 h11]
 have hty:=ho.kd (arg0 n)
 have hty':=hty
 rw [Qid] at hty'
 by_cases ht1:kd f (arg0 n)<1
 ·rw [Qac ht1,QbE ht1]; rfl
 ·rw [Qab ht1,QaP ht1,Qhl (by omega) (by omega)]
  obtain ⟨x,hx,hco,_⟩:=Qhn (d:=p.1) (t:=kd f (arg0 n)) ht1 hty'.2
  rw [hx,Qaa]
  by_cases hlen:(nBr n).length=(QdW p.1 (kd f (arg0 n))).length
  ·have h9:nOp n=9:=by omega
   have hbr:∀ x∈nBr n,∀ v∈x.1,0≤v→v<((Qad f).length:Int):=fun x hx v hv _=>(hb v (by unfold binds; rw [if_pos h9,List.mem_flatMap]; exact ⟨x,hx,hv⟩)).2
   rw [QbE hlen,Qac (show ((n.2.2.2.2.2.2.2.2.1.length:Int)=(x.2.length:Int)) by rw [← hco]; exact congrArg _ hlen),Qxo p f a b c hp _ hty ht1 n.2.2.2.2.2.2.2.2.1 hn.br hlen hn.bs hbr]
   simp only [Qaa,Bool.not_false,Bool.true_and]
   show (bif Qfr n then _ else _)=some (!(Qfr n&&flat p.1 (kd f (arg0 n)))&&_)
   cases Qfr n<;>cases flat p.1 (kd f (arg0 n))<;>simp only [cond_true,cond_false,Bool.and_true,Bool.and_false,Bool.true_and,Bool.false_and,Bool.not_true,Bool.not_false]<;>(first |rfl |(cases allI _ 0 _<;>rfl))
  ·rw [QaP hlen,Qab (show ¬ ((n.2.2.2.2.2.2.2.2.1.length:Int)=(x.2.length:Int)) by rw [← hco]; show ¬ (((nBr n).length:Int)=_); omega)]
   simp
end
end Go.Proofs.YtkecfadnfnnfaaaGreatDoor.LabB
namespace Go.Proofs.YtkecfadnfnnfaaaGreatDoor.LabB
open Go Go.Ev Go.Sy
theorem QvJ:∀ (l:List Int) (bo:List Bool) (i:Nat),runI (fun _ s v=>if s[v.toNat]?=some false then .inl (s.set v.toNat true) else .inr (.inl s)) (fun s=>(.inr s:List Bool⊕List Bool)) i bo l=Qkx bo l
 | [],bo,i=>rfl
 | v::l,bo,i=>by
  rw [runI,Qkx]
  by_cases h:bo[v.toNat]?=some false
  ·rw [if_pos h,if_pos h]; exact QvJ l _ _
  ·rw [if_neg h,if_neg h]
theorem tf:¬ (true=false):=by simp
theorem ft:¬ (false=true):=by simp
section
variable (p:Qae) (f:GFun) (a b c:List Bool)
theorem QGK (n:Qaf)(l:List Int)(hl:l.length≤9223372036854775807):Qbx a b c p.1 p.2 f.1 f.2.1 f.2.2.1 f.2.2.2.1 f.2.2.2.2.1 f.2.2.2.2.2.1 f.2.2.2.2.2.2 n l (l.length:Int) 0=some (if Qo5 c l=true then .inr () else .inl ()):=by
 refine QaF (L:=fun i=>Qbx a b c p.1 p.2 f.1 f.2.1 f.2.2.1 f.2.2.2.1 f.2.2.2.2.1 f.2.2.2.2.2.1 f.2.2.2.2.2.2 n l (l.length:Int) i) (p:=fun (v:Int)=>decide (0≤v∧c[v.toNat]?=some true)) (fun i v hv=>?_) ?_
 ·rw [QeL,Qal hv,cond_true,Qag hv,Qam hv hl]
  simp only [Qaa,Qai,QaQ]
  rcases Qni c v with ⟨h0,h1,y,hy,hy',_⟩ |⟨h1,hy⟩
  ·rw [QaP (show ¬ v<0 by omega),QbE h1,hy,hy']
   cases y<;>simp [Qaa,h0]
  ·have hz:(decide (v<0)||!decide (v<(c.length:Int)))=true:=by
    rw [Bool.or_eq_true,Bool.not_eq_true',decide_eq_true_eq,decide_eq_false_iff_not]; omega
   rw [hz,cond_true,Qaa,cond_true,if_neg (by
    rw [decide_eq_true_eq]
    rintro ⟨h2,h3⟩
    have:=Qa7 h3
    omega)]
 ·rw [QeL,Qar,cond_false]
theorem QGL (n:Qaf)(bs l:List Int)(hl:l.length≤9223372036854775807):Qby a b c p.1 p.2 f.1 f.2.1 f.2.2.1 f.2.2.2.1 f.2.2.2.2.1 f.2.2.2.2.2.1 f.2.2.2.2.2.2 n bs l (l.length:Int) 0=some (if l.all (inR f)=true then .inr () else .inl ()):=by
 refine QaF (L:=fun i=>Qby a b c p.1 p.2 f.1 f.2.1 f.2.2.1 f.2.2.2.1 f.2.2.2.2.1 f.2.2.2.2.2.1 f.2.2.2.2.2.2 n bs l (l.length:Int) i) (p:=inR f) (fun i v hv=>?_) ?_
 ·rw [QeM,Qal hv,cond_true,Qag hv,Qam hv hl]
  simp only [Qaa,Qai,QaQ]
  unfold inR
  by_cases h:0≤v∧v<((Qad f).length:Int)
  ·rw [QbE h,if_pos rfl,QaP (show ¬ v<0 by omega),show decide (v<(f.2.2.2.1.length:Int))=true from QbE h.2]; rfl
  ·rw [QaP h,if_neg (by simp),show (decide (v<0)||!decide (v<(f.2.2.2.1.length:Int)))=true by
    rw [Bool.or_eq_true,Bool.not_eq_true',decide_eq_true_eq,decide_eq_false_iff_not]; show v<0∨¬ v<((Qad f).length:Int); omega]
   rfl
 ·rw [QeM,Qar,cond_false]
theorem QGM (n:Qaf)(bs l:List Int)(hl:l.length≤9223372036854775807)(hr:∀ v∈l,0≤v∧v<((Qad f).length:Int))(hb:b.length=(Qad f).length):QaD a b c p.1 p.2 f.1 f.2.1 f.2.2.1 f.2.2.2.1 f.2.2.2.2.1 f.2.2.2.2.2.1 f.2.2.2.2.2.2 n bs l (l.length:Int) 0=some (Qkx b l):=by
 rw [← QvJ l b 0]
 refine Qyk (L:=fun s i=>QaD a s c p.1 p.2 f.1 f.2.1 f.2.2.1 f.2.2.2.1 f.2.2.2.2.1 f.2.2.2.2.2.1 f.2.2.2.2.2.2 n bs l (l.length:Int) i) (fun _ s=>s.length=(Qad f).length) (fun s i v hv hI=>?_) (fun s hI=>?_) b hb
 ·obtain ⟨h0,h1⟩:=hr v (List.mem_of_getElem? hv)
  have hI':s.length=(Qad f).length:=hI
  obtain ⟨y,hy,hy'⟩:=Qfp (l:=s) h0 (by omega)
  cases y with
  | true=>
   rw [if_neg (by rw [hy']; simp)]
   show QaD a s c p.1 p.2 f.1 f.2.1 f.2.2.1 f.2.2.2.1 f.2.2.2.2.1 f.2.2.2.2.2.1 f.2.2.2.2.2.2 n bs l (l.length:Int) (i:Int)=some (.inl s)
   rw [QcB,Qal hv,cond_true,Qag hv,Qaa,hy,Qaa,cond_true]
  | false=>
   rw [if_pos hy']
   refine ⟨?_,by simpa using hI⟩
   rw [QcB,Qal hv,cond_true,Qag hv,Qaa,hy,Qaa,cond_false,Qam hv hl]
 ·rw [QcB,Qar,cond_false]
theorem QGN (hd:Qbo p.1)(n:Qaf)(l:List Int)(hl:l.length≤9223372036854775807)(hr:∀ v∈l,0≤v∧v<((Qad f).length:Int)):Qaq a b c p.1 p.2 f.1 f.2.1 f.2.2.1 f.2.2.2.1 f.2.2.2.2.1 f.2.2.2.2.2.1 f.2.2.2.2.2.2 n l (l.length:Int) 0=some (if (l.all fun v=>rdOf f v==(decide (nOp n=9)&&(!Qfr n&&!flat p.1 (kd f v))))=true then .inr () else .inl ()):=by
 refine QaF (L:=fun i=>Qaq a b c p.1 p.2 f.1 f.2.1 f.2.2.1 f.2.2.2.1 f.2.2.2.2.1 f.2.2.2.2.2.1 f.2.2.2.2.2.2 n l (l.length:Int) i) (p:=fun v=>rdOf f v==(decide (nOp n=9)&&(!Qfr n&&!flat p.1 (kd f v)))) (fun i v hv=>?_) ?_
 ·obtain ⟨h0,h1⟩:=hr v (List.mem_of_getElem? hv)
  obtain ⟨x,hx,_,hk,hrd⟩:=Qot f h0 h1
  rw [QeP,Qal hv,cond_true,Qag hv,Qaa,show at' f.2.2.2.1 v=_ from hx,Qaa,Qnp p.1 hd,Qaa,Qam hv hl,hk,hrd]
  show (bif decide (nOp n=9) then bif Qfr n then _ else _ else _)=_
  cases decide (nOp n=9)<;>cases Qfr n<;>cases x.2<;>cases flat p.1 x.1<;>rfl
 ·rw [QeP,Qar,cond_false]
theorem Qyt (n:Qaf)(h:QbN n):(uses n).length≤2000:=by
 have ha:=h.args
 have hm:=h.more
 unfold uses
 split
 ·simp
 ·split
  ·have:=List.length_filter_le (fun v=>decide (0≤v)) (QaG n++Qfq n)
   rw [List.length_append] at this
   omega
  ·omega
theorem Qrv {α β:Type}(g:α→List β)(K:Nat):∀ l:List α,(∀ x∈l,(g x).length≤K)→(l.flatMap g).length≤l.length * K
 | [],h=>by simp
 | x::l,h=>by
  have h1:=h x (by simp)
  have h2:=Qrv g K l (fun y hy=>h y (by simp [hy]))
  rw [List.flatMap_cons,List.length_append,List.length_cons,Nat.add_mul]
  omega
theorem Qnu (n:Qaf)(h:QbN n):(binds n).length≤1073741824000:=by
 have hb:=h.br
 unfold binds
 split
 ·have:=Qrv (fun b:Qcq=>b.1) 1073741824 (nBr n) h.bs
  omega
 ·split<;>simp
theorem QzH (hp:QbS p)(ho:HOk p f)(n:Qaf)(hn:QbN n)(hb:b.length=(Qad f).length)(hc:c.length=(Qad f).length):
  ∃ b' e,Qfb a b c p.1 p.2 f.1 f.2.1 f.2.2.1 f.2.2.2.1 f.2.2.2.2.1 f.2.2.2.2.2.1 f.2.2.2.2.2.2 n=some (b',e)∧(match Qjd p f c b n with | .inl e'=>e=e'∧e'≠0 | .inr bo'=>e=0∧b'=bo'):=by
 have hul:=Qyt n hn
 have hbl:=Qnu n hn
 rw [Qk7,QBZ,Qaa]
 unfold Qjd
 cases hform:QfF n with
 | false=>exact ⟨_,_,rfl,rfl,by decide⟩
 | true=>
  rw [cond_true,QB2 n hn,Qaa,QGK p f a b c n _ (by omega),Qaa,if_neg tf]
  cases hu:Qo5 c (uses n) with
  | false=>exact ⟨_,_,rfl,rfl,by decide⟩
  | true=>
   rw [if_pos (show true=true from rfl),QgL n hn]
   simp only [Qaa]
   rw [QGL p f a b c n _ _ (by omega),Qaa,if_neg tf]
   cases hr:(binds n).all (inR f) with
   | false=>exact ⟨_,_,rfl,rfl,by decide⟩
   | true=>
    rw [if_pos (show true=true from rfl)]
    simp only
    have hop:0≤nOp n∧nOp n<10:=by
     unfold QfF at hform
     simp only [Bool.and_eq_true,decide_eq_true_eq] at hform
     exact hform.1.1.1.1.1.1.1.1.1
    rw [Qnn,Qaa,Qyo n.1 hop,Qaa,if_neg tf]
    have hr':∀ v∈binds n,0≤v∧v<((Qad f).length:Int):=fun v hv=>by
     have:=List.all_eq_true.1 hr v hv
     unfold inR at this
     simpa using this
    have hu':∀ v∈uses n,0≤v∧v<((Qad f).length:Int):=fun v hv=>by
     have:=List.all_eq_true.1 hu v hv
     rw [decide_eq_true_eq] at this
     have:=Qa7 this.2
     omega
    rw [QGM p f a b c n _ _ (by omega) hr' hb]
    show ∃ b' e,(bif fFun (nOp n) then _ else _)=some (b',e)∧_
    cases hbad:Qic p n with
    | true=>
     rw [if_pos (show true=true from rfl)]
     refine ⟨b,2,?_,rfl,by decide⟩
     unfold Qic at hbad
     rw [Bool.or_eq_true] at hbad
     cases hff:fFun (nOp n) with
     | true=>
      have h2:nOp n≠2:=by unfold fFun at hff; rw [decide_eq_true_eq] at hff; omega
      rw [hff,QaP h2] at hbad
      simp only [Bool.true_and,Bool.false_and,Bool.false_eq_true,or_false,Bool.not_eq_true',decide_eq_false_iff_not] at hbad
      rw [cond_true]
      by_cases h0:nFun n<0
      ·rw [Qac h0]
      ·rw [Qab h0,Qab (show ¬ nFun n<(p.2.length:Int) by omega)]
     | false=>
      rw [hff] at hbad
      simp only [Bool.false_and,Bool.false_eq_true,false_or,Bool.and_eq_true,decide_eq_true_eq,Bool.not_eq_true',decide_eq_false_iff_not] at hbad
      rw [cond_false,Qac hbad.1]
      by_cases h0:nNum n<0
      ·rw [Qac h0]
      ·rw [Qab h0,Qab (show ¬ nNum n<8 by omega)]
    | false=>
     rw [if_neg ft]
     have key:∀ bo,Qkx b (binds n)=.inr bo→QaW a bo c p.1 p.2 f.1 f.2.1 f.2.2.1 f.2.2.2.1 f.2.2.2.2.1 f.2.2.2.2.2.1 f.2.2.2.2.2.2 n=some (Qhm p f n):=fun bo _=>QzG p f a bo c hp ho n hn hform hu' hr' hbad
     have key6:∀ bo,Qaq a bo c p.1 p.2 f.1 f.2.1 f.2.2.1 f.2.2.2.1 f.2.2.2.2.1 f.2.2.2.2.2.1 f.2.2.2.2.2.2 n (binds n) ((binds n).length:Int) 0=some (if Qns p f n=true then .inr () else .inl ()):=fun bo=>QGN p f a bo c hp.Qnr n _ (by omega) hr'
     unfold Qic at hbad
     rw [Bool.or_eq_false_iff] at hbad
     obtain ⟨hbad1,hbad2⟩:=hbad
     have tail:∃ b' e,(Option.bind (some (Qkx b (binds n))) fun z=>match z with
       | .inl v17=>some (v17,(8:Int))
       | .inr v17=>Option.bind (QaW a v17 c p.1 p.2 f.1 f.2.1 f.2.2.1 f.2.2.2.1 f.2.2.2.2.1 f.2.2.2.2.2.1 f.2.2.2.2.2.2 n) fun v18=>bif v18 then
         Option.bind (Qaq a v17 c p.1 p.2 f.1 f.2.1 f.2.2.1 f.2.2.2.1 f.2.2.2.2.1 f.2.2.2.2.2.1 f.2.2.2.2.2.2 n (binds n) ((binds n).length:Int) 0) fun z=>match z with
          | .inl _=>some (v17,11)
          | .inr _=>some (v17,0)
        else some (v17,10))=some (b',e)∧(match (match Qkx b (binds n) with
        | .inl _=>(.inl 8:Int⊕List Bool)
        | .inr bo'=>if Qhm p f n=false then .inl 10 else if Qns p f n=false then .inl 11 else .inr bo') with | .inl e'=>e=e'∧e'≠0 | .inr bo'=>e=0∧b'=bo'):=by
      rw [Qaa]
      cases hm:Qkx b (binds n) with
      | inl bo=>exact ⟨_,_,rfl,rfl,by decide⟩
      | inr bo=>
       simp only
       rw [key bo hm,Qaa,key6 bo]
       cases Qhm p f n with
       | false=>exact ⟨_,_,rfl,rfl,by decide⟩
       | true=>
        cases Qns p f n with
        | false=>exact ⟨_,_,rfl,rfl,by decide⟩
        | true=>exact ⟨_,_,rfl,rfl,rfl⟩
     cases hff:fFun (nOp n) with
     | true=>
      rw [hff] at hbad1
      simp only [Bool.true_and,Bool.not_eq_false',decide_eq_true_eq] at hbad1
      have h2:nOp n≠2:=by unfold fFun at hff; rw [decide_eq_true_eq] at hff; omega
      rw [cond_true,Qab (show ¬ nFun n<0 by omega),Qac (show nFun n<(p.2.length:Int) from hbad1.2),Qab h2]
      exact tail
     | false=>
      rw [cond_false]
      by_cases h2:nOp n=2
      ·rw [QbE h2] at hbad2
       simp only [Bool.true_and,Bool.not_eq_false',decide_eq_true_eq] at hbad2
       rw [Qac h2,Qab (show ¬ nNum n<0 by omega),Qac (show nNum n<8 from hbad2.2)]
       exact tail
      ·rw [Qab h2]
       exact tail
end
end Go.Proofs.YtkecfadnfnnfaaaGreatDoor.LabB
