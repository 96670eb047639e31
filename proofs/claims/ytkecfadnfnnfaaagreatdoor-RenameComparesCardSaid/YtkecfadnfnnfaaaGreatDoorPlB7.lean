/- Of the models: a node alone, of the program, whole. -/
import Derived.Test.YtkecfadnfnnfaaaGreatDoorPlB5
set_option linter.unusedVariables false
set_option linter.unusedSimpArgs false
namespace Go.Proofs.YtkecfadnfnnfaaaGreatDoor.LabB
open Go Go.Ev Go.Sy
def kd (f:GFun)(v:Int):Int:=match (Qad f)[v.toNat]? with |some x=>x.1 |none=>0
def rdOf (f:GFun)(v:Int):Bool:=match (Qad f)[v.toNat]? with |some x=>x.2 |none=>false
def inR (f:GFun)(v:Int):Bool:=decide (0≤v∧v<((Qad f).length:Int))
def tyL (f:GFun)(hole:Int)(l:List Int)(ts:List Int):Bool:=decide (l.length=ts.length)&&allI (fun i v=>if (i:Int)=hole then decide (v = -1) else decide (0≤v)&&decide (some (kd f v)=ts[i]?)) 0 l
def fieldsOf (p:Qag)(t con:Int):Option (List Int):=if t<1∨con<0 then none else match (Qez p.1 t)[con.toNat]? with |some c=>some c.2 |none=>none
def Qlp (p:Qag)(g:Int):Option (List Int):=match p.2[g.toNat]? with
 | none=>none
 | some h=>if fPar h<0∨((Qad h).length:Int)<fPar h then none else some (((Qad h).take (fPar h).toNat).map (·.1))
def Qko (p:Qag)(f:GFun)(g:Int)(l:List Int):Bool:=match Qlp p g with |none=>false |some ts=>tyL f (-1) l ts
def QwS (p:Qag)(g:Int):Int:=match p.2[g.toNat]? with |some h=>fRes h |none=>0
def arg0 (n:Qae):Int:=match QaO n with |v::_=>v |[]=>0
def QkZ (p:Qag)(f:GFun)(n:Qae):Bool:=
 if nOp n=0 then decide (kd f (arg0 n)=fRes f)
 else if nOp n=1 then decide (kd f (nVar n)=0)
 else if nOp n=2 then tyL f (-1) (QaO n) [0,0]&&decide (kd f (nVar n)=if nNum n<5 then 0 else 1)
 else if nOp n=3 then (match fieldsOf p (kd f (nVar n)) (nCon n) with |none=>false |some ts=>tyL f (-1) (QaO n) ts)
 else if nOp n=4 then decide (kd f (nVar n)=kd f (arg0 n))&&!flat p.1 (kd f (nVar n))
 else if nOp n=5 then !flat p.1 (kd f (arg0 n))
 else if nOp n=6 then Qko p f (nFun n) (QaO n)&&decide (kd f (nVar n)=QwS p (nFun n))
 else if nOp n=7 then Qko p f (nFun n) (QaO n)&&decide (fRes f=QwS p (nFun n))
 else if nOp n=8 then (match fieldsOf p (fRes f) (nCon n) with |none=>false |some ts=>decide (0≤nNum n∧nNum n<(ts.length:Int))&&tyL f (nNum n) (QaO n) ts&&Qko p f (nFun n) (QbS n)&&decide (some (QwS p (nFun n))=ts[(nNum n).toNat]?))
 else !decide (kd f (arg0 n)<1)&&decide ((nBr n).length=(Qez p.1 (kd f (arg0 n))).length)&&!(Qj9 n&&flat p.1 (kd f (arg0 n)))&&
  allI (fun i b=>match (Qez p.1 (kd f (arg0 n)))[i]? with |some c=>tyL f (-1) b.1 c.2 |none=>false) 0 (nBr n)
def Qnp (p:Qag)(f:GFun)(n:Qae):Bool:=(binds n).all fun v=>rdOf f v==(decide (nOp n=9)&&(!Qj9 n&&!flat p.1 (kd f v)))
def QiS:List Bool→List Int→List Bool⊕List Bool
 | bo,[]=>.inr bo
 | bo,v::l=>if bo[v.toNat]?=some false then QiS (bo.set v.toNat true) l else .inl bo
def Qhi (sc:List Bool)(l:List Int):Bool:=l.all fun v=>decide (0≤v∧sc[v.toNat]?=some true)
def Qk0 (p:Qag)(n:Qae):Bool:=(fFun (nOp n)&&!decide (0≤nFun n∧nFun n<(p.2.length:Int)))||(decide (nOp n=2)&&!decide (0≤nNum n∧nNum n<8))
def Qk1 (p:Qag)(f:GFun)(sc bo:List Bool)(n:Qae):Int⊕List Bool:=
 if Qhg n=false then .inl 3
 else if Qhi sc (uses n)=false then .inl 9
 else if (binds n).all (inR f)=false then .inl 2
 else if Qk0 p n=true then .inl 2
 else match QiS bo (binds n) with
  | .inl _=>.inl 8
  | .inr bo'=>if QkZ p f n=false then .inl 10 else if Qnp p f n=false then .inl 11 else .inr bo'
structure HOk (p:Qag)(f:GFun):Prop where
 par:0≤fPar f∧fPar f≤((Qad f).length:Int)
 res:isTy p.1 (fRes f)=true
 vars:∀ v∈Qad f,isTy p.1 v.1=true
theorem Qjv {d:List Qak}{t:Int}:isTy d t=true↔0≤t∧t≤(d.length:Int):=by unfold isTy; rw [decide_eq_true_eq]
theorem HOk.kd {p:Qag}{f:GFun}(h:HOk p f)(v:Int):isTy p.1 (kd f v)=true:=by
 unfold LabB.kd
 split
 ·rename_i x hx; exact h.vars x (List.mem_of_getElem? hx)
 ·rw [Qjv]; omega
theorem Qy9 (f:GFun){v:Int}(h0:0≤v)(h1:v<((Qad f).length:Int)):∃ x,at' (Qad f) v=some x∧(Qad f)[v.toNat]?=some x∧kd f v=x.1∧rdOf f v=x.2:=by
 obtain ⟨x,hx,hx'⟩:=Qc2 h0 h1
 exact ⟨x,hx,hx',by unfold kd; rw [hx'],by unfold rdOf; rw [hx']⟩
section
variable (p:Qag) (f:GFun) (a b c:List Bool)
theorem Qnq {v:Int}(h0:0≤v)(h1:v<((Qad f).length:Int)):Qav a b c p.1 p.2 f.1 f.2.1 f.2.2.1 f.2.2.2.1 f.2.2.2.2.1 f.2.2.2.2.2.1 f.2.2.2.2.2.2 v=some (kd f v):=by
 obtain ⟨x,hx,_,hk,_⟩:=Qy9 f h0 h1
 rw [Qjr,show at' f.2.2.2.1 v=_ from hx,Qaa,hk]
theorem QBt (hd:Qbh p.1){v:Int}(h0:0≤v)(h1:v<((Qad f).length:Int)):Qbm a b c p.1 p.2 f.1 f.2.1 f.2.2.1 f.2.2.2.1 f.2.2.2.2.1 f.2.2.2.2.2.1 f.2.2.2.2.2.2 v=some (flat p.1 (kd f v)):=by
 rw [Qjs,Qnq p f a b c h0 h1,Qaa,Qrf p.1 hd,Qaa]
theorem Qx0 (hole:Int)(l ts:List Int)(hl:l.length≤9223372036854775807)(hr:∀ v∈l,0≤v→v<((Qad f).length:Int)):
  QcU a b c ts p.1 p.2 f.1 f.2.1 f.2.2.1 f.2.2.2.1 f.2.2.2.2.1 f.2.2.2.2.2.1 f.2.2.2.2.2.2 l hole=some (tyL f hole l ts):=by
 rw [QkV]
 unfold tyL
 by_cases he:l.length=ts.length
 ·rw [Qab (by omega),QaY he,QdE (L:=fun i=>Qbg a b c ts p.1 p.2 f.1 f.2.1 f.2.2.1 f.2.2.2.1 f.2.2.2.2.1 f.2.2.2.2.2.1 f.2.2.2.2.2.2 hole l (l.length:Int) i) (l:=l) (p:=fun i v=>if (i:Int)=hole then decide (v = -1) else decide (0≤v)&&decide (some (kd f v)=ts[i]?)) (A:=.inl ()) (B:=.inr ()) (fun i v hv=>by
   have hi:=Qau hv
   have ht:ts[i]?=some ts[i]:=List.getElem?_eq_getElem (by omega)
   rw [Qew,Qam hv,cond_true,Qah hv,Qaa,Qan hv hl]
   by_cases hh:(i:Int)=hole
   ·rw [Qab hh,if_pos hh,Qai]
   ·rw [Qac hh,if_neg hh]
    by_cases h0:v<0
    ·rw [Qab h0,QaD (show ¬ 0≤v by omega)]; rfl
    ·obtain ⟨x,hx,_,hk,_⟩:=Qy9 f (show 0≤v by omega) (hr v (List.mem_of_getElem? hv) (by omega))
     rw [Qac h0,show at' f.2.2.2.1 v=_ from hx,Qaa,Qah ht,Qaa,QaY (show 0≤v by omega),ht,hk,Qai]
     simp) (by rw [Qew,Qap,cond_false]),Qaa,Bool.true_and]
  cases allI _ _ _<;>rfl
 ·rw [Qac (by omega),QaD he]; rfl
theorem Qri (hole:Int)(l ts:List Int)(hl:l.length≤9223372036854775807)(hr:∀ v∈l,0≤v→v<((Qad f).length:Int)):
  Qbo a b c p.1 p.2 f.1 f.2.1 f.2.2.1 f.2.2.2.1 f.2.2.2.2.1 f.2.2.2.2.2.1 f.2.2.2.2.2.2 l ts hole=some (tyL f hole l ts):=by
 rw [Qjt]
 unfold tyL
 by_cases he:l.length=ts.length
 ·rw [Qab (by omega),QaY he,QdE (L:=fun i=>Qa2 a b c p.1 p.2 f.1 f.2.1 f.2.2.1 f.2.2.2.1 f.2.2.2.2.1 f.2.2.2.2.2.1 f.2.2.2.2.2.2 ts hole l (l.length:Int) i) (l:=l) (p:=fun i v=>if (i:Int)=hole then decide (v = -1) else decide (0≤v)&&decide (some (kd f v)=ts[i]?)) (A:=.inl ()) (B:=.inr ()) (fun i v hv=>by
   have hi:=Qau hv
   have ht:ts[i]?=some ts[i]:=List.getElem?_eq_getElem (by omega)
   rw [Qdw,Qam hv,cond_true,Qah hv,Qaa,Qan hv hl]
   by_cases hh:(i:Int)=hole
   ·rw [Qab hh,if_pos hh,Qai]
   ·rw [Qac hh,if_neg hh]
    by_cases h0:v<0
    ·rw [Qab h0,QaD (show ¬ 0≤v by omega)]; rfl
    ·obtain ⟨x,hx,_,hk,_⟩:=Qy9 f (show 0≤v by omega) (hr v (List.mem_of_getElem? hv) (by omega))
     rw [Qac h0,show at' f.2.2.2.1 v=_ from hx,Qaa,Qah ht,Qaa,QaY (show 0≤v by omega),ht,hk,Qai]
     simp) (by rw [Qdw,Qap,cond_false]),Qaa,Bool.true_and]
  cases allI _ _ _<;>rfl
 ·rw [Qac (by omega),QaD he]; rfl
theorem QiT {d:List Qak}{t:Int}(h1:¬ t<1)(h:t≤(d.length:Int)):∃ x,at' d (t - 1)=some x∧Qez d t=x.2∧x∈d:=by
 obtain ⟨x,hx,hx'⟩:=Qc2 (l:=d) (i:=t - 1) (by omega) (by omega)
 exact ⟨x,hx,by unfold Qez; rw [if_neg h1,hx'],List.mem_of_getElem? hx'⟩
theorem Qrj (hd:Qbh p.1)(t con:Int)(ht:isTy p.1 t=true):Qcs a b c p.1 p.2 f.1 f.2.1 f.2.2.1 f.2.2.2.1 f.2.2.2.2.1 f.2.2.2.2.2.1 f.2.2.2.2.2.2 t con=some (match fieldsOf p t con with |none=>.inl () |some ts=>.inr ts):=by
 rw [Qjv] at ht
 have hl:=hd.len
 rw [Qj6]
 simp only [Qaf,Qaa,Qar,QaG]
 unfold fieldsOf
 by_cases h1:t<1∨con<0
 ·rw [if_pos h1,Qc3 (by simp only [Bool.or_eq_true,decide_eq_true_eq]; exact h1)]; rfl
 ·rw [if_neg h1,Qcp (by simp only [Bool.or_eq_false_iff,decide_eq_false_iff_not]; omega),Qid (by omega) (by omega)]
  obtain ⟨x,hx,hc,hm⟩:=QiT (d:=p.1) (t:=t) (by omega) (by omega)
  rw [hx,Qaa,hc,Qaa]
  rcases Qm1 x.2 con with ⟨h0,h2,y,hy,hy',_⟩ |⟨h2,hy⟩
  ·rw [QaY h2,Bool.not_true,cond_false,Qaa,hy,hy']; rfl
  ·rw [QaD (show ¬ con<(x.2.length:Int) by omega),List.getElem?_eq_none (by omega)]; rfl
theorem QwT (hp:QeA p)(g:Int)(h0:0≤g)(h1:g<(p.2.length:Int)):∃ l,Qel a b c p.1 p.2 f.1 f.2.1 f.2.2.1 f.2.2.2.1 f.2.2.2.2.1 f.2.2.2.2.2.1 f.2.2.2.2.2.2 g=some (l,(Qlp p g).isSome)∧∀ ts,Qlp p g=some ts→l=ts:=by
 obtain ⟨h,hh,hh'⟩:=Qc2 h0 h1
 have hs:=hp.all h (List.mem_of_getElem? hh')
 have hv:=hs.vars
 rw [Qj8,hh,Qaa]
 simp only [Qaf,Qaa,QaG]
 unfold Qlp
 rw [hh']
 simp only
 by_cases hc:fPar h<0∨((Qad h).length:Int)<fPar h
 ·rw [if_pos hc,Qc3 (by simp only [Bool.or_eq_true,decide_eq_true_eq]; exact hc)]
  exact ⟨_,rfl,fun ts h=>by cases h⟩
 ·rw [if_neg hc,Qcp (by simp only [Bool.or_eq_false_iff,decide_eq_false_iff_not]; show ¬ fPar h<0∧¬ ((Qad h).length:Int)<fPar h; omega),Qac (show ¬ fPar h<0 by omega),Qac (show ¬ ((Qad h).length:Int)<fPar h by omega)]
  have hl:(List.take (fPar h).toNat (Qad h)).length≤1000000:=by rw [List.length_take]; exact Nat.le_trans (Nat.min_le_right _ _) hv
  have:=QbZ (L:=fun s i=>Qa8 a b c s p.1 p.2 f.1 f.2.1 f.2.2.1 f.2.2.2.1 f.2.2.2.2.1 f.2.2.2.2.2.1 f.2.2.2.2.2.2 (List.take (fPar h).toNat (Qad h)) ((List.take (fPar h).toNat (Qad h)).length:Int) i) (l:=List.take (fPar h).toNat (Qad h)) (F:=fun s x=>s++[x.1]) (E:=id) (fun i s=>s.length≤i)
   (fun s i x hx hI=>⟨by
    have:=Qau hx
    rw [Qd3,Qam hx,cond_true,Qah hx,Qaa,Qab (by omega),Qan hx (by omega)],by simp; omega⟩)
   (fun s hI=>by rw [Qd3,Qap,cond_false]; rfl) [] (by simp)
  rw [show Qa8 a b c [] p.1 p.2 f.1 f.2.1 f.2.2.1 f.2.2.2.1 f.2.2.2.2.1 f.2.2.2.2.2.1 f.2.2.2.2.2.2 (List.take h.2.1.toNat h.2.2.2.1) ((List.take h.2.1.toNat h.2.2.2.1).length:Int) 0=_ from this,Qgs]
  exact ⟨_,rfl,fun ts h=>by simp only [Option.some.injEq] at h; rw [← h]; rfl⟩
theorem Qrk (hp:QeA p)(g:Int)(l:List Int)(h0:0≤g)(h1:g<(p.2.length:Int))(hl:l.length≤9223372036854775807)(hr:∀ v∈l,0≤v→v<((Qad f).length:Int)):Qcm a b c p.1 p.2 f.1 f.2.1 f.2.2.1 f.2.2.2.1 f.2.2.2.2.1 f.2.2.2.2.2.1 f.2.2.2.2.2.2 g l=some (Qko p f g l):=by
 obtain ⟨ts,h2,h3⟩:=QwT p f a b c hp g h0 h1
 rw [Qly,h2,Qaa]
 unfold Qko
 cases hpo:Qlp p g with
 | none=>rfl
 | some ts'=>
  rw [h3 ts' hpo]
  simp only [Option.isSome_some,cond_true]
  rw [Qx0 p f a b c (-1) l ts' hl hr]
  rfl
theorem QsK (p:Qag){g:Int}(h0:0≤g)(h1:g<(p.2.length:Int)):∃ h,at' p.2 g=some h∧QwS p g=h.2.2.1:=by
 obtain ⟨h,hh,hh'⟩:=Qc2 h0 h1
 exact ⟨h,hh,by unfold QwS; rw [hh']⟩
theorem QwU (hp:QeA p)(t:Int)(ht:isTy p.1 t=true)(h1:¬ t<1)(l:List Qas)(hl:l.length≤1000)(hc:l.length=(Qez p.1 t).length)(hbl:∀ x∈l,x.1.length≤1073741824)(hr:∀ x∈l,∀ v∈x.1,0≤v→v<((Qad f).length:Int)):
  QaU a b c p.1 p.2 f.1 f.2.1 f.2.2.1 f.2.2.2.1 f.2.2.2.2.1 f.2.2.2.2.2.1 f.2.2.2.2.2.2 t l (l.length:Int) 0=some (if allI (fun i x=>match (Qez p.1 t)[i]? with |some c=>tyL f (-1) x.1 c.2 |none=>false) 0 l=true then .inr () else .inl ()):=by
 rw [Qjv] at ht
 have hdl:=hp.Qol.len
 obtain ⟨x,hx,hco,_⟩:=QiT (d:=p.1) (t:=t) h1 ht.2
 refine QdE (L:=fun i=>QaU a b c p.1 p.2 f.1 f.2.1 f.2.2.1 f.2.2.2.1 f.2.2.2.2.1 f.2.2.2.2.2.1 f.2.2.2.2.2.2 t l (l.length:Int) i) (fun i y hy=>?_) ?_
 ·have hm:=List.mem_of_getElem? hy
  have hi:=Qau hy
  have hi2:i<x.2.length:=by rw [← hco]; omega
  have hci:x.2[i]?=some x.2[i]:=List.getElem?_eq_getElem hi2
  rw [Qex,Qam hy,cond_true,Qah hy,Qaa,Qid (by omega) (by omega),hx,Qaa,Qah hci,Qaa,Qri p f a b c (-1) y.1 _ (by have:=hbl y hm; omega) (hr y hm),Qaa,Qan hy (by omega),hco,hci,Qai]
 ·rw [Qex,Qap,cond_false]
theorem QBu (n:Qae)(h:QaO n≠[]):at' (QaO n) 0=some (arg0 n)∧arg0 n∈QaO n:=by
 unfold arg0
 cases hn:QaO n with
 | nil=>exact absurd hn h
 | cons v l=>exact ⟨at_0 v l,by simp⟩
theorem Qza (hp:QeA p)(ho:HOk p f)(n:Qae)(hn:QaL n)(hform:Qhg n=true)(hu:∀ v∈uses n,0≤v∧v<((Qad f).length:Int))(hb:∀ v∈binds n,0≤v∧v<((Qad f).length:Int))(hbad:Qk0 p n=false):
  QaS a b c p.1 p.2 f.1 f.2.1 f.2.2.1 f.2.2.2.1 f.2.2.2.2.1 f.2.2.2.2.2.1 f.2.2.2.2.2.2 n=some (QkZ p f n):=by
 unfold Qhg at hform
 simp only [Bool.and_eq_true,decide_eq_true_eq,Bool.or_eq_true] at hform
 obtain ⟨⟨⟨⟨⟨⟨⟨⟨⟨hop,hargs⟩,_⟩,_⟩,_⟩,_⟩,_⟩,_⟩,_⟩,_⟩:=hform
 unfold Qk0 at hbad
 rw [Bool.or_eq_false_iff] at hbad
 obtain ⟨hbad,hbad2⟩:=hbad
 have hd:=hp.Qol
 have hdl:=hd.len
 have ha:=hn.args
 have hm:=hn.more
 have hone:(nOp n=0∨nOp n=4∨nOp n=5∨nOp n=9)→at' (QaO n) 0=some (arg0 n)∧0≤arg0 n∧arg0 n<((Qad f).length:Int):=by
  intro h
  have h1:fArgs (nOp n)=1:=by unfold fArgs; rw [if_pos h]
  rw [h1] at hargs
  have hne:QaO n≠[]:=by intro he; rw [he] at hargs; simp at hargs
  obtain ⟨h2,h3⟩:=QBu n hne
  refine ⟨h2,hu _ ?_⟩
  unfold uses
  rw [if_neg (by omega),if_neg (by omega)]
  exact h3
 have hall:nOp n≠8→nOp n≠1→∀ v∈QaO n,0≤v→v<((Qad f).length:Int):=fun h8 h1 v hv _=>(hu v (by unfold uses; rw [if_neg (by omega),if_neg h8]; exact hv)).2
 have hvar:Qbp (nOp n)=true→0≤nVar n∧nVar n<((Qad f).length:Int):=by
  intro h
  apply hb
  unfold binds
  have h9:nOp n≠9:=by unfold Qbp at h; rw [decide_eq_true_eq] at h; omega
  rw [if_neg h9,if_pos h]
  simp
 have hfun:fFun (nOp n)=true→0≤nFun n∧nFun n<(p.2.length:Int):=by
  intro h
  rw [h] at hbad
  simpa using hbad
 rw [QkU]
 unfold QkZ
 by_cases h0:nOp n=0
 ·obtain ⟨h1,h2,h3⟩:=hone (by omega)
  rw [Qab h0,if_pos h0,show at' n.2.2.1 0=_ from h1,Qaa,Qnq p f a b c h2 h3]
  rfl
 rw [Qac h0,if_neg h0]
 by_cases h1:nOp n=1
 ·obtain ⟨h2,h3⟩:=hvar (by rw [h1]; rfl)
  rw [Qab h1,if_pos h1,Qnq p f a b c h2 h3]
  rfl
 rw [Qac h1,if_neg h1]
 by_cases h2:nOp n=2
 ·obtain ⟨h3,h4⟩:=hvar (by rw [h2]; rfl)
  rw [Qab h2,if_pos h2,QsD,Qaa,Qx0 p f a b c (-1) n.2.2.1 [0,0] (by have:n.2.2.1.length≤1000:=ha; omega) (hall (by omega) h1),Qnq p f a b c h3 h4]
  simp only [Qaa,Qaf,QbF]
  rw [QDK]
 rw [Qac h2,if_neg h2]
 by_cases h3:nOp n=3
 ·obtain ⟨h4,h5⟩:=hvar (by rw [h3]; rfl)
  rw [Qab h3,if_pos h3,Qnq p f a b c h4 h5,Qaa,Qrj p f a b c hd _ _ (ho.kd _),Qaa]
  show _=some (match fieldsOf p (kd f n.2.1) n.2.2.2.1 with |none=>false |some ts=>tyL f (-1) (QaO n) ts)
  cases fieldsOf p (kd f n.2.1) n.2.2.2.1 with
  | none=>rfl
  | some ts=>
   simp only
   rw [Qri p f a b c (-1) n.2.2.1 ts (by have:n.2.2.1.length≤1000:=ha; omega) (hall (by omega) h1)]
   rfl
 rw [Qac h3,if_neg h3]
 by_cases h4:nOp n=4
 ·obtain ⟨h5,h6⟩:=hvar (by rw [h4]; rfl)
  obtain ⟨h7,h8,h9⟩:=hone (by omega)
  rw [Qab h4,if_pos h4,show at' n.2.2.1 0=_ from h7,Qaa,Qnq p f a b c h5 h6,Qnq p f a b c h8 h9,Qaa,Qaa,QBt p f a b c hd h5 h6,Qaa,Qaf,QbF]
 rw [Qac h4,if_neg h4]
 by_cases h5:nOp n=5
 ·obtain ⟨h7,h8,h9⟩:=hone (by omega)
  rw [Qab h5,if_pos h5,show at' n.2.2.1 0=_ from h7,Qaa,QBt p f a b c hd h8 h9,Qaa]
 rw [Qac h5,if_neg h5]
 by_cases h6:nOp n=6
 ·obtain ⟨h7,h8⟩:=hvar (by rw [h6]; rfl)
  obtain ⟨h9,h10⟩:=hfun (by rw [h6]; rfl)
  obtain ⟨g,hg,hres⟩:=QsK p h9 h10
  rw [Qab h6,if_pos h6,Qrk p f a b c hp _ n.2.2.1 h9 h10 (by have:n.2.2.1.length≤1000:=ha; omega) (hall (by omega) h1),Qaa,Qnq p f a b c h7 h8,show at' p.2 n.2.2.2.2.2.1=_ from hg,Qaa,Qaa,Qaf,QbF,← hres]
 rw [Qac h6,if_neg h6]
 by_cases h7:nOp n=7
 ·obtain ⟨h9,h10⟩:=hfun (by rw [h7]; rfl)
  obtain ⟨g,hg,hres⟩:=QsK p h9 h10
  rw [Qab h7,if_pos h7,Qrk p f a b c hp _ n.2.2.1 h9 h10 (by have:n.2.2.1.length≤1000:=ha; omega) (hall (by omega) h1),Qaa,show at' p.2 n.2.2.2.2.2.1=_ from hg,Qaa,Qaf,QbF,← hres]
 rw [Qac h7,if_neg h7]
 by_cases h8:nOp n=8
 ·obtain ⟨h9,h10⟩:=hfun (by rw [h8]; rfl)
  obtain ⟨g,hg,hres⟩:=QsK p h9 h10
  have hv:∀ v∈QaO n++QbS n,0≤v→v<((Qad f).length:Int):=fun v hv h0=>(hu v (by unfold uses; rw [if_neg (by omega),if_pos h8,List.mem_filter]; exact ⟨hv,by simpa using h0⟩)).2
  rw [Qab h8,if_pos h8,Qrj p f a b c hd _ _ ho.res,Qaa]
  show _=some (match fieldsOf p f.2.2.1 n.2.2.2.1 with |none=>false |some ts=>decide (0≤nNum n∧nNum n<(ts.length:Int))&&tyL f (nNum n) (QaO n) ts&&Qko p f (nFun n) (QbS n)&&decide (some (QwS p (nFun n))=ts[(nNum n).toNat]?))
  cases fieldsOf p f.2.2.1 n.2.2.2.1 with
  | none=>rfl
  | some ts=>
   simp only [Qaf,Qaa,QaG]
   rw [Qri p f a b c _ n.2.2.1 ts (by have:n.2.2.1.length≤1000:=ha; omega) (fun v h=>hv v (by simp; exact Or.inl h)),Qrk p f a b c hp _ n.2.2.2.2.2.2.1 h9 h10 (by have:n.2.2.2.2.2.2.1.length≤1000:=hm; omega) (fun v h=>hv v (by simp; exact Or.inr h)),show at' p.2 n.2.2.2.2.2.1=_ from hg]
   simp only [Qaf,Qaa,QaG,Qar]
   by_cases hnum:0≤nNum n∧nNum n<(ts.length:Int)
   ·obtain ⟨t,ht,ht'⟩:=Qc2 hnum.1 hnum.2
    rw [QaY hnum,show decide (n.2.2.2.2.1<0)=false from QaD (show ¬ nNum n<0 by omega),show decide (n.2.2.2.2.1<(ts.length:Int))=true from QaY hnum.2,show at' ts n.2.2.2.2.1=_ from ht,ht',hres]
    simp only [Bool.not_true,Bool.or_false,cond_false,Bool.true_and,Qaa,Option.some.injEq]
    show (bif !(tyL f (nNum n) (QaO n) ts) then some false else bif Qko p f (nFun n) (QbS n) then some (decide (g.2.2.1=t)) else some false)=_
    cases tyL f (nNum n) (QaO n) ts<;>cases Qko p f (nFun n) (QbS n)<;>rfl
   ·rw [QaD hnum,show (decide (n.2.2.2.2.1<0)||!decide (n.2.2.2.2.1<(ts.length:Int)))=true by
     rw [Bool.or_eq_true,Bool.not_eq_true',decide_eq_true_eq,decide_eq_false_iff_not]; show nNum n<0∨¬ nNum n<(ts.length:Int); omega]
    rfl
 rw [Qac h8,if_neg h8]
 obtain ⟨h9,h10,h11⟩:=hone (by omega)
 rw [show at' n.2.2.1 0=_ from h9,Qaa,Qnq p f a b c h10 h11,Qaa,QBt p f a b c hd h10 h11]
 have hty:=ho.kd (arg0 n)
 have hty':=hty
 rw [Qjv] at hty'
 by_cases ht1:kd f (arg0 n)<1
 ·rw [Qab ht1,QaY ht1]; rfl
 ·rw [Qac ht1,QaD ht1,Qid (by omega) (by omega)]
  obtain ⟨x,hx,hco,_⟩:=QiT (d:=p.1) (t:=kd f (arg0 n)) ht1 hty'.2
  rw [hx,Qaa]
  by_cases hlen:(nBr n).length=(Qez p.1 (kd f (arg0 n))).length
  ·have h9:nOp n=9:=by omega
   have hbr:∀ x∈nBr n,∀ v∈x.1,0≤v→v<((Qad f).length:Int):=fun x hx v hv _=>(hb v (by unfold binds; rw [if_pos h9,List.mem_flatMap]; exact ⟨x,hx,hv⟩)).2
   rw [QaY hlen,Qab (show ((n.2.2.2.2.2.2.2.2.1.length:Int)=(x.2.length:Int)) by rw [← hco]; exact congrArg _ hlen),QwU p f a b c hp _ hty ht1 n.2.2.2.2.2.2.2.2.1 hn.br hlen hn.bs hbr]
   simp only [Qaa,Bool.not_false,Bool.true_and]
   show (bif Qj9 n then _ else _)=some (!(Qj9 n&&flat p.1 (kd f (arg0 n)))&&_)
   cases Qj9 n<;>cases flat p.1 (kd f (arg0 n))<;>simp only [cond_true,cond_false,Bool.and_true,Bool.and_false,Bool.true_and,Bool.false_and,Bool.not_true,Bool.not_false]<;>(first |rfl |(cases allI _ 0 _<;>rfl))
  ·rw [QaD hlen,Qac (show ¬ ((n.2.2.2.2.2.2.2.2.1.length:Int)=(x.2.length:Int)) by rw [← hco]; show ¬ (((nBr n).length:Int)=_); omega)]
   simp
end
end Go.Proofs.YtkecfadnfnnfaaaGreatDoor.LabB
namespace Go.Proofs.YtkecfadnfnnfaaaGreatDoor.LabB
open Go Go.Ev Go.Sy
theorem Qvp:∀ (l:List Int) (bo:List Bool) (i:Nat),runI (fun _ s v=>if s[v.toNat]?=some false then .inl (s.set v.toNat true) else .inr (.inl s)) (fun s=>(.inr s:List Bool⊕List Bool)) i bo l=QiS bo l
 | [],bo,i=>rfl
 | v::l,bo,i=>by
  rw [runI,QiS]
  by_cases h:bo[v.toNat]?=some false
  ·rw [if_pos h,if_pos h]; exact Qvp l _ _
  ·rw [if_neg h,if_neg h]
theorem tf:¬ (true=false):=by simp
theorem ft:¬ (false=true):=by simp
section
variable (p:Qag) (f:GFun) (a b c:List Bool)
theorem QF5 (n:Qae)(l:List Int)(hl:l.length≤9223372036854775807):Qbe a b c p.1 p.2 f.1 f.2.1 f.2.2.1 f.2.2.2.1 f.2.2.2.2.1 f.2.2.2.2.2.1 f.2.2.2.2.2.2 n l (l.length:Int) 0=some (if Qhi c l=true then .inr () else .inl ()):=by
 refine QaF (L:=fun i=>Qbe a b c p.1 p.2 f.1 f.2.1 f.2.2.1 f.2.2.2.1 f.2.2.2.2.1 f.2.2.2.2.2.1 f.2.2.2.2.2.2 n l (l.length:Int) i) (p:=fun (v:Int)=>decide (0≤v∧c[v.toNat]?=some true)) (fun i v hv=>?_) ?_
 ·rw [Qeu,Qam hv,cond_true,Qah hv,Qan hv hl]
  simp only [Qaa,Qaf,QaG]
  rcases Qm1 c v with ⟨h0,h1,y,hy,hy',_⟩ |⟨h1,hy⟩
  ·rw [QaD (show ¬ v<0 by omega),QaY h1,hy,hy']
   cases y<;>simp [Qaa,h0]
  ·have hz:(decide (v<0)||!decide (v<(c.length:Int)))=true:=by
    rw [Bool.or_eq_true,Bool.not_eq_true',decide_eq_true_eq,decide_eq_false_iff_not]; omega
   rw [hz,cond_true,Qaa,cond_true,if_neg (by
    rw [decide_eq_true_eq]
    rintro ⟨h2,h3⟩
    have:=Qau h3
    omega)]
 ·rw [Qeu,Qap,cond_false]
theorem QF6 (n:Qae)(bs l:List Int)(hl:l.length≤9223372036854775807):Qbf a b c p.1 p.2 f.1 f.2.1 f.2.2.1 f.2.2.2.1 f.2.2.2.2.1 f.2.2.2.2.2.1 f.2.2.2.2.2.2 n bs l (l.length:Int) 0=some (if l.all (inR f)=true then .inr () else .inl ()):=by
 refine QaF (L:=fun i=>Qbf a b c p.1 p.2 f.1 f.2.1 f.2.2.1 f.2.2.2.1 f.2.2.2.2.1 f.2.2.2.2.2.1 f.2.2.2.2.2.2 n bs l (l.length:Int) i) (p:=inR f) (fun i v hv=>?_) ?_
 ·rw [Qev,Qam hv,cond_true,Qah hv,Qan hv hl]
  simp only [Qaa,Qaf,QaG]
  unfold inR
  by_cases h:0≤v∧v<((Qad f).length:Int)
  ·rw [QaY h,if_pos rfl,QaD (show ¬ v<0 by omega),show decide (v<(f.2.2.2.1.length:Int))=true from QaY h.2]; rfl
  ·rw [QaD h,if_neg (by simp),show (decide (v<0)||!decide (v<(f.2.2.2.1.length:Int)))=true by
    rw [Bool.or_eq_true,Bool.not_eq_true',decide_eq_true_eq,decide_eq_false_iff_not]; show v<0∨¬ v<((Qad f).length:Int); omega]
   rfl
 ·rw [Qev,Qap,cond_false]
theorem QF7 (n:Qae)(bs l:List Int)(hl:l.length≤9223372036854775807)(hr:∀ v∈l,0≤v∧v<((Qad f).length:Int))(hb:b.length=(Qad f).length):QaC a b c p.1 p.2 f.1 f.2.1 f.2.2.1 f.2.2.2.1 f.2.2.2.2.1 f.2.2.2.2.2.1 f.2.2.2.2.2.2 n bs l (l.length:Int) 0=some (QiS b l):=by
 rw [← Qvp l b 0]
 refine QtL (L:=fun s i=>QaC a s c p.1 p.2 f.1 f.2.1 f.2.2.1 f.2.2.2.1 f.2.2.2.2.1 f.2.2.2.2.2.1 f.2.2.2.2.2.2 n bs l (l.length:Int) i) (fun _ s=>s.length=(Qad f).length) (fun s i v hv hI=>?_) (fun s hI=>?_) b hb
 ·obtain ⟨h0,h1⟩:=hr v (List.mem_of_getElem? hv)
  have hI':s.length=(Qad f).length:=hI
  obtain ⟨y,hy,hy'⟩:=Qc2 (l:=s) h0 (by omega)
  cases y with
  | true=>
   rw [if_neg (by rw [hy']; simp)]
   show QaC a s c p.1 p.2 f.1 f.2.1 f.2.2.1 f.2.2.2.1 f.2.2.2.2.1 f.2.2.2.2.2.1 f.2.2.2.2.2.2 n bs l (l.length:Int) (i:Int)=some (.inl s)
   rw [Qcn,Qam hv,cond_true,Qah hv,Qaa,hy,Qaa,cond_true]
  | false=>
   rw [if_pos hy']
   refine ⟨?_,by simpa using hI⟩
   rw [Qcn,Qam hv,cond_true,Qah hv,Qaa,hy,Qaa,cond_false,Qan hv hl]
 ·rw [Qcn,Qap,cond_false]
theorem QF8 (hd:Qbh p.1)(n:Qae)(l:List Int)(hl:l.length≤9223372036854775807)(hr:∀ v∈l,0≤v∧v<((Qad f).length:Int)):Qaq a b c p.1 p.2 f.1 f.2.1 f.2.2.1 f.2.2.2.1 f.2.2.2.2.1 f.2.2.2.2.2.1 f.2.2.2.2.2.2 n l (l.length:Int) 0=some (if (l.all fun v=>rdOf f v==(decide (nOp n=9)&&(!Qj9 n&&!flat p.1 (kd f v))))=true then .inr () else .inl ()):=by
 refine QaF (L:=fun i=>Qaq a b c p.1 p.2 f.1 f.2.1 f.2.2.1 f.2.2.2.1 f.2.2.2.2.1 f.2.2.2.2.2.1 f.2.2.2.2.2.2 n l (l.length:Int) i) (p:=fun v=>rdOf f v==(decide (nOp n=9)&&(!Qj9 n&&!flat p.1 (kd f v)))) (fun i v hv=>?_) ?_
 ·obtain ⟨h0,h1⟩:=hr v (List.mem_of_getElem? hv)
  obtain ⟨x,hx,_,hk,hrd⟩:=Qy9 f h0 h1
  rw [Qey,Qam hv,cond_true,Qah hv,Qaa,show at' f.2.2.2.1 v=_ from hx,Qaa,Qrf p.1 hd,Qaa,Qan hv hl,hk,hrd]
  show (bif decide (nOp n=9) then bif Qj9 n then _ else _ else _)=_
  cases decide (nOp n=9)<;>cases Qj9 n<;>cases x.2<;>cases flat p.1 x.1<;>rfl
 ·rw [Qey,Qap,cond_false]
theorem Qnr (n:Qae)(h:QaL n):(uses n).length≤2000:=by
 have ha:=h.args
 have hm:=h.more
 unfold uses
 split
 ·simp
 ·split
  ·have:=List.length_filter_le (fun v=>decide (0≤v)) (QaO n++QbS n)
   rw [List.length_append] at this
   omega
  ·omega
theorem Qrl {α β:Type}(g:α→List β)(K:Nat):∀ l:List α,(∀ x∈l,(g x).length≤K)→(l.flatMap g).length≤l.length * K
 | [],h=>by simp
 | x::l,h=>by
  have h1:=h x (by simp)
  have h2:=Qrl g K l (fun y hy=>h y (by simp [hy]))
  rw [List.flatMap_cons,List.length_append,List.length_cons,Nat.add_mul]
  omega
theorem Qrm (n:Qae)(h:QaL n):(binds n).length≤1073741824000:=by
 have hb:=h.br
 unfold binds
 split
 ·have:=Qrl (fun b:Qas=>b.1) 1073741824 (nBr n) h.bs
  omega
 ·split<;>simp
theorem Qzb (hp:QeA p)(ho:HOk p f)(n:Qae)(hn:QaL n)(hb:b.length=(Qad f).length)(hc:c.length=(Qad f).length):
  ∃ b' e,QeV a b c p.1 p.2 f.1 f.2.1 f.2.2.1 f.2.2.2.1 f.2.2.2.2.1 f.2.2.2.2.2.1 f.2.2.2.2.2.2 n=some (b',e)∧(match Qk1 p f c b n with | .inl e'=>e=e'∧e'≠0 | .inr bo'=>e=0∧b'=bo'):=by
 have hul:=Qnr n hn
 have hbl:=Qrm n hn
 rw [QkR,QBg,Qaa]
 unfold Qk1
 cases hform:Qhg n with
 | false=>exact ⟨_,_,rfl,rfl,by decide⟩
 | true=>
  rw [cond_true,Qnn n hn,Qaa,QF5 p f a b c n _ (by omega),Qaa,if_neg tf]
  cases hu:Qhi c (uses n) with
  | false=>exact ⟨_,_,rfl,rfl,by decide⟩
  | true=>
   rw [if_pos (show true=true from rfl),Qgt n hn]
   simp only [Qaa]
   rw [QF6 p f a b c n _ _ (by omega),Qaa,if_neg tf]
   cases hr:(binds n).all (inR f) with
   | false=>exact ⟨_,_,rfl,rfl,by decide⟩
   | true=>
    rw [if_pos (show true=true from rfl)]
    simp only
    have hop:0≤nOp n∧nOp n<10:=by
     unfold Qhg at hform
     simp only [Bool.and_eq_true,decide_eq_true_eq] at hform
     exact hform.1.1.1.1.1.1.1.1.1
    rw [Qnh,Qaa,QxV n.1 hop,Qaa,if_neg tf]
    have hr':∀ v∈binds n,0≤v∧v<((Qad f).length:Int):=fun v hv=>by
     have:=List.all_eq_true.1 hr v hv
     unfold inR at this
     simpa using this
    have hu':∀ v∈uses n,0≤v∧v<((Qad f).length:Int):=fun v hv=>by
     have:=List.all_eq_true.1 hu v hv
     rw [decide_eq_true_eq] at this
     have:=Qau this.2
     omega
    rw [QF7 p f a b c n _ _ (by omega) hr' hb]
    show ∃ b' e,(bif fFun (nOp n) then _ else _)=some (b',e)∧_
    cases hbad:Qk0 p n with
    | true=>
     rw [if_pos (show true=true from rfl)]
     refine ⟨b,2,?_,rfl,by decide⟩
     unfold Qk0 at hbad
     rw [Bool.or_eq_true] at hbad
     cases hff:fFun (nOp n) with
     | true=>
      have h2:nOp n≠2:=by unfold fFun at hff; rw [decide_eq_true_eq] at hff; omega
      rw [hff,QaD h2] at hbad
      simp only [Bool.true_and,Bool.false_and,Bool.false_eq_true,or_false,Bool.not_eq_true',decide_eq_false_iff_not] at hbad
      rw [cond_true]
      by_cases h0:nFun n<0
      ·rw [Qab h0]
      ·rw [Qac h0,Qac (show ¬ nFun n<(p.2.length:Int) by omega)]
     | false=>
      rw [hff] at hbad
      simp only [Bool.false_and,Bool.false_eq_true,false_or,Bool.and_eq_true,decide_eq_true_eq,Bool.not_eq_true',decide_eq_false_iff_not] at hbad
      rw [cond_false,Qab hbad.1]
      by_cases h0:nNum n<0
      ·rw [Qab h0]
      ·rw [Qac h0,Qac (show ¬ nNum n<8 by omega)]
    | false=>
     rw [if_neg ft]
     have key:∀ bo,QiS b (binds n)=.inr bo→QaS a bo c p.1 p.2 f.1 f.2.1 f.2.2.1 f.2.2.2.1 f.2.2.2.2.1 f.2.2.2.2.2.1 f.2.2.2.2.2.2 n=some (QkZ p f n):=fun bo _=>Qza p f a bo c hp ho n hn hform hu' hr' hbad
     have key6:∀ bo,Qaq a bo c p.1 p.2 f.1 f.2.1 f.2.2.1 f.2.2.2.1 f.2.2.2.2.1 f.2.2.2.2.2.1 f.2.2.2.2.2.2 n (binds n) ((binds n).length:Int) 0=some (if Qnp p f n=true then .inr () else .inl ()):=fun bo=>QF8 p f a bo c hp.Qol n _ (by omega) hr'
     unfold Qk0 at hbad
     rw [Bool.or_eq_false_iff] at hbad
     obtain ⟨hbad1,hbad2⟩:=hbad
     have tail:∃ b' e,(Option.bind (some (QiS b (binds n))) fun z=>match z with
       | .inl v17=>some (v17,(8:Int))
       | .inr v17=>Option.bind (QaS a v17 c p.1 p.2 f.1 f.2.1 f.2.2.1 f.2.2.2.1 f.2.2.2.2.1 f.2.2.2.2.2.1 f.2.2.2.2.2.2 n) fun v18=>bif v18 then
         Option.bind (Qaq a v17 c p.1 p.2 f.1 f.2.1 f.2.2.1 f.2.2.2.1 f.2.2.2.2.1 f.2.2.2.2.2.1 f.2.2.2.2.2.2 n (binds n) ((binds n).length:Int) 0) fun z=>match z with
          | .inl _=>some (v17,11)
          | .inr _=>some (v17,0)
        else some (v17,10))=some (b',e)∧(match (match QiS b (binds n) with
        | .inl _=>(.inl 8:Int⊕List Bool)
        | .inr bo'=>if QkZ p f n=false then .inl 10 else if Qnp p f n=false then .inl 11 else .inr bo') with | .inl e'=>e=e'∧e'≠0 | .inr bo'=>e=0∧b'=bo'):=by
      rw [Qaa]
      cases hm:QiS b (binds n) with
      | inl bo=>exact ⟨_,_,rfl,rfl,by decide⟩
      | inr bo=>
       simp only
       rw [key bo hm,Qaa,key6 bo]
       cases QkZ p f n with
       | false=>exact ⟨_,_,rfl,rfl,by decide⟩
       | true=>
        cases Qnp p f n with
        | false=>exact ⟨_,_,rfl,rfl,by decide⟩
        | true=>exact ⟨_,_,rfl,rfl,rfl⟩
     cases hff:fFun (nOp n) with
     | true=>
      rw [hff] at hbad1
      simp only [Bool.true_and,Bool.not_eq_false',decide_eq_true_eq] at hbad1
      have h2:nOp n≠2:=by unfold fFun at hff; rw [decide_eq_true_eq] at hff; omega
      rw [cond_true,Qac (show ¬ nFun n<0 by omega),Qab (show nFun n<(p.2.length:Int) from hbad1.2),Qac h2]
      exact tail
     | false=>
      rw [cond_false]
      by_cases h2:nOp n=2
      ·rw [QaY h2] at hbad2
       simp only [Bool.true_and,Bool.not_eq_false',decide_eq_true_eq] at hbad2
       rw [Qab h2,Qac (show ¬ nNum n<0 by omega),Qab (show nNum n<8 from hbad2.2)]
       exact tail
      ·rw [Qac h2]
       exact tail
end
end Go.Proofs.YtkecfadnfnnfaaaGreatDoor.LabB
