/- Of the models: a node alone, of the program, whole. -/
import Derived.Test.YtkecfadnfnnfaaaGreatDoorPlB5
set_option linter.unusedVariables false
set_option linter.unusedSimpArgs false
namespace Go.Proofs.YtkecfadnfnnfaaaGreatDoor.LabB
open Go Go.Ev Go.Sy
def kd (f:GFun)(v:Int):Int:=match (Qae f)[v.toNat]? with |some x=>x.1 |none=>0
def rdOf (f:GFun)(v:Int):Bool:=match (Qae f)[v.toNat]? with |some x=>x.2 |none=>false
def inR (f:GFun)(v:Int):Bool:=decide (0≤v∧v<((Qae f).length:Int))
def tyL (f:GFun)(hole:Int)(l:List Int)(ts:List Int):Bool:=decide (l.length=ts.length)&&allI (fun i v=>if (i:Int)=hole then decide (v = -1) else decide (0≤v)&&decide (some (kd f v)=ts[i]?)) 0 l
def fieldsOf (p:Qad)(t con:Int):Option (List Int):=if t<1∨con<0 then none else match (QeI p.1 t)[con.toNat]? with |some c=>some c.2 |none=>none
def QkQ (p:Qad)(g:Int):Option (List Int):=match p.2[g.toNat]? with
 | none=>none
 | some h=>if fPar h<0∨((Qae h).length:Int)<fPar h then none else some (((Qae h).take (fPar h).toNat).map (·.1))
def Qji (p:Qad)(f:GFun)(g:Int)(l:List Int):Bool:=match QkQ p g with |none=>false |some ts=>tyL f (-1) l ts
def Qyh (p:Qad)(g:Int):Int:=match p.2[g.toNat]? with |some h=>fRes h |none=>0
def arg0 (n:Qag):Int:=match QaJ n with |v::_=>v |[]=>0
def Qin (p:Qad)(f:GFun)(n:Qag):Bool:=
 if nOp n=0 then decide (kd f (arg0 n)=fRes f)
 else if nOp n=1 then decide (kd f (nVar n)=0)
 else if nOp n=2 then tyL f (-1) (QaJ n) [0,0]&&decide (kd f (nVar n)=if nNum n<5 then 0 else 1)
 else if nOp n=3 then (match fieldsOf p (kd f (nVar n)) (nCon n) with |none=>false |some ts=>tyL f (-1) (QaJ n) ts)
 else if nOp n=4 then decide (kd f (nVar n)=kd f (arg0 n))&&!flat p.1 (kd f (nVar n))
 else if nOp n=5 then !flat p.1 (kd f (arg0 n))
 else if nOp n=6 then Qji p f (nFun n) (QaJ n)&&decide (kd f (nVar n)=Qyh p (nFun n))
 else if nOp n=7 then Qji p f (nFun n) (QaJ n)&&decide (fRes f=Qyh p (nFun n))
 else if nOp n=8 then (match fieldsOf p (fRes f) (nCon n) with |none=>false |some ts=>decide (0≤nNum n∧nNum n<(ts.length:Int))&&tyL f (nNum n) (QaJ n) ts&&Qji p f (nFun n) (Qgm n)&&decide (some (Qyh p (nFun n))=ts[(nNum n).toNat]?))
 else !decide (kd f (arg0 n)<1)&&decide ((nBr n).length=(QeI p.1 (kd f (arg0 n))).length)&&!(Qgn n&&flat p.1 (kd f (arg0 n)))&&
  allI (fun i b=>match (QeI p.1 (kd f (arg0 n)))[i]? with |some c=>tyL f (-1) b.1 c.2 |none=>false) 0 (nBr n)
def Qov (p:Qad)(f:GFun)(n:Qag):Bool:=(binds n).all fun v=>rdOf f v==(decide (nOp n=9)&&(!Qgn n&&!flat p.1 (kd f v)))
def Qlw:List Bool→List Int→List Bool⊕List Bool
 | bo,[]=>.inr bo
 | bo,v::l=>if bo[v.toNat]?=some false then Qlw (bo.set v.toNat true) l else .inl bo
def Qp7 (sc:List Bool)(l:List Int):Bool:=l.all fun v=>decide (0≤v∧sc[v.toNat]?=some true)
def Qjb (p:Qad)(n:Qag):Bool:=(fFun (nOp n)&&!decide (0≤nFun n∧nFun n<(p.2.length:Int)))||(decide (nOp n=2)&&!decide (0≤nNum n∧nNum n<8))
def Qlc (p:Qad)(f:GFun)(sc bo:List Bool)(n:Qag):Int⊕List Bool:=
 if QgC n=false then .inl 3
 else if Qp7 sc (uses n)=false then .inl 9
 else if (binds n).all (inR f)=false then .inl 2
 else if Qjb p n=true then .inl 2
 else match Qlw bo (binds n) with
  | .inl _=>.inl 8
  | .inr bo'=>if Qin p f n=false then .inl 10 else if Qov p f n=false then .inl 11 else .inr bo'
structure HOk (p:Qad)(f:GFun):Prop where
 par:0≤fPar f∧fPar f≤((Qae f).length:Int)
 res:isTy p.1 (fRes f)=true
 vars:∀ v∈Qae f,isTy p.1 v.1=true
theorem Qjc {d:List Qaj}{t:Int}:isTy d t=true↔0≤t∧t≤(d.length:Int):=by unfold isTy; rw [decide_eq_true_eq]
theorem HOk.kd {p:Qad}{f:GFun}(h:HOk p f)(v:Int):isTy p.1 (kd f v)=true:=by
 unfold LabB.kd
 split
 ·rename_i x hx; exact h.vars x (List.mem_of_getElem? hx)
 ·rw [Qjc]; omega
theorem Qio (f:GFun){v:Int}(h0:0≤v)(h1:v<((Qae f).length:Int)):∃ x,at' (Qae f) v=some x∧(Qae f)[v.toNat]?=some x∧kd f v=x.1∧rdOf f v=x.2:=by
 obtain ⟨x,hx,hx'⟩:=QgJ h0 h1
 exact ⟨x,hx,hx',by unfold kd; rw [hx'],by unfold rdOf; rw [hx']⟩
section
variable (p:Qad) (f:GFun) (a b c:List Bool)
theorem Qow {v:Int}(h0:0≤v)(h1:v<((Qae f).length:Int)):Qay a b c p.1 p.2 f.1 f.2.1 f.2.2.1 f.2.2.2.1 f.2.2.2.2.1 f.2.2.2.2.2.1 f.2.2.2.2.2.2 v=some (kd f v):=by
 obtain ⟨x,hx,_,hk,_⟩:=Qio f h0 h1
 rw [QkJ,show at' f.2.2.2.1 v=_ from hx,Qaa,hk]
theorem QC9 (hd:QbN p.1){v:Int}(h0:0≤v)(h1:v<((Qae f).length:Int)):Qce a b c p.1 p.2 f.1 f.2.1 f.2.2.1 f.2.2.2.1 f.2.2.2.2.1 f.2.2.2.2.2.1 f.2.2.2.2.2.2 v=some (flat p.1 (kd f v)):=by
 rw [QkK,Qow p f a b c h0 h1,Qaa,Qos p.1 hd,Qaa]
theorem Qzq (hole:Int)(l ts:List Int)(hl:l.length≤9223372036854775807)(hr:∀ v∈l,0≤v→v<((Qae f).length:Int)):
  QdR a b c ts p.1 p.2 f.1 f.2.1 f.2.2.1 f.2.2.2.1 f.2.2.2.2.1 f.2.2.2.2.2.1 f.2.2.2.2.2.2 l hole=some (tyL f hole l ts):=by
 rw [Qmb]
 unfold tyL
 by_cases he:l.length=ts.length
 ·rw [Qac (by omega),QbC he,Qcs (L:=fun i=>QbY a b c ts p.1 p.2 f.1 f.2.1 f.2.2.1 f.2.2.2.1 f.2.2.2.2.1 f.2.2.2.2.2.1 f.2.2.2.2.2.2 hole l (l.length:Int) i) (l:=l) (p:=fun i v=>if (i:Int)=hole then decide (v = -1) else decide (0≤v)&&decide (some (kd f v)=ts[i]?)) (A:=.inl ()) (B:=.inr ()) (fun i v hv=>by
   have hi:=QaU hv
   have ht:ts[i]?=some ts[i]:=List.getElem?_eq_getElem (by omega)
   rw [QfH,Qak hv,cond_true,Qai hv,Qaa,Qal hv hl]
   by_cases hh:(i:Int)=hole
   ·rw [Qac hh,if_pos hh,Qan]
   ·rw [Qab hh,if_neg hh]
    by_cases h0:v<0
    ·rw [Qac h0,QaD (show ¬ 0≤v by omega)]; rfl
    ·obtain ⟨x,hx,_,hk,_⟩:=Qio f (show 0≤v by omega) (hr v (List.mem_of_getElem? hv) (by omega))
     rw [Qab h0,show at' f.2.2.2.1 v=_ from hx,Qaa,Qai ht,Qaa,QbC (show 0≤v by omega),ht,hk,Qan]
     simp) (by rw [QfH,Qao,cond_false]),Qaa,Bool.true_and]
  cases allI _ _ _<;>rfl
 ·rw [Qab (by omega),QaD he]; rfl
theorem Qsu (hole:Int)(l ts:List Int)(hl:l.length≤9223372036854775807)(hr:∀ v∈l,0≤v→v<((Qae f).length:Int)):
  Qcg a b c p.1 p.2 f.1 f.2.1 f.2.2.1 f.2.2.2.1 f.2.2.2.2.1 f.2.2.2.2.2.1 f.2.2.2.2.2.2 l ts hole=some (tyL f hole l ts):=by
 rw [QkL]
 unfold tyL
 by_cases he:l.length=ts.length
 ·rw [Qac (by omega),QbC he,Qcs (L:=fun i=>Qbr a b c p.1 p.2 f.1 f.2.1 f.2.2.1 f.2.2.2.1 f.2.2.2.2.1 f.2.2.2.2.2.1 f.2.2.2.2.2.2 ts hole l (l.length:Int) i) (l:=l) (p:=fun i v=>if (i:Int)=hole then decide (v = -1) else decide (0≤v)&&decide (some (kd f v)=ts[i]?)) (A:=.inl ()) (B:=.inr ()) (fun i v hv=>by
   have hi:=QaU hv
   have ht:ts[i]?=some ts[i]:=List.getElem?_eq_getElem (by omega)
   rw [QeD,Qak hv,cond_true,Qai hv,Qaa,Qal hv hl]
   by_cases hh:(i:Int)=hole
   ·rw [Qac hh,if_pos hh,Qan]
   ·rw [Qab hh,if_neg hh]
    by_cases h0:v<0
    ·rw [Qac h0,QaD (show ¬ 0≤v by omega)]; rfl
    ·obtain ⟨x,hx,_,hk,_⟩:=Qio f (show 0≤v by omega) (hr v (List.mem_of_getElem? hv) (by omega))
     rw [Qab h0,show at' f.2.2.2.1 v=_ from hx,Qaa,Qai ht,Qaa,QbC (show 0≤v by omega),ht,hk,Qan]
     simp) (by rw [QeD,Qao,cond_false]),Qaa,Bool.true_and]
  cases allI _ _ _<;>rfl
 ·rw [Qab (by omega),QaD he]; rfl
theorem Qip {d:List Qaj}{t:Int}(h1:¬ t<1)(h:t≤(d.length:Int)):∃ x,at' d (t - 1)=some x∧QeI d t=x.2∧x∈d:=by
 obtain ⟨x,hx,hx'⟩:=QgJ (l:=d) (i:=t - 1) (by omega) (by omega)
 exact ⟨x,hx,by unfold QeI; rw [if_neg h1,hx'],List.mem_of_getElem? hx'⟩
theorem Qsv (hd:QbN p.1)(t con:Int)(ht:isTy p.1 t=true):Qdf a b c p.1 p.2 f.1 f.2.1 f.2.2.1 f.2.2.2.1 f.2.2.2.2.1 f.2.2.2.2.2.1 f.2.2.2.2.2.2 t con=some (match fieldsOf p t con with |none=>.inl () |some ts=>.inr ts):=by
 rw [Qjc] at ht
 have hl:=hd.len
 rw [Qlm]
 simp only [Qah,Qaa,QaB,QaQ]
 unfold fieldsOf
 by_cases h1:t<1∨con<0
 ·rw [if_pos h1,Qoh (by simp only [Bool.or_eq_true,decide_eq_true_eq]; exact h1)]; rfl
 ·rw [if_neg h1,QdQ (by simp only [Bool.or_eq_false_iff,decide_eq_false_iff_not]; omega),Qim (by omega) (by omega)]
  obtain ⟨x,hx,hc,hm⟩:=Qip (d:=p.1) (t:=t) (by omega) (by omega)
  rw [hx,Qaa,hc,Qaa]
  rcases Qok x.2 con with ⟨h0,h2,y,hy,hy',_⟩ |⟨h2,hy⟩
  ·rw [QbC h2,Bool.not_true,cond_false,Qaa,hy,hy']; rfl
  ·rw [QaD (show ¬ con<(x.2.length:Int) by omega),List.getElem?_eq_none (by omega)]; rfl
theorem Qyi (hp:Qbv p)(g:Int)(h0:0≤g)(h1:g<(p.2.length:Int)):∃ l,Qft a b c p.1 p.2 f.1 f.2.1 f.2.2.1 f.2.2.2.1 f.2.2.2.2.1 f.2.2.2.2.2.1 f.2.2.2.2.2.2 g=some (l,(QkQ p g).isSome)∧∀ ts,QkQ p g=some ts→l=ts:=by
 obtain ⟨h,hh,hh'⟩:=QgJ h0 h1
 have hs:=hp.all h (List.mem_of_getElem? hh')
 have hv:=hs.vars
 rw [Qlo,hh,Qaa]
 simp only [Qah,Qaa,QaQ]
 unfold QkQ
 rw [hh']
 simp only
 by_cases hc:fPar h<0∨((Qae h).length:Int)<fPar h
 ·rw [if_pos hc,Qoh (by simp only [Bool.or_eq_true,decide_eq_true_eq]; exact hc)]
  exact ⟨_,rfl,fun ts h=>by cases h⟩
 ·rw [if_neg hc,QdQ (by simp only [Bool.or_eq_false_iff,decide_eq_false_iff_not]; show ¬ fPar h<0∧¬ ((Qae h).length:Int)<fPar h; omega),Qab (show ¬ fPar h<0 by omega),Qab (show ¬ ((Qae h).length:Int)<fPar h by omega)]
  have hl:(List.take (fPar h).toNat (Qae h)).length≤1000000:=by rw [List.length_take]; exact Nat.le_trans (Nat.min_le_right _ _) hv
  have:=QaT (L:=fun s i=>QbE a b c s p.1 p.2 f.1 f.2.1 f.2.2.1 f.2.2.2.1 f.2.2.2.2.1 f.2.2.2.2.2.1 f.2.2.2.2.2.2 (List.take (fPar h).toNat (Qae h)) ((List.take (fPar h).toNat (Qae h)).length:Int) i) (l:=List.take (fPar h).toNat (Qae h)) (F:=fun s x=>s++[x.1]) (E:=id) (fun i s=>s.length≤i)
   (fun s i x hx hI=>⟨by
    have:=QaU hx
    rw [Qfb,Qak hx,cond_true,Qai hx,Qaa,Qac (by omega),Qal hx (by omega)],by simp; omega⟩)
   (fun s hI=>by rw [Qfb,Qao,cond_false]; rfl) [] (by simp)
  rw [show QbE a b c [] p.1 p.2 f.1 f.2.1 f.2.2.1 f.2.2.2.1 f.2.2.2.2.1 f.2.2.2.2.2.1 f.2.2.2.2.2.2 (List.take h.2.1.toNat h.2.2.2.1) ((List.take h.2.1.toNat h.2.2.2.1).length:Int) 0=_ from this,QmL]
  exact ⟨_,rfl,fun ts h=>by simp only [osi] at h; rw [← h]; rfl⟩
theorem Qsw (hp:Qbv p)(g:Int)(l:List Int)(h0:0≤g)(h1:g<(p.2.length:Int))(hl:l.length≤9223372036854775807)(hr:∀ v∈l,0≤v→v<((Qae f).length:Int)):Qc8 a b c p.1 p.2 f.1 f.2.1 f.2.2.1 f.2.2.2.1 f.2.2.2.2.1 f.2.2.2.2.2.1 f.2.2.2.2.2.2 g l=some (Qji p f g l):=by
 obtain ⟨ts,h2,h3⟩:=Qyi p f a b c hp g h0 h1
 rw [QmP,h2,Qaa]
 unfold Qji
 cases hpo:QkQ p g with
 | none=>rfl
 | some ts'=>
  rw [h3 ts' hpo]
  simp only [Option.isSome_some,cond_true]
  rw [Qzq p f a b c (-1) l ts' hl hr]
  rfl
theorem QtV (p:Qad){g:Int}(h0:0≤g)(h1:g<(p.2.length:Int)):∃ h,at' p.2 g=some h∧Qyh p g=h.2.2.1:=by
 obtain ⟨h,hh,hh'⟩:=QgJ h0 h1
 exact ⟨h,hh,by unfold Qyh; rw [hh']⟩
theorem Qyj (hp:Qbv p)(t:Int)(ht:isTy p.1 t=true)(h1:¬ t<1)(l:List QbB)(hl:l.length≤1000)(hc:l.length=(QeI p.1 t).length)(hbl:∀ x∈l,x.1.length≤1073741824)(hr:∀ x∈l,∀ v∈x.1,0≤v→v<((Qae f).length:Int)):
  Qa5 a b c p.1 p.2 f.1 f.2.1 f.2.2.1 f.2.2.2.1 f.2.2.2.2.1 f.2.2.2.2.2.1 f.2.2.2.2.2.2 t l (l.length:Int) 0=some (if allI (fun i x=>match (QeI p.1 t)[i]? with |some c=>tyL f (-1) x.1 c.2 |none=>false) 0 l=true then .inr () else .inl ()):=by
 rw [Qjc] at ht
 have hdl:=hp.Qou.len
 obtain ⟨x,hx,hco,_⟩:=Qip (d:=p.1) (t:=t) h1 ht.2
 refine Qcs (L:=fun i=>Qa5 a b c p.1 p.2 f.1 f.2.1 f.2.2.1 f.2.2.2.1 f.2.2.2.2.1 f.2.2.2.2.2.1 f.2.2.2.2.2.2 t l (l.length:Int) i) (fun i y hy=>?_) ?_
 ·have hm:=List.mem_of_getElem? hy
  have hi:=QaU hy
  have hi2:i<x.2.length:=by rw [← hco]; omega
  have hci:x.2[i]?=some x.2[i]:=List.getElem?_eq_getElem hi2
  rw [QfI,Qak hy,cond_true,Qai hy,Qaa,Qim (by omega) (by omega),hx,Qaa,Qai hci,Qaa,Qsu p f a b c (-1) y.1 _ (by have:=hbl y hm; omega) (hr y hm),Qaa,Qal hy (by omega),hco,hci,Qan]
 ·rw [QfI,Qao,cond_false]
theorem QDa (n:Qag)(h:QaJ n≠[]):at' (QaJ n) 0=some (arg0 n)∧arg0 n∈QaJ n:=by
 unfold arg0
 cases hn:QaJ n with
 | nil=>exact absurd hn h
 | cons v l=>exact ⟨at_0 v l,by simp⟩
theorem QAC (hp:Qbv p)(ho:HOk p f)(n:Qag)(hn:QbM n)(hform:QgC n=true)(hu:∀ v∈uses n,0≤v∧v<((Qae f).length:Int))(hb:∀ v∈binds n,0≤v∧v<((Qae f).length:Int))(hbad:Qjb p n=false):
  Qa0 a b c p.1 p.2 f.1 f.2.1 f.2.2.1 f.2.2.2.1 f.2.2.2.2.1 f.2.2.2.2.2.1 f.2.2.2.2.2.2 n=some (Qin p f n):=by
 unfold QgC at hform
 simp only [Bool.and_eq_true,decide_eq_true_eq,Bool.or_eq_true] at hform
 obtain ⟨⟨⟨⟨⟨⟨⟨⟨⟨hop,hargs⟩,_⟩,_⟩,_⟩,_⟩,_⟩,_⟩,_⟩,_⟩:=hform
 unfold Qjb at hbad
 rw [Bool.or_eq_false_iff] at hbad
 obtain ⟨hbad,hbad2⟩:=hbad
 have hd:=hp.Qou
 have hdl:=hd.len
 have ha:=hn.args
 have hm:=hn.more
 have hone:(nOp n=0∨nOp n=4∨nOp n=5∨nOp n=9)→at' (QaJ n) 0=some (arg0 n)∧0≤arg0 n∧arg0 n<((Qae f).length:Int):=by
  intro h
  have h1:fArgs (nOp n)=1:=by unfold fArgs; rw [if_pos h]
  rw [h1] at hargs
  have hne:QaJ n≠[]:=by intro he; rw [he] at hargs; simp at hargs
  obtain ⟨h2,h3⟩:=QDa n hne
  refine ⟨h2,hu _ ?_⟩
  unfold uses
  rw [if_neg (by omega),if_neg (by omega)]
  exact h3
 have hall:nOp n≠8→nOp n≠1→∀ v∈QaJ n,0≤v→v<((Qae f).length:Int):=fun h8 h1 v hv _=>(hu v (by unfold uses; rw [if_neg (by omega),if_neg h8]; exact hv)).2
 have hvar:Qlb (nOp n)=true→0≤nVar n∧nVar n<((Qae f).length:Int):=by
  intro h
  apply hb
  unfold binds
  have h9:nOp n≠9:=by unfold Qlb at h; rw [decide_eq_true_eq] at h; omega
  rw [if_neg h9,if_pos h]
  simp
 have hfun:fFun (nOp n)=true→0≤nFun n∧nFun n<(p.2.length:Int):=by
  intro h
  rw [h] at hbad
  simpa using hbad
 rw [Qma]
 unfold Qin
 by_cases h0:nOp n=0
 ·obtain ⟨h1,h2,h3⟩:=hone (by omega)
  rw [Qac h0,if_pos h0,show at' n.2.2.1 0=_ from h1,Qaa,Qow p f a b c h2 h3]
  rfl
 rw [Qab h0,if_neg h0]
 by_cases h1:nOp n=1
 ·obtain ⟨h2,h3⟩:=hvar (by rw [h1]; rfl)
  rw [Qac h1,if_pos h1,Qow p f a b c h2 h3]
  rfl
 rw [Qab h1,if_neg h1]
 by_cases h2:nOp n=2
 ·obtain ⟨h3,h4⟩:=hvar (by rw [h2]; rfl)
  rw [Qac h2,if_pos h2,QmH,Qaa,Qzq p f a b c (-1) n.2.2.1 [0,0] (by have:n.2.2.1.length≤1000:=ha; omega) (hall (by omega) h1),Qow p f a b c h3 h4]
  simp only [Qaa,Qah,Qfj]
  rw [QFm]
 rw [Qab h2,if_neg h2]
 by_cases h3:nOp n=3
 ·obtain ⟨h4,h5⟩:=hvar (by rw [h3]; rfl)
  rw [Qac h3,if_pos h3,Qow p f a b c h4 h5,Qaa,Qsv p f a b c hd _ _ (ho.kd _),Qaa]
  show _=some (match fieldsOf p (kd f n.2.1) n.2.2.2.1 with |none=>false |some ts=>tyL f (-1) (QaJ n) ts)
  cases fieldsOf p (kd f n.2.1) n.2.2.2.1 with
  | none=>rfl
  | some ts=>
   simp only
   rw [Qsu p f a b c (-1) n.2.2.1 ts (by have:n.2.2.1.length≤1000:=ha; omega) (hall (by omega) h1)]
   rfl
 rw [Qab h3,if_neg h3]
 by_cases h4:nOp n=4
 ·obtain ⟨h5,h6⟩:=hvar (by rw [h4]; rfl)
  obtain ⟨h7,h8,h9⟩:=hone (by omega)
  rw [Qac h4,if_pos h4,show at' n.2.2.1 0=_ from h7,Qaa,Qow p f a b c h5 h6,Qow p f a b c h8 h9,Qaa,Qaa,QC9 p f a b c hd h5 h6,Qaa,Qah,Qfj]
 rw [Qab h4,if_neg h4]
 by_cases h5:nOp n=5
 ·obtain ⟨h7,h8,h9⟩:=hone (by omega)
  rw [Qac h5,if_pos h5,show at' n.2.2.1 0=_ from h7,Qaa,QC9 p f a b c hd h8 h9,Qaa]
 rw [Qab h5,if_neg h5]
 by_cases h6:nOp n=6
 ·obtain ⟨h7,h8⟩:=hvar (by rw [h6]; rfl)
  obtain ⟨h9,h10⟩:=hfun (by rw [h6]; rfl)
  obtain ⟨g,hg,hres⟩:=QtV p h9 h10
  rw [Qac h6,if_pos h6,Qsw p f a b c hp _ n.2.2.1 h9 h10 (by have:n.2.2.1.length≤1000:=ha; omega) (hall (by omega) h1),Qaa,Qow p f a b c h7 h8,show at' p.2 n.2.2.2.2.2.1=_ from hg,Qaa,Qaa,Qah,Qfj,← hres]
 rw [Qab h6,if_neg h6]
 by_cases h7:nOp n=7
 ·obtain ⟨h9,h10⟩:=hfun (by rw [h7]; rfl)
  obtain ⟨g,hg,hres⟩:=QtV p h9 h10
  rw [Qac h7,if_pos h7,Qsw p f a b c hp _ n.2.2.1 h9 h10 (by have:n.2.2.1.length≤1000:=ha; omega) (hall (by omega) h1),Qaa,show at' p.2 n.2.2.2.2.2.1=_ from hg,Qaa,Qah,Qfj,← hres]
 rw [Qab h7,if_neg h7]
 by_cases h8:nOp n=8
 ·obtain ⟨h9,h10⟩:=hfun (by rw [h8]; rfl)
  obtain ⟨g,hg,hres⟩:=QtV p h9 h10
  have hv:∀ v∈QaJ n++Qgm n,0≤v→v<((Qae f).length:Int):=fun v hv h0=>(hu v (by unfold uses; rw [if_neg (by omega),if_pos h8,List.mem_filter]; exact ⟨hv,by simpa using h0⟩)).2
  rw [Qac h8,if_pos h8,Qsv p f a b c hd _ _ ho.res,Qaa]
  show _=some (match fieldsOf p f.2.2.1 n.2.2.2.1 with |none=>false |some ts=>decide (0≤nNum n∧nNum n<(ts.length:Int))&&tyL f (nNum n) (QaJ n) ts&&Qji p f (nFun n) (Qgm n)&&decide (some (Qyh p (nFun n))=ts[(nNum n).toNat]?))
  cases fieldsOf p f.2.2.1 n.2.2.2.1 with
  | none=>rfl
  | some ts=>
   simp only [Qah,Qaa,QaQ]
   rw [Qsu p f a b c _ n.2.2.1 ts (by have:n.2.2.1.length≤1000:=ha; omega) (fun v h=>hv v (by simp; exact Or.inl h)),Qsw p f a b c hp _ n.2.2.2.2.2.2.1 h9 h10 (by have:n.2.2.2.2.2.2.1.length≤1000:=hm; omega) (fun v h=>hv v (by simp; exact Or.inr h)),show at' p.2 n.2.2.2.2.2.1=_ from hg]
   simp only [Qah,Qaa,QaQ,QaB]
   by_cases hnum:0≤nNum n∧nNum n<(ts.length:Int)
   ·obtain ⟨t,ht,ht'⟩:=QgJ hnum.1 hnum.2
    rw [QbC hnum,show decide (n.2.2.2.2.1<0)=false from QaD (show ¬ nNum n<0 by omega),show decide (n.2.2.2.2.1<(ts.length:Int))=true from QbC hnum.2,show at' ts n.2.2.2.2.1=_ from ht,ht',hres]
    simp only [Bool.not_true,Bool.or_false,cond_false,Bool.true_and,Qaa,osi]
    show (bif !(tyL f (nNum n) (QaJ n) ts) then some false else bif Qji p f (nFun n) (Qgm n) then some (decide (g.2.2.1=t)) else some false)=_
    cases tyL f (nNum n) (QaJ n) ts<;>cases Qji p f (nFun n) (Qgm n)<;>rfl
   ·rw [QaD hnum,show (decide (n.2.2.2.2.1<0)||!decide (n.2.2.2.2.1<(ts.length:Int)))=true by
     rw [Bool.or_eq_true,Bool.not_eq_true',decide_eq_true_eq,decide_eq_false_iff_not]; show nNum n<0∨¬ nNum n<(ts.length:Int); omega]
    rfl
 rw [Qab h8,if_neg h8]
 obtain ⟨h9,h10,h11⟩:=hone (by omega)
 rw [show at' n.2.2.1 0=_ from h9,Qaa,Qow p f a b c h10 h11,Qaa,QC9 p f a b c hd h10 h11]
 have hty:=ho.kd (arg0 n)
 have hty':=hty
 rw [Qjc] at hty'
 by_cases ht1:kd f (arg0 n)<1
 ·rw [Qac ht1,QbC ht1]; rfl
 ·rw [Qab ht1,QaD ht1,Qim (by omega) (by omega)]
  obtain ⟨x,hx,hco,_⟩:=Qip (d:=p.1) (t:=kd f (arg0 n)) ht1 hty'.2
  rw [hx,Qaa]
  by_cases hlen:(nBr n).length=(QeI p.1 (kd f (arg0 n))).length
  ·have h9:nOp n=9:=by omega
   have hbr:∀ x∈nBr n,∀ v∈x.1,0≤v→v<((Qae f).length:Int):=fun x hx v hv _=>(hb v (by unfold binds; rw [if_pos h9,List.mem_flatMap]; exact ⟨x,hx,hv⟩)).2
   rw [QbC hlen,Qac (show ((n.2.2.2.2.2.2.2.2.1.length:Int)=(x.2.length:Int)) by rw [← hco]; exact congrArg _ hlen),Qyj p f a b c hp _ hty ht1 n.2.2.2.2.2.2.2.2.1 hn.br hlen hn.bs hbr]
   simp only [Qaa,Bool.not_false,Bool.true_and]
   show (bif Qgn n then _ else _)=some (!(Qgn n&&flat p.1 (kd f (arg0 n)))&&_)
   cases Qgn n<;>cases flat p.1 (kd f (arg0 n))<;>simp only [cond_true,cond_false,Bool.and_true,Bool.and_false,Bool.true_and,Bool.false_and,Bool.not_true,Bool.not_false]<;>(first |rfl |(cases allI _ 0 _<;>rfl))
  ·rw [QaD hlen,Qab (show ¬ ((n.2.2.2.2.2.2.2.2.1.length:Int)=(x.2.length:Int)) by rw [← hco]; show ¬ (((nBr n).length:Int)=_); omega)]
   simp
end
end Go.Proofs.YtkecfadnfnnfaaaGreatDoor.LabB
namespace Go.Proofs.YtkecfadnfnnfaaaGreatDoor.LabB
open Go Go.Ev Go.Sy
theorem QwG:∀ (l:List Int) (bo:List Bool) (i:Nat),runI (fun _ s v=>if s[v.toNat]?=some false then .inl (s.set v.toNat true) else .inr (.inl s)) (fun s=>(.inr s:List Bool⊕List Bool)) i bo l=Qlw bo l
 | [],bo,i=>rfl
 | v::l,bo,i=>by
  rw [runI,Qlw]
  by_cases h:bo[v.toNat]?=some false
  ·rw [if_pos h,if_pos h]; exact QwG l _ _
  ·rw [if_neg h,if_neg h]
theorem tf:¬ (true=false):=by simp
theorem ft:¬ (false=true):=by simp
section
variable (p:Qad) (f:GFun) (a b c:List Bool)
theorem QHL (n:Qag)(l:List Int)(hl:l.length≤9223372036854775807):QbW a b c p.1 p.2 f.1 f.2.1 f.2.2.1 f.2.2.2.1 f.2.2.2.2.1 f.2.2.2.2.2.1 f.2.2.2.2.2.2 n l (l.length:Int) 0=some (if Qp7 c l=true then .inr () else .inl ()):=by
 refine Qap (L:=fun i=>QbW a b c p.1 p.2 f.1 f.2.1 f.2.2.1 f.2.2.2.1 f.2.2.2.2.1 f.2.2.2.2.2.1 f.2.2.2.2.2.2 n l (l.length:Int) i) (p:=fun (v:Int)=>decide (0≤v∧c[v.toNat]?=some true)) (fun i v hv=>?_) ?_
 ·rw [QfF,Qak hv,cond_true,Qai hv,Qal hv hl]
  simp only [Qaa,Qah,QaQ]
  rcases Qok c v with ⟨h0,h1,y,hy,hy',_⟩ |⟨h1,hy⟩
  ·rw [QaD (show ¬ v<0 by omega),QbC h1,hy,hy']
   cases y<;>simp [Qaa,h0]
  ·have hz:(decide (v<0)||!decide (v<(c.length:Int)))=true:=by
    rw [Bool.or_eq_true,Bool.not_eq_true',decide_eq_true_eq,decide_eq_false_iff_not]; omega
   rw [hz,cond_true,Qaa,cond_true,if_neg (by
    rw [decide_eq_true_eq]
    rintro ⟨h2,h3⟩
    have:=QaU h3
    omega)]
 ·rw [QfF,Qao,cond_false]
theorem QHM (n:Qag)(bs l:List Int)(hl:l.length≤9223372036854775807):QbX a b c p.1 p.2 f.1 f.2.1 f.2.2.1 f.2.2.2.1 f.2.2.2.2.1 f.2.2.2.2.2.1 f.2.2.2.2.2.2 n bs l (l.length:Int) 0=some (if l.all (inR f)=true then .inr () else .inl ()):=by
 refine Qap (L:=fun i=>QbX a b c p.1 p.2 f.1 f.2.1 f.2.2.1 f.2.2.2.1 f.2.2.2.2.1 f.2.2.2.2.2.1 f.2.2.2.2.2.2 n bs l (l.length:Int) i) (p:=inR f) (fun i v hv=>?_) ?_
 ·rw [QfG,Qak hv,cond_true,Qai hv,Qal hv hl]
  simp only [Qaa,Qah,QaQ]
  unfold inR
  by_cases h:0≤v∧v<((Qae f).length:Int)
  ·rw [QbC h,if_pos rfl,QaD (show ¬ v<0 by omega),show decide (v<(f.2.2.2.1.length:Int))=true from QbC h.2]; rfl
  ·rw [QaD h,if_neg (by simp),show (decide (v<0)||!decide (v<(f.2.2.2.1.length:Int)))=true by
    rw [Bool.or_eq_true,Bool.not_eq_true',decide_eq_true_eq,decide_eq_false_iff_not]; show v<0∨¬ v<((Qae f).length:Int); omega]
   rfl
 ·rw [QfG,Qao,cond_false]
theorem QHN (n:Qag)(bs l:List Int)(hl:l.length≤9223372036854775807)(hr:∀ v∈l,0≤v∧v<((Qae f).length:Int))(hb:b.length=(Qae f).length):QaG a b c p.1 p.2 f.1 f.2.1 f.2.2.1 f.2.2.2.1 f.2.2.2.2.1 f.2.2.2.2.2.1 f.2.2.2.2.2.2 n bs l (l.length:Int) 0=some (Qlw b l):=by
 rw [← QwG l b 0]
 refine Qzi (L:=fun s i=>QaG a s c p.1 p.2 f.1 f.2.1 f.2.2.1 f.2.2.2.1 f.2.2.2.2.1 f.2.2.2.2.2.1 f.2.2.2.2.2.2 n bs l (l.length:Int) i) (fun _ s=>s.length=(Qae f).length) (fun s i v hv hI=>?_) (fun s hI=>?_) b hb
 ·obtain ⟨h0,h1⟩:=hr v (List.mem_of_getElem? hv)
  have hI':s.length=(Qae f).length:=hI
  obtain ⟨y,hy,hy'⟩:=QgJ (l:=s) h0 (by omega)
  cases y with
  | true=>
   rw [if_neg (by rw [hy']; simp)]
   show QaG a s c p.1 p.2 f.1 f.2.1 f.2.2.1 f.2.2.2.1 f.2.2.2.2.1 f.2.2.2.2.2.1 f.2.2.2.2.2.2 n bs l (l.length:Int) (i:Int)=some (.inl s)
   rw [Qda,Qak hv,cond_true,Qai hv,Qaa,hy,Qaa,cond_true]
  | false=>
   rw [if_pos hy']
   refine ⟨?_,by simpa using hI⟩
   rw [Qda,Qak hv,cond_true,Qai hv,Qaa,hy,Qaa,cond_false,Qal hv hl]
 ·rw [Qda,Qao,cond_false]
theorem QHO (hd:QbN p.1)(n:Qag)(l:List Int)(hl:l.length≤9223372036854775807)(hr:∀ v∈l,0≤v∧v<((Qae f).length:Int)):Qas a b c p.1 p.2 f.1 f.2.1 f.2.2.1 f.2.2.2.1 f.2.2.2.2.1 f.2.2.2.2.2.1 f.2.2.2.2.2.2 n l (l.length:Int) 0=some (if (l.all fun v=>rdOf f v==(decide (nOp n=9)&&(!Qgn n&&!flat p.1 (kd f v))))=true then .inr () else .inl ()):=by
 refine Qap (L:=fun i=>Qas a b c p.1 p.2 f.1 f.2.1 f.2.2.1 f.2.2.2.1 f.2.2.2.2.1 f.2.2.2.2.2.1 f.2.2.2.2.2.2 n l (l.length:Int) i) (p:=fun v=>rdOf f v==(decide (nOp n=9)&&(!Qgn n&&!flat p.1 (kd f v)))) (fun i v hv=>?_) ?_
 ·obtain ⟨h0,h1⟩:=hr v (List.mem_of_getElem? hv)
  obtain ⟨x,hx,_,hk,hrd⟩:=Qio f h0 h1
  rw [QfJ,Qak hv,cond_true,Qai hv,Qaa,show at' f.2.2.2.1 v=_ from hx,Qaa,Qos p.1 hd,Qaa,Qal hv hl,hk,hrd]
  show (bif decide (nOp n=9) then bif Qgn n then _ else _ else _)=_
  cases decide (nOp n=9)<;>cases Qgn n<;>cases x.2<;>cases flat p.1 x.1<;>rfl
 ·rw [QfJ,Qao,cond_false]
theorem Qzr (n:Qag)(h:QbM n):(uses n).length≤2000:=by
 have ha:=h.args
 have hm:=h.more
 unfold uses
 split
 ·simp
 ·split
  ·have:=List.length_filter_le (fun v=>decide (0≤v)) (QaJ n++Qgm n)
   rw [List.length_append] at this
   omega
  ·omega
theorem Qsx {α β:Type}(g:α→List β)(K:Nat):∀ l:List α,(∀ x∈l,(g x).length≤K)→(l.flatMap g).length≤l.length * K
 | [],h=>by simp
 | x::l,h=>by
  have h1:=h x (by simp)
  have h2:=Qsx g K l (fun y hy=>h y (by simp [hy]))
  rw [List.flatMap_cons,List.length_append,List.length_cons,Nat.add_mul]
  omega
theorem Qox (n:Qag)(h:QbM n):(binds n).length≤1073741824000:=by
 have hb:=h.br
 unfold binds
 split
 ·have:=Qsx (fun b:QbB=>b.1) 1073741824 (nBr n) h.bs
  omega
 ·split<;>simp
theorem QAD (hp:Qbv p)(ho:HOk p f)(n:Qag)(hn:QbM n)(hb:b.length=(Qae f).length)(hc:c.length=(Qae f).length):
  ∃ b' e,Qf8 a b c p.1 p.2 f.1 f.2.1 f.2.2.1 f.2.2.2.1 f.2.2.2.2.1 f.2.2.2.2.2.1 f.2.2.2.2.2.2 n=some (b',e)∧(match Qlc p f c b n with | .inl e'=>e=e'∧e'≠0 | .inr bo'=>e=0∧b'=bo'):=by
 have hul:=Qzr n hn
 have hbl:=Qox n hn
 rw [Ql7,QCV,Qaa]
 unfold Qlc
 cases hform:QgC n with
 | false=>exact ⟨_,_,rfl,rfl,by decide⟩
 | true=>
  rw [cond_true,QCY n hn,Qaa,QHL p f a b c n _ (by omega),Qaa,if_neg tf]
  cases hu:Qp7 c (uses n) with
  | false=>exact ⟨_,_,rfl,rfl,by decide⟩
  | true=>
   rw [if_pos (show true=true from rfl),QhN n hn]
   simp only [Qaa]
   rw [QHM p f a b c n _ _ (by omega),Qaa,if_neg tf]
   cases hr:(binds n).all (inR f) with
   | false=>exact ⟨_,_,rfl,rfl,by decide⟩
   | true=>
    rw [if_pos (show true=true from rfl)]
    simp only
    have hop:0≤nOp n∧nOp n<10:=by
     unfold QgC at hform
     simp only [Bool.and_eq_true,decide_eq_true_eq] at hform
     exact hform.1.1.1.1.1.1.1.1.1
    rw [Qop,Qaa,Qzm n.1 hop,Qaa,if_neg tf]
    have hr':∀ v∈binds n,0≤v∧v<((Qae f).length:Int):=fun v hv=>by
     have:=List.all_eq_true.1 hr v hv
     unfold inR at this
     simpa using this
    have hu':∀ v∈uses n,0≤v∧v<((Qae f).length:Int):=fun v hv=>by
     have:=List.all_eq_true.1 hu v hv
     rw [decide_eq_true_eq] at this
     have:=QaU this.2
     omega
    rw [QHN p f a b c n _ _ (by omega) hr' hb]
    show ∃ b' e,(bif fFun (nOp n) then _ else _)=some (b',e)∧_
    cases hbad:Qjb p n with
    | true=>
     rw [if_pos (show true=true from rfl)]
     refine ⟨b,2,?_,rfl,by decide⟩
     unfold Qjb at hbad
     rw [Bool.or_eq_true] at hbad
     cases hff:fFun (nOp n) with
     | true=>
      have h2:nOp n≠2:=by unfold fFun at hff; rw [decide_eq_true_eq] at hff; omega
      rw [hff,QaD h2] at hbad
      simp only [Bool.true_and,Bool.false_and,Bool.false_eq_true,or_false,Bool.not_eq_true',decide_eq_false_iff_not] at hbad
      rw [cond_true]
      by_cases h0:nFun n<0
      ·rw [Qac h0]
      ·rw [Qab h0,Qab (show ¬ nFun n<(p.2.length:Int) by omega)]
     | false=>
      rw [hff] at hbad
      simp only [Bool.false_and,Bool.false_eq_true,false_or,Bool.and_eq_true,decide_eq_true_eq,Bool.not_eq_true',decide_eq_false_iff_not] at hbad
      rw [cond_false,Qac hbad.1]
      by_cases h0:nNum n<0
      ·rw [Qac h0]
      ·rw [Qab h0,Qab (show ¬ nNum n<8 by omega)]
    | false=>
     rw [if_neg ft]
     have key:∀ bo,Qlw b (binds n)=.inr bo→Qa0 a bo c p.1 p.2 f.1 f.2.1 f.2.2.1 f.2.2.2.1 f.2.2.2.2.1 f.2.2.2.2.2.1 f.2.2.2.2.2.2 n=some (Qin p f n):=fun bo _=>QAC p f a bo c hp ho n hn hform hu' hr' hbad
     have key6:∀ bo,Qas a bo c p.1 p.2 f.1 f.2.1 f.2.2.1 f.2.2.2.1 f.2.2.2.2.1 f.2.2.2.2.2.1 f.2.2.2.2.2.2 n (binds n) ((binds n).length:Int) 0=some (if Qov p f n=true then .inr () else .inl ()):=fun bo=>QHO p f a bo c hp.Qou n _ (by omega) hr'
     unfold Qjb at hbad
     rw [Bool.or_eq_false_iff] at hbad
     obtain ⟨hbad1,hbad2⟩:=hbad
     have tail:∃ b' e,(Option.bind (some (Qlw b (binds n))) fun z=>match z with
       | .inl v17=>some (v17,(8:Int))
       | .inr v17=>Option.bind (Qa0 a v17 c p.1 p.2 f.1 f.2.1 f.2.2.1 f.2.2.2.1 f.2.2.2.2.1 f.2.2.2.2.2.1 f.2.2.2.2.2.2 n) fun v18=>bif v18 then
         Option.bind (Qas a v17 c p.1 p.2 f.1 f.2.1 f.2.2.1 f.2.2.2.1 f.2.2.2.2.1 f.2.2.2.2.2.1 f.2.2.2.2.2.2 n (binds n) ((binds n).length:Int) 0) fun z=>match z with
          | .inl _=>some (v17,11)
          | .inr _=>some (v17,0)
        else some (v17,10))=some (b',e)∧(match (match Qlw b (binds n) with
        | .inl _=>(.inl 8:Int⊕List Bool)
        | .inr bo'=>if Qin p f n=false then .inl 10 else if Qov p f n=false then .inl 11 else .inr bo') with | .inl e'=>e=e'∧e'≠0 | .inr bo'=>e=0∧b'=bo'):=by
      rw [Qaa]
      cases hm:Qlw b (binds n) with
      | inl bo=>exact ⟨_,_,rfl,rfl,by decide⟩
      | inr bo=>
       simp only
       rw [key bo hm,Qaa,key6 bo]
       cases Qin p f n with
       | false=>exact ⟨_,_,rfl,rfl,by decide⟩
       | true=>
        cases Qov p f n with
        | false=>exact ⟨_,_,rfl,rfl,by decide⟩
        | true=>exact ⟨_,_,rfl,rfl,rfl⟩
     cases hff:fFun (nOp n) with
     | true=>
      rw [hff] at hbad1
      simp only [Bool.true_and,Bool.not_eq_false',decide_eq_true_eq] at hbad1
      have h2:nOp n≠2:=by unfold fFun at hff; rw [decide_eq_true_eq] at hff; omega
      rw [cond_true,Qab (show ¬ nFun n<0 by omega),Qac (show nFun n<(p.2.length:Int) from hbad1.2),Qab h2]
      exact tail
     | false=>
      rw [cond_false]
      by_cases h2:nOp n=2
      ·rw [QbC h2] at hbad2
       simp only [Bool.true_and,Bool.not_eq_false',decide_eq_true_eq] at hbad2
       rw [Qac h2,Qab (show ¬ nNum n<0 by omega),Qac (show nNum n<8 from hbad2.2)]
       exact tail
      ·rw [Qab h2]
       exact tail
end
end Go.Proofs.YtkecfadnfnnfaaaGreatDoor.LabB
