/- Of the models: the check of the reference. -/
import Derived.Test.YtkecfadnfnnfaaaGreatDoorPlB9
set_option linter.unusedVariables false
set_option linter.unusedSimpArgs false
namespace Go.Proofs.YtkecfadnfnnfaaaGreatDoor.LabB
open Go Go.Ev Go.Sy
section
variable (p:Qae) (f:GFun)
theorem QCj (hp:QbS p)(k:Nat)(hk:p.2[k]?=some f)(hf:Qgp f):Qk2 p (k:Int)=some (hdr p k f):=by
 have hn:=hf.name
 have hv:(Qad f).length≤1000000:=hf.vars
 have hpl:=hp.funs
 have hkl:=Qa7 hk
 have h0:Qdp p f (k:Int) 0=some (if (p.2.take k).any (fun g=>decide (g.1=f.1))=true then .inl () else .inr ()):=by
  have htl:(p.2.take k).length=k:=by rw [List.length_take]; omega
  have hl:((p.2.take k).length:Int)=(k:Int):=by rw [htl]
  rw [QaF (L:=fun i=>Qdp p f (k:Int) i) (l:=p.2.take k) (p:=fun g=>!decide (g.1=f.1)) (A:=.inl ()) (B:=.inr ()) (fun i g hg=>by
   have hi:=Qa7 hg
   have hg':p.2[i]?=some g:=by rw [List.getElem?_take] at hg; split at hg; exact hg; cases hg
   rw [QhR,Qac (by omega),Qag hg',Qaa,Qam hg' (by omega),Qak]
   cases decide (g.1=f.1)<;>rfl) (by rw [QhR,Qab (by omega)]),← List.not_any_eq_all_not]
  cases List.any _ _<;>rfl
 have h2:Qbw p f 0=some (if ((Qad f).all fun v=>isTy p.1 v.1)=true then .inr () else .inl ()):=by
  refine QaF (L:=fun i=>Qbw p f i) (p:=fun (v:GVar)=>isTy p.1 v.1) (fun i v hvv=>?_) ?_
  ·rw [QhX,Qal hvv,cond_true,Qag hvv,Qaa,Qo3,Qaa,Qam hvv (by omega),Qak]
  ·rw [QhX,Qar,cond_false]
 have h4:Qbb p f 0=some (if ((Qad f).all fun v=>!(v.2&&flat p.1 v.1))=true then .inl () else .inr ()):=by
  refine QaF (L:=fun i=>Qbb p f i) (p:=fun (v:GVar)=>!(v.2&&flat p.1 v.1)) (fun i v hvv=>?_) ?_
  ·rw [Qh1,Qal hvv,cond_true,Qag hvv,Qaa,Qjc p.1 hp.Qnr,Qaa,Qam hvv (by omega)]
   cases v.2<;>cases flat p.1 v.1<;>rfl
  ·rw [Qh1,Qar,cond_false]
 rw [Qq2,Qag hk,Qaa,Qzz _ hn,Qaa,h0,Qo3,h2,h4]
 simp only [Qai,Qaa,Qaz,QaQ,Qjy,Qnh]
 unfold hdr
 cases hnm:QvG f.1 with
 | false=>rfl
 | true=>
  cases ht:(p.2.take k).any (fun g=>decide (g.1=f.1)) with
  | true=>rfl
  | false=>
   rw [if_neg tf,if_neg ft]
   by_cases h6:6<fPar f∨512<((Qad f).length:Int)∨4096<((Qap f).length:Int)
   ·rw [if_pos h6,cond_true]
    dsimp only
    rw [Qnf (by simp only [Bool.or_eq_true,decide_eq_true_eq]; show (6<fPar f∨512<((Qad f).length:Int))∨4096<((Qap f).length:Int); omega)]
    rfl
   ·rw [if_neg h6,cond_true]
    dsimp only
    rw [Qdd (by simp only [Bool.or_eq_false_iff,decide_eq_false_iff_not]; show (¬ 6<fPar f∧¬ 512<((Qad f).length:Int))∧¬ 4096<((Qap f).length:Int); omega)]
    by_cases h3:fPar f<0∨((Qad f).length:Int)<fPar f
    ·rw [if_pos h3,Qnf (by simp only [Bool.or_eq_true,decide_eq_true_eq]; exact h3)]
     rfl
    ·rw [if_neg h3,Qdd (by simp only [Bool.or_eq_false_iff,decide_eq_false_iff_not]; show ¬ fPar f<0∧¬ ((Qad f).length:Int)<fPar f; omega)]
     cases he:fExt f with
     | true=>
      rw [show f.2.2.2.2.2.2=true from he]
      simp only [cond_true,cond_false,Qaa,Qaz]
      by_cases hl:((Qad f).length:Int)=fPar f
      ·rw [Qac hl]
       by_cases hc:0<((Qap f).length:Int)
       ·rw [show decide (0<(f.2.2.2.2.1.length:Int))=true from QbE hc,if_pos (Or.inl ⟨trivial,Or.inr (Or.inl hc)⟩)]
        rfl
       ·rw [show decide (0<(f.2.2.2.2.1.length:Int))=false from QaP hc]
        by_cases hb:Qa0 f=0
        ·rw [show decide (f.2.2.2.2.2.1=0)=true from QbE hb,if_neg (show ¬ ((True∧(fPar f<((Qad f).length:Int)∨0<((Qap f).length:Int)∨Qa0 f≠0))∨(true=false∧(Qa0 f<0∨((Qap f).length:Int)≤Qa0 f))) by
          rintro (⟨_,h |h |h⟩ |⟨h,_⟩)
          ·omega
          ·omega
          ·exact h hb
          ·cases h)]
         simp only [Bool.not_true,Bool.or_false,cond_false]
         cases isTy p.1 f.2.2.1<;>cases ((Qad f).all fun v=>isTy p.1 v.1)<;>cases ((Qad f).all fun v=>!(v.2&&flat p.1 v.1))<;>rfl
        ·rw [show decide (f.2.2.2.2.2.1=0)=false from QaP hb,if_pos (Or.inl ⟨trivial,Or.inr (Or.inr hb)⟩)]
         rfl
      ·rw [Qab hl,if_pos (Or.inl ⟨trivial,Or.inl (by omega)⟩)]
       rfl
     | false=>
      rw [show f.2.2.2.2.2.2=false from he]
      simp only [cond_true,cond_false,Qaa,Qaz]
      by_cases hb:Qa0 f<0∨((Qap f).length:Int)≤Qa0 f
      ·rw [show (decide (f.2.2.2.2.2.1<0)||!decide (f.2.2.2.2.2.1<(f.2.2.2.2.1.length:Int)))=true by
        rw [Bool.or_eq_true,Bool.not_eq_true',decide_eq_true_eq,decide_eq_false_iff_not]; show Qa0 f<0∨¬ Qa0 f<((Qap f).length:Int); omega,if_pos (Or.inr ⟨trivial,hb⟩)]
       rfl
      ·rw [show (decide (f.2.2.2.2.2.1<0)||!decide (f.2.2.2.2.2.1<(f.2.2.2.2.1.length:Int)))=false by
        rw [Bool.or_eq_false_iff,Bool.not_eq_false',decide_eq_true_eq,decide_eq_false_iff_not]; show ¬ Qa0 f<0∧Qa0 f<((Qap f).length:Int); omega,if_neg (show ¬ ((false=true∧(fPar f<((Qad f).length:Int)∨0<((Qap f).length:Int)∨Qa0 f≠0))∨(True∧(Qa0 f<0∨((Qap f).length:Int)≤Qa0 f))) by
            rintro (⟨h,_⟩ |⟨_,h⟩)
            ·cases h
            ·exact hb h)]
       simp only [cond_false]
       cases isTy p.1 f.2.2.1<;>cases ((Qad f).all fun v=>isTy p.1 v.1)<;>cases ((Qad f).all fun v=>!(v.2&&flat p.1 v.1))<;>rfl
theorem Qnx {v:Int}(h0:0≤v)(h1:v<((Qad f).length:Int)):Qbh f v=some (kd f v):=by
 obtain ⟨x,hx,_,hk,_⟩:=Qot f h0 h1
 rw [Qt8,show at' f.2.2.2.1 v=_ from hx,Qaa,hk]
theorem Qxp (hd:Qbo p.1)(t con:Int)(ht:isTy p.1 t=true)(hole:Int)(l:List Int)(hl:l.length≤9223372036854775807)(hr:∀ v∈l,0≤v→v<((Qad f).length:Int)):Qf8 p f t con l hole=some (match fieldsOf p t con with |none=>false |some ts=>tyL f hole l ts):=by
 rw [Qid] at ht
 have hdl:=hd.len
 rw [Qrd]
 simp only [Qai,Qaa,Qaz,QaQ]
 unfold fieldsOf
 by_cases h1:t<1∨con<0
 ·rw [if_pos h1,Qnf (show (decide (t<1)||decide (con<0))=true by simp only [Bool.or_eq_true,decide_eq_true_eq]; exact h1)]; rfl
 ·obtain ⟨x,hx,hc,hm⟩:=Qhn (d:=p.1) (t:=t) (by omega) (by omega)
  rw [if_neg h1,Qdd (show (decide (t<1)||decide (con<0))=false by simp only [Bool.or_eq_false_iff,decide_eq_false_iff_not]; omega),Qhl (by omega) (by omega),hx,hc]
  simp only [Qaa]
  rcases Qni x.2 con with ⟨h0,h2,y,hy,hy',_⟩ |⟨h2,hy⟩
  ·rw [QbE h2,hy,hy']
   simp only [Qaa,Bool.not_true,cond_false]
   unfold tyL
   by_cases he:l.length=y.2.length
   ·rw [show decide ((l.length:Int)=(y.2.length:Int))=true from QbE (by omega),QbE he]
    rw [Qg6 (L:=fun i=>Qdx p f t con l hole i) (l:=l) (p:=fun i v=>if (i:Int)=hole then decide (v = -1) else decide (0≤v)&&decide (some (kd f v)=y.2[i]?)) (A:=.inl ()) (B:=.inr ()) (fun i v hv=>by
     have hi:=Qa7 hv
     have hyi:y.2[i]?=some (y.2[i]'(by omega)):=List.getElem?_eq_getElem (by omega)
     rw [Qh3,Qal hv,cond_true,Qag hv,Qam hv hl]
     simp only [Qaa]
     by_cases hh:(i:Int)=hole
     ·rw [Qac hh,if_pos hh,Qak]
     ·rw [Qab hh,if_neg hh]
      by_cases hv0:v<0
      ·rw [Qac hv0,QaP (show ¬ 0≤v by omega)]; rfl
      ·rw [Qab hv0,Qhl (by omega) (by omega),hx,Qaa,hy,Qaa,Qag hyi,Qaa,Qnx f (by omega) (hr v (List.mem_of_getElem? hv) (by omega)),Qaa,QbE (show 0≤v by omega),hyi,Qak]
       simp) (by rw [Qh3,Qar,cond_false])]
    simp only [Bool.not_true,cond_false,Qaa,Bool.true_and]
    cases allI _ _ _<;>rfl
   ·rw [show decide ((l.length:Int)=(y.2.length:Int))=false from QaP (by omega),QaP he]
    rfl
  ·rw [QaP (show ¬ con<(x.2.length:Int) by omega),List.getElem?_eq_none (by omega)]; rfl
theorem Qxq (hp:QbS p)(g:Int)(l:List Int)(h0:0≤g)(h1:g<(p.2.length:Int))(hl:l.length≤9223372036854775807)(hr:∀ v∈l,0≤v→v<((Qad f).length:Int)):Qf7 p f g l=some (Qii p f g l):=by
 obtain ⟨h,hh,hh'⟩:=Qfp h0 h1
 rw [Qrc,hh,Qaa]
 simp only [Qai,Qaa,Qaz,QaQ]
 unfold Qii QjO
 rw [hh']
 simp only
 by_cases hc:fPar h<0∨((Qad h).length:Int)<fPar h
 ·rw [if_pos hc,show (decide (h.2.1<0)||decide ((h.2.2.2.1.length:Int)<h.2.1))=true by simp only [Bool.or_eq_true,decide_eq_true_eq]; exact hc]
  rfl
 ·rw [if_neg hc,show (decide (h.2.1<0)||decide ((h.2.2.2.1.length:Int)<h.2.1))=false by simp only [Bool.or_eq_false_iff,decide_eq_false_iff_not]; show ¬ fPar h<0∧¬ ((Qad h).length:Int)<fPar h; omega,Bool.false_or]
  unfold tyL
  have htl:(((Qad h).take (fPar h).toNat).map (·.1)).length=(fPar h).toNat:=by rw [List.length_map,List.length_take]; omega
  dsimp only
  rw [htl]
  by_cases he:l.length=(fPar h).toNat
  ·rw [show decide ((l.length:Int)=h.2.1)=true from QbE (show (l.length:Int)=fPar h by omega),QbE he]
   rw [Qg6 (L:=fun i=>Qfe f h l i) (l:=l) (p:=fun i v=>if (i:Int) = -1 then decide (v = -1) else decide (0≤v)&&decide (some (kd f v)=(((Qad h).take (fPar h).toNat).map (·.1))[i]?)) (A:=.inl ()) (B:=.inr ()) (fun i v hv=>by
    have hi:=Qa7 hv
    have hyi:(Qad h)[i]?=some ((Qad h)[i]'(by omega)):=List.getElem?_eq_getElem (by omega)
    have hti:(((Qad h).take (fPar h).toNat).map (·.1))[i]?=some ((Qad h)[i]'(by omega)).1:=by rw [List.getElem?_map,List.getElem?_take,if_pos (by omega),hyi]; rfl
    rw [Qh2,Qal hv,cond_true,Qag hv,Qaa,Qam hv hl,if_neg (show ¬ ((i:Int) = -1) by omega)]
    by_cases hv0:v<0
    ·rw [Qac hv0,QaP (show ¬ 0≤v by omega)]; rfl
    ·rw [Qab hv0,show at' h.2.2.2.1 (i:Int)=_ from Qag hyi,Qaa,Qnx f (by omega) (hr v (List.mem_of_getElem? hv) (by omega)),Qaa,QbE (show 0≤v by omega),hti,Qak]
     simp) (by rw [Qh2,Qar,cond_false])]
   simp only [Bool.not_true,cond_false,Qaa,Bool.true_and]
   cases allI _ _ _<;>rfl
  ·rw [show decide ((l.length:Int)=h.2.1)=false from QaP (show ¬ (l.length:Int)=fPar h by omega),QaP he]
   rfl
theorem QFt (hp:QbS p)(n:Qaf)(hn:QbN n)(t:Int)(ht:isTy p.1 t=true)(h1:¬ t<1)(hc:(nBr n).length=(QdW p.1 t).length)(hr:∀ x∈nBr n,∀ v∈x.1,0≤v→v<((Qad f).length:Int)):
  QcX p f n t 0=some (if allI (fun i x=>match (QdW p.1 t)[i]? with |some c=>tyL f (-1) x.1 c.2 |none=>false) 0 (nBr n)=true then .inr () else .inl ()):=by
 have hbr:=hn.br
 refine Qg6 (L:=fun i=>QcX p f n t i) (l:=nBr n) (fun i y hy=>?_) ?_
 ·have hm:=List.mem_of_getElem? hy
  rw [Qi3,Qal hy,cond_true,Qag hy,Qaa,Qxp p f hp.Qnr t (i:Int) ht (-1) y.1 (by have:=hn.bs y hm; omega) (hr y hm),Qaa,Qam hy (by omega),Qak]
  unfold fieldsOf
  rw [if_neg (show ¬ (t<1∨(i:Int)<0) by omega),Int.toNat_natCast]
  cases (QdW p.1 t)[i]?<;>rfl
 ·rw [Qi3,Qar,cond_false]
theorem QGT (hp:QbS p)(ho:HOk p f)(n:Qaf)(hn:QbN n)(hform:QfF n=true)(hu:∀ v∈uses n,0≤v∧v<((Qad f).length:Int))(hb:∀ v∈binds n,0≤v∧v<((Qad f).length:Int))(hbad:Qic p n=false):
  Qey p f n=some (Qhm p f n):=by
 unfold QfF at hform
 simp only [Bool.and_eq_true,decide_eq_true_eq,Bool.or_eq_true] at hform
 obtain ⟨⟨⟨⟨⟨⟨⟨⟨⟨hop,hargs⟩,_⟩,_⟩,_⟩,_⟩,_⟩,_⟩,_⟩,_⟩:=hform
 unfold Qic at hbad
 rw [Bool.or_eq_false_iff] at hbad
 obtain ⟨hbad,hbad2⟩:=hbad
 have hd:=hp.Qnr
 have hdl:=hd.len
 have ha:=hn.args
 have hm:=hn.more
 have hone:(nOp n=0∨nOp n=4∨nOp n=5∨nOp n=9)→at' (QaG n) 0=some (arg0 n)∧0≤arg0 n∧arg0 n<((Qad f).length:Int):=by
  intro h
  have h1:fArgs (nOp n)=1:=by unfold fArgs; rw [if_pos h]
  rw [h1] at hargs
  have hne:QaG n≠[]:=by intro he; rw [he] at hargs; simp at hargs
  obtain ⟨h2,h3⟩:=QCd n hne
  refine ⟨h2,hu _ ?_⟩
  unfold uses
  rw [if_neg (by omega),if_neg (by omega)]
  exact h3
 have hall:nOp n≠8→nOp n≠1→∀ v∈QaG n,0≤v∧v<((Qad f).length:Int):=fun h8 h1 v hv=>hu v (by unfold uses; rw [if_neg (by omega),if_neg h8]; exact hv)
 have hvar:Qkf (nOp n)=true→0≤nVar n∧nVar n<((Qad f).length:Int):=by
  intro h
  apply hb
  unfold binds
  have h9:nOp n≠9:=by unfold Qkf at h; rw [decide_eq_true_eq] at h; omega
  rw [if_neg h9,if_pos h]
  simp
 have hfun:fFun (nOp n)=true→0≤nFun n∧nFun n<(p.2.length:Int):=by
  intro h
  rw [h] at hbad
  simpa using hbad
 rw [QrV]
 unfold Qhm
 by_cases h0:nOp n=0
 ·obtain ⟨h1,h2,h3⟩:=hone (by omega)
  rw [Qac h0,if_pos h0,show at' n.2.2.1 0=_ from h1,Qaa,Qnx f h2 h3]
  rfl
 rw [Qab h0,if_neg h0]
 by_cases h1:nOp n=1
 ·obtain ⟨h2,h3⟩:=hvar (by rw [h1]; rfl)
  rw [Qac h1,if_pos h1,Qnx f h2 h3]
  rfl
 rw [Qab h1,if_neg h1]
 by_cases h2:nOp n=2
 ·obtain ⟨h3,h4⟩:=hvar (by rw [h2]; rfl)
  have hargs2:=hall (by omega) h1
  have hlen:(QaG n).length=2:=by
   rcases hargs with h |h
   ·rw [h2] at h; exact absurd h (by decide)
   ·rw [h2] at h; have:fArgs 2=2:=rfl; omega
  match hna:QaG n,hlen with
  | [x,y],_=>
   rw [hna] at hargs2
   obtain ⟨hx0,hx1⟩:=hargs2 x (by simp)
   obtain ⟨hy0,hy1⟩:=hargs2 y (by simp)
   rw [Qac h2,if_pos h2,QlE,Qaa,show n.2.2.1=[x,y] from hna,at_0,at_1,Qaa,Qaa,Qnx f hx0 hx1,Qnx f hy0 hy1,Qnx f h3 h4]
   simp only [Qaa,Qai,Qeo]
   rw [QEi]
   have ht:tyL f (-1) [x,y] [0,0]=(decide (kd f x=0)&&decide (kd f y=0)):=by
    unfold tyL
    rw [allI,allI,allI,if_neg (show ¬ (((0:Nat):Int) = -1) by omega),if_neg (show ¬ (((0+1:Nat):Int) = -1) by omega),QbE hx0,QbE hy0]
    simp
   rw [ht,Bool.and_assoc]
 rw [Qab h2,if_neg h2]
 by_cases h3:nOp n=3
 ·obtain ⟨h4,h5⟩:=hvar (by rw [h3]; rfl)
  rw [Qac h3,if_pos h3,Qnx f h4 h5,Qaa,Qxp p f hd _ _ (ho.kd _) (-1) n.2.2.1 (by have:n.2.2.1.length≤1000:=ha; omega) (fun v hv _=>(hall (by omega) h1 v hv).2),Qaa]
  rfl
 rw [Qab h3,if_neg h3]
 by_cases h4:nOp n=4
 ·obtain ⟨h5,h6⟩:=hvar (by rw [h4]; rfl)
  obtain ⟨h7,h8,h9⟩:=hone (by omega)
  rw [Qac h4,if_pos h4,show at' n.2.2.1 0=_ from h7,Qaa,Qnx f h5 h6,Qnx f h8 h9,Qaa,Qaa,Qjc p.1 hd,Qaa,Qai,Qeo]
 rw [Qab h4,if_neg h4]
 by_cases h5:nOp n=5
 ·obtain ⟨h7,h8,h9⟩:=hone (by omega)
  rw [Qac h5,if_pos h5,show at' n.2.2.1 0=_ from h7,Qaa,Qnx f h8 h9,Qaa,Qjc p.1 hd,Qaa]
 rw [Qab h5,if_neg h5]
 by_cases h6:nOp n=6
 ·obtain ⟨h7,h8⟩:=hvar (by rw [h6]; rfl)
  obtain ⟨h9,h10⟩:=hfun (by rw [h6]; rfl)
  obtain ⟨g,hg,hres⟩:=QsS p h9 h10
  rw [Qac h6,if_pos h6,Qxq p f hp _ n.2.2.1 h9 h10 (by have:n.2.2.1.length≤1000:=ha; omega) (fun v hv _=>(hall (by omega) h1 v hv).2),Qaa,Qnx f h7 h8,show at' p.2 n.2.2.2.2.2.1=_ from hg,Qaa,Qaa,Qai,Qeo,← hres]
 rw [Qab h6,if_neg h6]
 by_cases h7:nOp n=7
 ·obtain ⟨h9,h10⟩:=hfun (by rw [h7]; rfl)
  obtain ⟨g,hg,hres⟩:=QsS p h9 h10
  rw [Qac h7,if_pos h7,Qxq p f hp _ n.2.2.1 h9 h10 (by have:n.2.2.1.length≤1000:=ha; omega) (fun v hv _=>(hall (by omega) h1 v hv).2),Qaa,show at' p.2 n.2.2.2.2.2.1=_ from hg,Qaa,Qai,Qeo,← hres]
 rw [Qab h7,if_neg h7]
 by_cases h8:nOp n=8
 ·obtain ⟨h9,h10⟩:=hfun (by rw [h8]; rfl)
  obtain ⟨g,hg,hres⟩:=QsS p h9 h10
  have hv:∀ v∈QaG n++Qfq n,0≤v→v<((Qad f).length:Int):=fun v hv h0=>(hu v (by unfold uses; rw [if_neg (by omega),if_pos h8,List.mem_filter]; exact ⟨hv,by simpa using h0⟩)).2
  have hres1:=Qid.1 ho.res
  rw [Qac h8,if_pos h8,Qxp p f hd _ _ ho.res _ n.2.2.1 (by have:n.2.2.1.length≤1000:=ha; omega) (fun v h=>hv v (by simp; exact Or.inl h)),Qxq p f hp _ n.2.2.2.2.2.2.1 h9 h10 (by have:n.2.2.2.2.2.2.1.length≤1000:=hm; omega) (fun v h=>hv v (by simp; exact Or.inr h)),show at' p.2 n.2.2.2.2.2.1=_ from hg]
  simp only [Qai,Qaa,QaQ,Qaz]
  show (bif decide (nNum n<0)||!decide (nNum n<((QaG n).length:Int))||!(match fieldsOf p (fRes f) (nCon n) with |none=>false |some ts=>tyL f (nNum n) (QaG n) ts) then _ else _)=some (match fieldsOf p (fRes f) (nCon n) with |none=>false |some ts=>decide (0≤nNum n∧nNum n<(ts.length:Int))&&tyL f (nNum n) (QaG n) ts&&Qii p f (nFun n) (Qfq n)&&decide (some (Qxm p (nFun n))=ts[(nNum n).toNat]?))
  cases hfo:fieldsOf p (fRes f) (nCon n) with
  | none=>simp
  | some ts=>
   simp only
   cases hty:tyL f (nNum n) (QaG n) ts with
   | false=>simp
   | true=>
    have hlen:(QaG n).length=ts.length:=by unfold tyL at hty; rw [Bool.and_eq_true,decide_eq_true_eq] at hty; exact hty.1
    by_cases hnum:0≤nNum n∧nNum n<(ts.length:Int)
    ·rw [QbE hnum,show (decide (nNum n<0)||!decide (nNum n<((QaG n).length:Int))||!true)=false by
      rw [QaP (show ¬ nNum n<0 by omega),QbE (show nNum n<((QaG n).length:Int) by omega)]; rfl,cond_false]
     unfold fieldsOf at hfo
     split at hfo
     ·cases hfo
     rename_i hcon
     obtain ⟨x,hx,hc,_⟩:=Qhn (d:=p.1) (t:=fRes f) (by omega) hres1.2
     rw [hc] at hfo
     split at hfo
     ·rename_i cc hcc
      simp only [osi] at hfo
      subst hfo
      obtain ⟨t,ht,ht'⟩:=Qfp hnum.1 hnum.2
      rw [Qhl (show 0≤f.2.2.1 from hres1.1) (by have:=hres1.2; have:f.2.2.1≤(p.1.length:Int):=this; omega),show at' p.1 (f.2.2.1 - 1)=_ from hx]
      simp only [Qaa]
      rw [Qdl (show 0≤n.2.2.2.1 by show 0≤nCon n; omega) hcc]
      simp only [Qaa]
      rw [show at' cc.2 n.2.2.2.2.1=_ from ht,ht',hres]
      simp only [Qaa,osi]
      show (bif Qii p f (nFun n) (Qfq n) then some (decide (g.2.2.1=t)) else some false)=_
      cases Qii p f (nFun n) (Qfq n)<;>rfl
     ·cases hfo
    ·rw [QaP hnum,show (decide (nNum n<0)||!decide (nNum n<((QaG n).length:Int))||!true)=true by
      simp only [Bool.not_true,Bool.or_false,Bool.or_eq_true,Bool.not_eq_true',decide_eq_true_eq,decide_eq_false_iff_not]; omega]
     rfl
 rw [Qab h8,if_neg h8]
 obtain ⟨h9,h10,h11⟩:=hone (by omega)
 rw [show at' n.2.2.1 0=_ from h9,Qaa,Qnx f h10 h11,Qaa,Qjc p.1 hd]
 have hty:=ho.kd (arg0 n)
 have hty':=hty
 rw [Qid] at hty'
 by_cases ht1:kd f (arg0 n)<1
 ·rw [Qac ht1,QbE ht1]; rfl
 ·rw [Qab ht1,QaP ht1,Qhl (by omega) (by omega)]
  obtain ⟨x,hx,hco,_⟩:=Qhn (d:=p.1) (t:=kd f (arg0 n)) ht1 hty'.2
  rw [hx,Qaa]
  by_cases hlen:(nBr n).length=(QdW p.1 (kd f (arg0 n))).length
  ·have h9:nOp n=9:=by omega
   have hbr:∀ x∈nBr n,∀ v∈x.1,0≤v→v<((Qad f).length:Int):=fun x hx v hv _=>(hb v (by unfold binds; rw [if_pos h9,List.mem_flatMap]; exact ⟨x,hx,hv⟩)).2
   rw [QbE hlen,Qac (show ((n.2.2.2.2.2.2.2.2.1.length:Int)=(x.2.length:Int)) by rw [← hco]; exact congrArg _ hlen),QFt p f hp n hn _ hty ht1 hlen hbr]
   simp only [Qaa,Bool.not_false,Bool.true_and]
   show (bif Qfr n then _ else _)=some (!(Qfr n&&flat p.1 (kd f (arg0 n)))&&_)
   cases Qfr n<;>cases flat p.1 (kd f (arg0 n))<;>simp only [cond_true,cond_false,Bool.and_true,Bool.and_false,Bool.true_and,Bool.false_and,Bool.not_true,Bool.not_false]<;>(first |rfl |(cases allI _ 0 _<;>rfl))
  ·rw [QaP hlen,Qab (show ¬ ((n.2.2.2.2.2.2.2.2.1.length:Int)=(x.2.length:Int)) by rw [← hco]; show ¬ (((nBr n).length:Int)=_); omega)]
   simp
theorem QGU (hd:Qbo p.1)(n:Qaf)(hn:QbN n)(hb:∀ v∈binds n,0≤v∧v<((Qad f).length:Int)):Qez p f n=some (Qns p f n):=by
 have hbl:=Qnu n hn
 rw [QrW,Qui n hn,Qaa,QaF (L:=fun i=>QcY p f n (binds n) i) (l:=binds n) (p:=fun v=>rdOf f v==(decide (nOp n=9)&&(!Qfr n&&!flat p.1 (kd f v)))) (A:=.inl ()) (B:=.inr ()) (fun i v hv=>by
  obtain ⟨h0,h1⟩:=hb v (List.mem_of_getElem? hv)
  obtain ⟨x,hx,_,hk,hrd⟩:=Qot f h0 h1
  rw [Qi4,Qal hv,cond_true,Qag hv]
  simp only [Qaa]
  rw [show at' f.2.2.2.1 v=_ from hx,Qnx f h0 h1]
  simp only [Qaa]
  rw [Qjc p.1 hd,Qaa,Qam hv (by omega),hrd]
  show (bif decide (nOp n=9) then bif Qfr n then _ else _ else _)=_
  cases decide (nOp n=9)<;>cases Qfr n<;>cases x.2<;>cases flat p.1 (kd f v)<;>rfl) (by rw [Qi4,Qar,cond_false]),Qaa]
 unfold Qns
 cases (binds n).all _<;>rfl
end
end Go.Proofs.YtkecfadnfnnfaaaGreatDoor.LabB
namespace Go.Proofs.YtkecfadnfnnfaaaGreatDoor.LabB
open Go Go.Ev Go.Sy
theorem Qul:∀ (l:List Int) (bo bo':List Bool),Qkx bo l=.inr bo'→cf bo'+l.length=cf bo
 | [],bo,bo',h=>by cases h; rfl
 | v::l,bo,bo',h=>by
  rw [Qkx] at h
  split at h
  ·rename_i hv
   have:=Qul l _ _ h
   have:=QsQ bo v.toNat hv
   rw [List.length_cons]
   omega
  ·cases h
structure SR (sl:List Int)(sc:List Bool):Prop where
 mem:∀ v,v∈sl↔(0≤v∧sc[v.toNat]?=some true)
structure BR (m:Int)(br bo:List Bool):Prop where
 len:br.length=bo.length
 at_:∀ i:Nat,i<bo.length→bo[i]?=some (decide ((i:Int)<m)||(br[i]?==some true))
theorem BR.get {m:Int}{br bo:List Bool}(h:BR m br bo){v:Int}(h0:0≤v)(h1:v<(bo.length:Int)):∃ y,at' br v=some y∧bo[v.toNat]?=some (decide (v<m)||y):=by
 obtain ⟨y,hy,hy'⟩:=Qfp (l:=br) h0 (by rw [h.len]; exact h1)
 refine ⟨y,hy,?_⟩
 rw [h.at_ v.toNat (by omega),hy',Int.toNat_of_nonneg h0]
 cases y<;>rfl
theorem BR.set {m:Int}{br bo:List Bool}(h:BR m br bo)(i:Nat):BR m (br.set i true) (bo.set i true):=⟨by simp [h.len],fun j hj=>by
 rw [List.length_set] at hj
 rw [List.getElem?_set,List.getElem?_set]
 by_cases hi:i=j
 ·subst hi
  rw [if_pos rfl,if_pos rfl,if_pos hj,if_pos (by rw [h.len]; exact hj)]
  simp
 ·rw [if_neg hi,if_neg hi]
  exact h.at_ j hj⟩
section
variable (p:Qae) (f:GFun)
theorem rin (l:List Int)(hl:l.length≤9223372036854775807)(v:Int):QtW l v=some (decide (v∈l)):=by
 rw [Qw9,QaF (L:=fun i=>QjC l v i) (l:=l) (p:=fun x=>!decide (x=v)) (A:=.inl ()) (B:=.inr ()) (fun i x hx=>by
  rw [Ql0,Qal hx,cond_true,Qag hx,Qaa,Qam hx hl,Qak]
  cases decide (x=v)<;>rfl) (by rw [Ql0,Qar,cond_false]),Qaa]
 have:decide (v∈l)=!l.all fun x=>!decide (x=v):=by
  rw [Bool.eq_iff_iff]
  simp
 rw [this]
 cases l.all _<;>rfl
theorem QFu (re br:List Bool)(sl:List Int)(sc:List Bool)(hs:SR sl sc)(hsl:sl.length≤9223372036854775807)(a e:Int)(n:Qaf)(l:List Int)(hl:l.length≤9223372036854775807):QbY sl re br a e p f n l 0=some (if Qo5 sc l=true then .inl () else .inr ()):=by
 refine QaF (L:=fun i=>QbY sl re br a e p f n l i) (p:=fun (v:Int)=>decide (0≤v∧sc[v.toNat]?=some true)) (fun i v hv=>?_) ?_
 ·rw [Qfx,Qal hv,cond_true,Qag hv,Qaa,rin sl hsl v,Qaa,Qam hv hl,Qak]
  have:decide (v∈sl)=decide (0≤v∧sc[v.toNat]?=some true):=by rw [Bool.eq_iff_iff,decide_eq_true_eq,decide_eq_true_eq]; exact hs.mem v
  rw [this]
 ·rw [Qfx,Qar,cond_false]
theorem QFv (re br:List Bool)(sl:List Int)(a e:Int)(n:Qaf)(l:List Int)(hl:l.length≤9223372036854775807):QbZ sl re br a e p f n l 0=some (if l.all (inR f)=true then .inr () else .inl ()):=by
 refine QaF (L:=fun i=>QbZ sl re br a e p f n l i) (p:=inR f) (fun i v hv=>?_) ?_
 ·rw [Qfy,Qal hv,cond_true,Qag hv,Qaa,Qam hv hl]
  unfold inR
  by_cases h:0≤v∧v<((Qad f).length:Int)
  ·rw [QbE h,if_pos rfl,Qab (show ¬ v<0 by omega),Qac (show v<(f.2.2.2.1.length:Int) from h.2)]
  ·rw [QaP h,if_neg (by simp)]
   by_cases h0:v<0
   ·rw [Qac h0]
   ·rw [Qab h0,Qab (show ¬ v<(f.2.2.2.1.length:Int) by show ¬ v<((Qad f).length:Int); omega)]
 ·rw [Qfy,Qar,cond_false]
theorem QFw (re:List Bool)(sl:List Int)(a e:Int)(n:Qaf)(l:List Int)(hl:l.length≤9223372036854775807)(hr:∀ v∈l,0≤v∧v<((Qad f).length:Int)):
  ∀ (r pre:List Int) (br bo:List Bool),l=pre++r→bo.length=(Qad f).length→BR (fPar f) br bo→∃ z,QaR sl re br a e p f n l (pre.length:Int)=some z∧(match Qkx bo r with | .inl _=>∃ x,z=.inl x | .inr bo'=>∃ br',z=.inr br'∧BR (fPar f) br' bo'):=by
 intro r
 induction r with
 | nil=>
  intro pre br bo h hb hbr
  subst h
  rw [Qfz,Qd5,cond_false]
  exact ⟨_,rfl,_,rfl,hbr⟩
 | cons v r ih=>
  intro pre br bo h hb hbr
  have hv:l[pre.length]?=some v:=by rw [h,List.getElem?_append_right (Nat.le_refl _)]; simp
  obtain ⟨h0,h1⟩:=hr v (List.mem_of_getElem? hv)
  obtain ⟨y,hy,hbo⟩:=hbr.get h0 (by rw [hb]; exact h1)
  rw [Qfz,Qal hv,cond_true,Qag hv,Qaa,Qkx,hbo]
  by_cases hp:v<fPar f
  ·rw [Qac hp,QbE hp,if_neg (by simp)]
   exact ⟨_,rfl,_,rfl⟩
  ·rw [Qab hp,QaP hp,hy,Qaa]
   cases y with
   | true=>rw [if_neg (by simp)]; exact ⟨_,rfl,_,rfl⟩
   | false=>
    rw [if_pos (by simp),cond_false,Qam hv hl]
    have:=ih (pre++[v]) (br.set v.toNat true) (bo.set v.toNat true) (by rw [h]; simp) (by simp [hb]) (hbr.set _)
    simpa using this
theorem QCk (hp:QbS p)(ho:HOk p f)(n:Qaf)(hn:QbN n)(re br bo sc:List Bool)(sl:List Int)(a er:Int)(hb:bo.length=(Qad f).length)(hbr:BR (fPar f) br bo)(hs:SR sl sc)(hc:sc.length=(Qad f).length)(hsl:sl.length≤1000000000):
  ∃ b' e,Qgg re br sl a er p f n=some (b',e)∧(match Qjd p f sc bo n with | .inl e'=>e=e'∧e'≠0 | .inr bo'=>e=0∧BR (fPar f) b' bo'):=by
 have hul:=Qyt n hn
 have hbl:=Qnu n hn
 rw [Qmw,QB1,Qaa]
 unfold Qjd
 cases hform:QfF n with
 | false=>exact ⟨_,_,rfl,rfl,by decide⟩
 | true=>
  rw [cond_true,QGz n hn,Qaa,QFu p f re br sl sc hs (by omega) a er n _ (by omega),Qaa,if_neg tf]
  cases hu:Qo5 sc (uses n) with
  | false=>exact ⟨_,_,rfl,rfl,by decide⟩
  | true=>
   rw [if_pos (show true=true from rfl),Qui n hn]
   simp only [Qaa]
   rw [QFv p f re br sl a er n _ (by omega),Qaa,if_neg tf]
   cases hr:(binds n).all (inR f) with
   | false=>exact ⟨_,_,rfl,rfl,by decide⟩
   | true=>
    rw [if_pos (show true=true from rfl)]
    simp only
    have hop:0≤nOp n∧nOp n<10:=by
     unfold QfF at hform
     simp only [Bool.and_eq_true,decide_eq_true_eq] at hform
     exact hform.1.1.1.1.1.1.1.1.1
    rw [if_neg tf]
    have hr':∀ v∈binds n,0≤v∧v<((Qad f).length:Int):=fun v hv=>by
     have:=List.all_eq_true.1 hr v hv
     unfold inR at this
     simpa using this
    have hu':∀ v∈uses n,0≤v∧v<((Qad f).length:Int):=fun v hv=>by
     have:=List.all_eq_true.1 hu v hv
     rw [decide_eq_true_eq] at this
     have:=Qa7 this.2
     omega
    obtain ⟨z,hz1,hz2⟩:=QFw p f re sl a er n (binds n) (by omega) hr' (binds n) [] br bo rfl hb hbr
    rw [show QaR sl re br a er p f n (binds n) 0=some z from hz1]
    simp only [Qai,Qaa,Qaz,QaQ,Qjy,Qym]
    have hff:(decide (n.1=6)||decide (n.1=7)||decide (n.1=8))=fFun (nOp n):=by
     unfold fFun
     rw [Bool.eq_iff_iff]
     simp only [Bool.or_eq_true,decide_eq_true_eq]
     show (nOp n=6∨nOp n=7)∨nOp n=8↔nOp n=6∨nOp n=7∨nOp n=8
     omega
    rw [hff]
    have hfr:(decide (n.2.2.2.2.2.1<0)||!decide (n.2.2.2.2.2.1<(p.2.length:Int)))=!decide (0≤nFun n∧nFun n<(p.2.length:Int)):=by
     rw [Bool.eq_iff_iff]
     simp only [Bool.or_eq_true,Bool.not_eq_true',decide_eq_true_eq,decide_eq_false_iff_not]
     show nFun n<0∨¬ nFun n<(p.2.length:Int)↔¬ (0≤nFun n∧nFun n<(p.2.length:Int))
     omega
    have hnr:(decide (n.2.2.2.2.1<0)||decide (7<n.2.2.2.2.1))=!decide (0≤nNum n∧nNum n<8):=by
     rw [Bool.eq_iff_iff]
     simp only [Bool.or_eq_true,Bool.not_eq_true',decide_eq_true_eq,decide_eq_false_iff_not]
     show nNum n<0∨7<nNum n↔¬ (0≤nNum n∧nNum n<8)
     omega
    rw [hfr,hnr]
    have tail:Qic p n=false→∃ b' e,(match z with
      | .inl v15=>some (v15,(8:Int))
      | .inr v15=>Option.bind (Qey p f n) fun v16=>bif v16 then Option.bind (Qez p f n) fun v17=>bif v17 then some (v15,0) else some (v15,11) else some (v15,10))=some (b',e)∧(match (match Qkx bo (binds n) with
       | .inl _=>(.inl 8:Int⊕List Bool)
       | .inr bo'=>if Qhm p f n=false then .inl 10 else if Qns p f n=false then .inl 11 else .inr bo') with | .inl e'=>e=e'∧e'≠0 | .inr bo'=>e=0∧BR (fPar f) b' bo'):=by
     intro hbad
     rw [QGT p f hp ho n hn hform hu' hr' hbad,QGU p f hp.Qnr n hn hr']
     cases hm:Qkx bo (binds n) with
     | inl _=>
      rw [hm] at hz2
      obtain ⟨x,rfl⟩:=hz2
      exact ⟨_,_,rfl,rfl,by decide⟩
     | inr bo'=>
      rw [hm] at hz2
      obtain ⟨br',rfl,hbr'⟩:=hz2
      simp only [Qaa]
      cases Qhm p f n with
      | false=>exact ⟨_,_,rfl,rfl,by decide⟩
      | true=>
       cases Qns p f n with
       | false=>exact ⟨_,_,rfl,rfl,by decide⟩
       | true=>exact ⟨_,_,rfl,rfl,hbr'⟩
    have hbn:Qic p n=((fFun (nOp n)&&!decide (0≤nFun n∧nFun n<(p.2.length:Int)))||(decide (nOp n=2)&&!decide (0≤nNum n∧nNum n<8))):=rfl
    revert tail
    rw [hbn]
    show (_→_)→∃ b' e,(bif fFun (nOp n) then bif !decide (0≤nFun n∧nFun n<(p.2.length:Int)) then _ else bif decide (nOp n=2) then _ else _ else bif decide (nOp n=2) then _ else _)=some (b',e)∧_
    cases fFun (nOp n)<;>cases decide (0≤nFun n∧nFun n<(p.2.length:Int))<;>cases decide (nOp n=2)<;>cases decide (0≤nNum n∧nNum n<8)<;>intro tail<;>first |exact ⟨_,_,rfl,rfl,by decide⟩ |exact tail rfl
theorem QFx (sl:List Int)(br:List Bool)(a e:Int)(n:Qaf)(l:List Int)(hl:l.length≤9223372036854775807):∀ (r pre:List Int) (re:List Bool),l=pre++r→re.length=(Qap f).length→Qcm sl re br a e p f n l (pre.length:Int)=some (QmA re r):=by
 intro r
 induction r with
 | nil=>
  intro pre re h hre
  subst h
  rw [Qgc,Qd5,cond_false]
  rfl
 | cons k r ih=>
  intro pre re h hre
  have hk:l[pre.length]?=some k:=by rw [h,List.getElem?_append_right (Nat.le_refl _)]; simp
  rw [Qgc,Qal hk,cond_true,Qag hk,Qaa,QmA,Qam hk hl]
  rcases Qni re k with ⟨h0,h1,y,hy,hy',_⟩ |⟨h1,hy⟩
  ·rw [Qab (show ¬ k<0 by omega),Qac (show k<(f.2.2.2.2.1.length:Int) by show k<((Qap f).length:Int); omega),hy,Qaa,hy']
   cases y with
   | true=>rw [if_neg (by simp)]; rfl
   | false=>
    rw [if_pos ⟨h0,rfl⟩,cond_false]
    have:=ih (pre++[k]) (re.set k.toNat true) (by rw [h]; simp) (by simp [hre])
    simpa using this
  ·rw [if_neg (by rintro ⟨h2,h3⟩; have:=Qa7 h3; omega)]
   by_cases h0:k<0
   ·rw [Qac h0]
   ·rw [Qab h0,Qab (show ¬ k<(f.2.2.2.2.1.length:Int) by show ¬ k<((Qap f).length:Int); omega)]
def QCl (g:List Bool→List Bool→List Bool→Int→Int⊕(List Bool×List Bool))(re bo sc:List Bool)(k:Int):Prop:=
 ∀ (br:List Bool) (sl:List Int) (a er:Int),BR (fPar f) br bo→SR sl sc→sl.length+cf bo≤(Qad f).length→
 ∃ re' br' w e,Qdq re br sl a er p f k=some (re',br',w,e)∧(match g re bo sc k with | .inl e'=>e=e'∧e'≠0 | .inr s=>e=0∧re'=s.1∧BR (fPar f) br' s.2)
theorem SR.add {sl:List Int}{sc:List Bool}(h:SR sl sc)(l:List Int)(hl:∀ v∈l,0≤v∧v<(sc.length:Int)):SR (sl++l) (setS true l sc):=⟨fun v=>by
 rw [List.mem_append,h.mem v,Qie]
 constructor
 ·rintro (⟨h0,h1⟩ |h1)
  ·refine ⟨h0,?_⟩
   split
   ·rfl
   ·exact h1
  ·obtain ⟨h2,h3⟩:=hl v h1
   exact ⟨h2,by rw [if_pos ⟨⟨v,h1,rfl⟩,by omega⟩]⟩
 ·rintro ⟨h0,h1⟩
  split at h1
  ·rename_i h2
   obtain ⟨⟨w,hw,hwv⟩,_⟩:=h2
   have:=(hl w hw).1
   have:w=v:=by omega
   exact Or.inr (this▸hw)
  ·exact Or.inl ⟨h0,h1⟩⟩
theorem Qxr {n:Qaf}{k:Int}{l:List Int}(h:(k,l)∈kb n):l.length≤(binds n).length:=by
 unfold kb at h
 split at h
 ·rename_i h9
  simp only [List.mem_map,Prod.mk.injEq] at h
  obtain ⟨b,hb,_,rfl⟩:=h
  unfold binds
  rw [if_pos h9]
  have:∀ L:List Qcq,b∈L→b.1.length≤(L.flatMap (·.1)).length:=by
   intro L
   induction L with
   | nil=>intro h; simp at h
   | cons x L ih=>
    intro h
    rw [List.flatMap_cons,List.length_append]
    rcases List.mem_cons.1 h with rfl |h
    ·omega
    ·have:=ih h; omega
  exact this _ hb
 ·simp only [List.mem_map,Prod.mk.injEq] at h
  obtain ⟨_,_,_,rfl⟩:=h
  exact Nat.le_refl _
theorem QFy (hp:QbS p)(hf:Qgp f)(n:Qaf)(hn:QbN n)(g:List Bool→List Bool→List Bool→Int→Int⊕(List Bool×List Bool))(D:Nat)(hk:∀ re bo sc k re' bo',g re bo sc k=.inr (re',bo')→Le re re'∧Le bo bo')
  (hd:∀ re bo sc k,Wf f re bo sc→0≤k→k<((Qap f).length:Int)→cf re<D→QCl p f g re bo sc k) (sc0:List Bool) (sl:List Int) (hsl:SR sl sc0):
  ∀ (r pre:List (Int×List Int)) (re br bo:List Bool) (a:Int),kb n=pre++r→Wf f re bo sc0→BR (fPar f) br bo→cf re<D→(∀ x∈r,0≤x.1∧x.1<((Qap f).length:Int))→(∀ v∈binds n,0≤v∧v<((Qad f).length:Int))→(∀ v∈binds n,bo[v.toNat]?=some true∧sc0[v.toNat]?≠some true)→sl.length+(binds n).length+cf bo≤(Qad f).length→
  ∃ z,Qcn sl re br a 0 p f n (kids n) (pre.length:Int)=some z∧
    (match QjP g r re bo sc0 with | .inl e=>∃ x,z=.inl x∧x.2.2.2=e∧e≠0 | .inr s=>∃ br' w,z=.inr (s.1,br',w,0)∧BR (fPar f) br' s.2):=by
 have hkl:=Qeq n hn
 have hvl:(Qad f).length≤1000000:=hf.vars
 intro r
 induction r with
 | nil=>
  intro pre re br bo a h hw hbr hc hr hb hs hlen
  rw [QdD,Qab (by rw [QaU,h]; simp)]
  exact ⟨_,rfl,_,_,rfl,hbr⟩
 | cons x r ih=>
  obtain ⟨k,l⟩:=x
  intro pre re br bo a h hw hbr hc hr hb hs hlen
  have hlen2:(kids n).length=pre.length+(r.length+1):=by rw [QaU,h]; simp
  have hmem:(k,l)∈kb n:=by rw [h]; simp
  have hle:=Qxr hmem
  have hat:(kids n)[pre.length]?=some k:=by
   rw [QaU,h,List.map_append,List.getElem?_append_right (by simp)]
   simp
  have hsub:=QjQ hmem
  have hrl:∀ v∈l,0≤v∧v<(sc0.length:Int):=fun v hv=>by rw [hw.hsc]; exact hb v (hsub v hv)
  rw [QdD,Qal hat,cond_true,Qac (by omega),Qag hat]
  have hjoin:(bif decide (n.1=(9:Int)) then Option.bind (Sy.at' n.2.2.2.2.2.2.2.2.1 (pre.length:Int)) fun v10=>bif (decide (((sl.length+v10.1.length) * (8:Nat))≤(35184372088832:Nat))) then some (sl++v10.1) else none
    else Option.bind (Qex n) fun v10=>bif (decide (((sl.length+v10.length) * (8:Nat))≤(35184372088832:Nat))) then some (sl++v10) else none)=some (sl++l):=by
   by_cases h9:nOp n=9
   ·rw [Qac h9,QqS]
    have hkb:kb n=(nBr n).map (fun b=>(b.2,b.1)):=by unfold kb; rw [if_pos h9]
    have:(kb n)[pre.length]?=some (k,l):=by rw [h,List.getElem?_append_right (Nat.le_refl _)]; simp
    rw [hkb,List.getElem?_map] at this
    cases hb:(nBr n)[pre.length]? with
    | none=>rw [hb] at this; simp at this
    | some b=>
     rw [hb] at this
     simp only [Option.map_some,osi,Prod.mk.injEq] at this
     rw [Qaa,this.2,Qac (by omega)]
   ·rw [Qab h9,Qui n hn,Qaa]
    have hkb:kb n=(kids n).map (fun k=>(k,binds n)):=by unfold kb; rw [if_neg h9]
    rw [hkb] at hmem
    simp only [List.mem_map,Prod.mk.injEq] at hmem
    obtain ⟨_,_,_,hm⟩:=hmem
    rw [hm,Qac (by omega)]
  rw [hjoin,Qaa,Qaa]
  have hw1:Wf f re bo (setS true l sc0):=⟨hw.hre,hw.hbo,by rw [Qbv,hw.hsc],fun i hi=>by
   rw [Qie] at hi
   split at hi
   ·rename_i h1
    obtain ⟨⟨v,hv,rfl⟩,_⟩:=h1
    exact (hs v (hsub v hv)).1
   ·exact hw.sub i hi⟩
  obtain ⟨h0,h1⟩:=hr (k,l) (by simp)
  obtain ⟨re',br',w,e,hd1,hd2⟩:=hd re bo (setS true l sc0) k hw1 h0 h1 hc br (sl++l) a 0 hbr (hsl.add l hrl) (by rw [List.length_append]; omega)
  rw [hd1,Qaa]
  simp only
  rw [QjP]
  cases hg:g re bo (setS true l sc0) k with
  | inl e'=>
   rw [hg] at hd2
   obtain ⟨rfl,hne⟩:=hd2
   rw [Qab hne]
   exact ⟨_,rfl,_,rfl,rfl,hne⟩
  | inr s=>
   obtain ⟨re2,bo2⟩:=s
   rw [hg] at hd2
   obtain ⟨rfl,rfl,hbr2⟩:=hd2
   obtain ⟨k1,k2⟩:=hk _ _ _ _ _ _ hg
   dsimp only
   have e1:Ev.wr .i64 ((pre.length:Int)+1)=((pre++[(k,l)]).length:Int):=by
    rw [Sy.QaZ (by omega)]
    simp
   rw [Qac rfl,e1]
   exact ih (pre++[(k,l)]) re' br' bo2 w (by rw [h]; simp) ⟨by rw [← k1.1,hw.hre],by rw [← k2.1,hw.hbo],hw.hsc,fun i hi=>k2.2 i (hw.sub i hi)⟩ hbr2 (by have:=k1.cf; omega) (fun x hx=>hr x (by simp [hx])) hb (fun v hv=>⟨k2.2 _ (hs v hv).1,(hs v hv).2⟩) (by have:=k2.cf; omega)
theorem Qyw (hp:QbS p)(hf:Qgp f)(ho:HOk p f):∀ (d:Nat) (re bo sc:List Bool) (k:Int),Wf f re bo sc→0≤k→k<((Qap f).length:Int)→cf re<d→QCl p f (walk p f d) re bo sc k
 | 0,re,bo,sc,k,hw,h0,h1,hc=>absurd hc (Nat.not_lt_zero _)
 | d+1,re,bo,sc,k,hw,h0,h1,hc=>by
  intro br sl a er hbr hsl hlen
  have hvl:(Qad f).length≤1000000:=hf.vars
  obtain ⟨n,hn1,hn2⟩:=Qfp (l:=Qap f) h0 h1
  have hn:QbN n:=hf.nodes n (List.mem_of_getElem? hn2)
  have hkl:=Qeq n hn
  rw [Qnm,show at' f.2.2.2.2.1 k=some n from hn1,Qaa,walk,hn2]
  simp only
  obtain ⟨b',e,ha1,ha2⟩:=QCk p f hp ho n hn re br bo sc sl k er hw.hbo hbr hsl hw.hsc (by omega)
  rw [ha1,Qaa]
  simp only
  cases has:Qjd p f sc bo n with
  | inl e'=>
   rw [has] at ha2
   obtain ⟨rfl,hne⟩:=ha2
   rw [Qab hne]
   exact ⟨_,_,_,_,rfl,rfl,hne⟩
  | inr bo'=>
   rw [has] at ha2
   obtain ⟨rfl,hbr'⟩:=ha2
   rw [Qac rfl,QsO n hn,Qaa,show Qcm sl re b' k 0 p f n (kids n) 0=_ from QFx p f sl b' k 0 n (kids n) (by omega) (kids n) [] re rfl hw.hre,Qaa]
   simp only
   cases hm:QmA re (kids n) with
   | inl re2=>exact ⟨_,_,_,_,rfl,rfl,by decide⟩
   | inr re2=>
    obtain ⟨_,_,hbr2,_,hmr,_,_⟩:=Qnw has
    obtain ⟨m1,m2⟩:=Qnv _ _ _ hmr
    have m6:=Qul _ _ _ hmr
    obtain ⟨m3,m4,m5⟩:=QlK _ _ _ hm
    by_cases hkn:kb n=[]
    ·have hkids:kids n=[]:=by rw [QaU,hkn]; rfl
     simp only
     rw [hkids,QdD,Qab (by simp),Qaa,hkn,QjP]
     exact ⟨_,_,_,_,rfl,rfl,rfl,hbr'⟩
    ·have hlen3:0<(kids n).length:=by rw [QaU,List.length_map]; exact List.length_pos_iff.2 hkn
     obtain ⟨z,hz1,hz2⟩:=QFy p f hp hf n hn (walk p f d) d (Qho p f d) (fun re bo sc k hw h0 h1 hc=>Qyw hp hf ho d re bo sc k hw h0 h1 hc) sc sl hsl (kb n) [] re2 b' bo' k rfl
      ⟨by rw [← m3.1,hw.hre],by rw [← m1.1,hw.hbo],hw.hsc,fun i hi=>m1.2 i (hw.sub i hi)⟩ hbr' (by omega)
      (fun x hx=>by
       have hk:x.1∈kids n:=by rw [QaU]; exact List.mem_map.2 ⟨x,hx,rfl⟩
       obtain ⟨q1,q2,_⟩:=m5 x.1 hk
       have:=Qa7 q2
       rw [hw.hre] at this
       omega) hbr2 (fun v hv=>⟨(m2 v hv).2,fun h=>by
       have:=hw.sub v.toNat h
       rw [(m2 v hv).1] at this
       cases this⟩) (by omega)
     simp only
     rw [show Qcn sl re2 b' k 0 p f n (kids n) 0=some z from hz1,Qaa]
     cases hwl:QjP (walk p f d) (kb n) re2 bo' sc with
     | inl e=>
      rw [hwl] at hz2
      obtain ⟨⟨x1,x2,x3,x4⟩,rfl,rfl,hne⟩:=hz2
      exact ⟨_,_,_,_,rfl,rfl,hne⟩
     | inr s=>
      rw [hwl] at hz2
      obtain ⟨br2,w,rfl,hbr3⟩:=hz2
      exact ⟨_,_,_,_,rfl,rfl,rfl,hbr3⟩
theorem QGV (re br:List Bool)(a e:Int)(m:Nat)(hm:fPar f=(m:Int))(hl:m≤1000000):∀ (j i:Nat) (s:List Int),i+j=m→s=(List.range i).map (fun k:Nat=>(k:Int))→Qcv re br s p f a e (i:Int)=some ((List.range m).map (fun k:Nat=>(k:Int)))
 | 0,i,s,h,hs=>by
  have:i=m:=by omega
  subst this
  rw [Qgk,Qab (show ¬ (i:Int)<fPar f by omega),hs]
 | j+1,i,s,h,hs=>by
  have hsl:s.length=i:=by rw [hs]; simp
  rw [Qgk,Qac (show (i:Int)<fPar f by omega),Qac (by omega),Sy.QaZ (by omega)]
  exact QGV re br a e m hm hl j (i+1) _ (by omega) (by rw [hs,List.range_succ,List.map_append]; rfl)
theorem QDS (hp:QbS p)(k:Nat)(f:GFun)(hk:p.2[k]?=some f):∃ w,Qil p (k:Int)=some (w,chkF p k f):=by
 have hkl:=Qa7 hk
 have hpl:=hp.funs
 have hf:=hp.all f (List.mem_of_getElem? hk)
 have hvl:(Qad f).length≤1000000:=hf.vars
 have hcl:(Qap f).length≤1000000:=hf.code
 rw [Qoi,Qab (by omega),Qaa,Qal hk,Bool.not_true,cond_false,QCj p f hp k hk hf,Qaa]
 unfold chkF
 by_cases hh:hdr p k f=0
 ·rw [Qac hh,if_neg (by simpa using hh),Qag hk,Qaa]
  obtain ⟨ho,hbody,_⟩:=Qyu hh
  cases he:fExt f with
  | true=>rw [show f.2.2.2.2.2.2=true from he]; exact ⟨_,rfl⟩
  | false=>
   obtain ⟨hb0,hb1⟩:=hbody he
   obtain ⟨hp0,hp1⟩:=ho.par
   have hbn:(Qa0 f).toNat<(Qap f).length:=by omega
   have hparN:((fPar f).toNat:Int)=fPar f:=Int.toNat_of_nonneg hp0
   have hpn:(fPar f).toNat≤(Qad f).length:=by omega
   rw [show f.2.2.2.2.2.2=false from he,cond_false,Qab (show ¬ ((Qap f).length:Int)<0 by omega),Int.toNat_natCast,Qac (show (Qap f).length * 1≤140737488355328 by omega),Qab (show ¬ ((Qad f).length:Int)<0 by omega),Int.toNat_natCast,Qac (show (Qad f).length * 1≤140737488355328 by omega)]
   rw [show Qcv (List.replicate (Qap f).length false) (List.replicate (Qad f).length false) [] p f 0 0 0=_ from QGV p f _ _ 0 0 (fPar f).toNat hparN.symm (by omega) (fPar f).toNat 0 [] (by omega) rfl,Qaa]
   rw [show at' (List.replicate (Qap f).length false) f.2.2.2.2.2.1=some false from Qdl hb0 (by rw [List.getElem?_replicate,if_pos hbn]),Qaa]
   have hcfp:cf (parS (Qad f).length (fPar f).toNat)=(Qad f).length - (fPar f).toNat:=by
    unfold parS
    have e1:∀ (a:Nat) (l:List Bool),cf (List.replicate a true++l)=cf l:=by
     intro a l
     induction a with
     | zero=>rfl
     | succ a ih=>rw [List.replicate_succ,List.cons_append]; exact ih
    have e2:∀ a:Nat,cf (List.replicate a false)=a:=by
     intro a
     induction a with
     | zero=>rfl
     | succ a ih=>rw [List.replicate_succ]; show cf _+1=_; rw [ih]
    rw [e1,e2]
   obtain ⟨re',br',w,e,hn1,hn2⟩:=Qyw p f hp hf ho ((Qap f).length+1) ((List.replicate (Qap f).length false).set (Qa0 f).toNat true) (parS (Qad f).length (fPar f).toNat) (parS (Qad f).length (fPar f).toNat) (Qa0 f) ⟨by simp,Qdg _ _ hpn,Qdg _ _ hpn,fun i h=>h⟩ hb0 hb1 (Nat.lt_succ_of_lt (cf0 _ _ hbn))
    (List.replicate (Qad f).length false) ((List.range (fPar f).toNat).map (fun k:Nat=>(k:Int))) 0 0
    ⟨by rw [Qdg _ _ hpn]; simp,fun i hi=>by
     rw [Qdg _ _ hpn] at hi
     rw [Qou _ _ i hpn hi,List.getElem?_replicate,if_pos hi]
     congr 1
     rw [Bool.eq_iff_iff]
     simp⟩
    ⟨fun v=>by
     constructor
     ·intro h
      simp only [List.mem_map,List.mem_range] at h
      obtain ⟨j,hj,rfl⟩:=h
      exact ⟨by omega,by rw [Int.toNat_natCast,Qou _ _ j hpn (by omega),decide_eq_true hj]⟩
     ·rintro ⟨h0,h1⟩
      have hlt:=Qa7 h1
      rw [Qdg _ _ hpn] at hlt
      rw [Qou _ _ _ hpn hlt] at h1
      simp only [osi,decide_eq_true_eq] at h1
      simp only [List.mem_map,List.mem_range]
      exact ⟨v.toNat,h1,by omega⟩⟩
    (by rw [hcfp]; simp; omega)
   rw [show Qdq ((List.replicate (Qap f).length false).set f.2.2.2.2.2.1.toNat true) (List.replicate (Qad f).length false) ((List.range (fPar f).toNat).map (fun k:Nat=>(k:Int))) 0 0 p f f.2.2.2.2.2.1=_ from hn1,Qaa]
   simp only
   rw [if_neg ft]
   cases hw:walk p f ((Qap f).length+1) ((List.replicate (Qap f).length false).set (Qa0 f).toNat true) (parS (Qad f).length (fPar f).toNat) (parS (Qad f).length (fPar f).toNat) (Qa0 f) with
   | inl e'=>
    rw [hw] at hn2
    obtain ⟨rfl,hne⟩:=hn2
    rw [Qab hne]
    exact ⟨_,rfl⟩
   | inr s=>
    rw [hw] at hn2
    obtain ⟨re2,bo2⟩:=s
    obtain ⟨rfl,rfl,hbr⟩:=hn2
    obtain ⟨k1,k2⟩:=Qho p f _ _ _ _ _ _ _ hw
    have hrl:re'.length=(Qap f).length:=by rw [← k1.1]; simp
    have hbl:bo2.length=(Qad f).length:=by rw [← k2.1,Qdg _ _ hpn]
    have hbrl:br'.length=(Qad f).length:=hbr.len.trans hbl
    show ∃ w',_=some (w',if re'.all id=false then (3:Int) else if bo2.all id=false then 3 else 0)
    rw [Qac rfl,Qdk (L:=fun i=>QdM re' br' f w 0 i) (l:=re') (p:=fun b=>!b) (A:=fun j=>.inl (j:Int)) (B:=.inr ()) (fun i b hb=>by
     have:=Qa7 hb
     rw [Qgl,Qac (show (i:Int)<((Qap f).length:Int) by omega),Qag hb,Qaa,Qam hb (by omega)]
     cases b<;>rfl) (by rw [Qgl,Qab (show ¬ (re'.length:Int)<((Qap f).length:Int) by omega)]),Qaa]
    have hall:re'.all id=!(re'.any fun b=>!b):=by rw [← List.not_all_eq_any_not,Bool.not_not]; rfl
    rw [hall,← Qcg _ re' 0]
    cases QiM (fun b=>!b) 0 re' with
    | some j=>exact ⟨_,rfl⟩
    | none=>
     have h4:=Qmn (L:=fun i=>Qcy re' br' f w 0 i) (l:=br') (p:=id) (A:=.inl ()) (B:=.inr ()) (fun i b hb=>by
      have:=Qa7 hb
      rw [Qgm,Qac (show (i:Int)<((Qad f).length:Int) by omega),Qag hb,Qaa,Qam hb (by omega),Qak]
      rfl) (by rw [Qgm,Qab (show ¬ (br'.length:Int)<((Qad f).length:Int) by omega)]) ((Qad f).length - (fPar f).toNat) (fPar f).toNat (by omega)
     rw [hparN] at h4
     have hb2:(br'.drop (fPar f).toNat).all id=bo2.all id:=by
      rw [Bool.eq_iff_iff,List.all_eq_true,List.all_eq_true]
      constructor
      ·intro h x hx
       obtain ⟨i,hi⟩:=List.getElem?_of_mem hx
       have hil:=Qa7 hi
       have:=hbr.at_ i hil
       rw [hi] at this
       simp only [osi] at this
       by_cases hip:(i:Int)<fPar f
       ·rw [this,decide_eq_true hip]; rfl
       ·have hbi:br'[i]?=some (br'[i]'(by rw [hbr.len]; exact hil)):=List.getElem?_eq_getElem _
        have hm:br'[i]'(by rw [hbr.len]; exact hil)∈br'.drop (fPar f).toNat:=by
         apply List.mem_of_getElem? (i:=i - (fPar f).toNat)
         rw [List.getElem?_drop,show (fPar f).toNat+(i - (fPar f).toNat)=i by omega,hbi]
        have h3:br'[i]'(by rw [hbr.len]; exact hil)=true:=h _ hm
        rw [this,hbi,h3,decide_eq_false hip]
        rfl
      ·intro h x hx
       obtain ⟨i,hi⟩:=List.getElem?_of_mem hx
       rw [List.getElem?_drop] at hi
       have hil:=Qa7 hi
       rw [hbr.len] at hil
       have h1:=hbr.at_ _ hil
       rw [hi,decide_eq_false (by omega),Bool.false_or] at h1
       have:=h _ (List.mem_of_getElem? h1)
       simpa using this
     simp only [Option.isSome_none,Bool.not_false]
     rw [show Qcy re' br' f w 0 f.2.1=_ from h4,Qaa,hb2]
     cases bo2.all id with
     | false=>exact ⟨_,rfl⟩
     | true=>exact ⟨_,rfl⟩
 ·rw [Qab hh,if_pos hh]
  exact ⟨_,rfl⟩
theorem QCm (hp:QbS p):Qjz p=some (chk p):=by
 have hpl:=hp.funs
 rw [QrO,QzF p.1 hp.Qnr,Qaa]
 unfold chk
 by_cases hd:chkD p.1=0
 ·rw [Qac hd,if_neg (by simpa using hd)]
  by_cases h6:128<(p.2.length:Int)
  ·rw [Qac h6,if_pos h6]
  ·rw [Qab h6,if_neg h6]
   have key:∀ (r pre:List GFun),p.2=pre++r→Qd6 p (pre.length:Int)=some (if chkL p pre.length r=0 then .inl () else .inr (chkL p pre.length r)):=by
    intro r
    induction r with
    | nil=>
     intro pre h
     rw [QiQ,Qab (by rw [h]; simp)]
     rfl
    | cons f r ih=>
     intro pre h
     have hk:p.2[pre.length]?=some f:=by rw [h,List.getElem?_append_right (Nat.le_refl _)]; simp
     obtain ⟨w,hw⟩:=QDS p hp pre.length f hk
     rw [QiQ,Qal hk,cond_true,hw,Qaa]
     simp only
     rw [chkL]
     by_cases he:chkF p pre.length f=0
     ·rw [Qac he,if_pos he,Qam hk (by omega)]
      have:=ih (pre++[f]) (by rw [h]; simp)
      simpa using this
     ·rw [Qab he,if_neg he,if_neg he]
   rw [show Qd6 p 0=_ from key p.2 [] rfl,Qaa]
   simp only [List.length_nil]
   by_cases he:chkL p 0 p.2=0
   ·rw [if_pos he,he]
   ·rw [if_neg he]
 ·rw [Qab hd,if_pos hd]
end
end Go.Proofs.YtkecfadnfnnfaaaGreatDoor.LabB
