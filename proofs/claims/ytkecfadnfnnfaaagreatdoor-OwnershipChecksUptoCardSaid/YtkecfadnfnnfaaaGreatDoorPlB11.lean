/- Of the models: the check of the reference. -/
import Derived.Test.YtkecfadnfnnfaaaGreatDoorPlB9
set_option linter.unusedVariables false
set_option linter.unusedSimpArgs false
namespace Go.Proofs.YtkecfadnfnnfaaaGreatDoor.LabB
open Go Go.Ev Go.Sy
section
variable (p:Qad) (f:GFun)
theorem QDh (hp:Qbv p)(k:Nat)(hk:p.2[k]?=some f)(hf:Qja f):Ql1 p (k:Int)=some (hdr p k f):=by
 have hn:=hf.name
 have hv:(Qae f).length≤1000000:=hf.vars
 have hpl:=hp.funs
 have hkl:=QaU hk
 have h0:Qd2 p f (k:Int) 0=some (if (p.2.take k).any (fun g=>decide (g.1=f.1))=true then .inl () else .inr ()):=by
  have htl:(p.2.take k).length=k:=by rw [List.length_take]; omega
  have hl:((p.2.take k).length:Int)=(k:Int):=by rw [htl]
  rw [Qap (L:=fun i=>Qd2 p f (k:Int) i) (l:=p.2.take k) (p:=fun g=>!decide (g.1=f.1)) (A:=.inl ()) (B:=.inr ()) (fun i g hg=>by
   have hi:=QaU hg
   have hg':p.2[i]?=some g:=by rw [List.getElem?_take] at hg; split at hg; exact hg; cases hg
   rw [QiV,Qac (by omega),Qai hg',Qaa,Qal hg' (by omega),Qan]
   cases decide (g.1=f.1)<;>rfl) (by rw [QiV,Qab (by omega)]),← List.not_any_eq_all_not]
  cases List.any _ _<;>rfl
 have h2:QbV p f 0=some (if ((Qae f).all fun v=>isTy p.1 v.1)=true then .inr () else .inl ()):=by
  refine Qap (L:=fun i=>QbV p f i) (p:=fun (v:GVar)=>isTy p.1 v.1) (fun i v hvv=>?_) ?_
  ·rw [Qi1,Qak hvv,cond_true,Qai hvv,Qaa,Qp5,Qaa,Qal hvv (by omega),Qan]
  ·rw [Qi1,Qao,cond_false]
 have h4:Qbq p f 0=some (if ((Qae f).all fun v=>!(v.2&&flat p.1 v.1))=true then .inl () else .inr ()):=by
  refine Qap (L:=fun i=>Qbq p f i) (p:=fun (v:GVar)=>!(v.2&&flat p.1 v.1)) (fun i v hvv=>?_) ?_
  ·rw [Qi5,Qak hvv,cond_true,Qai hvv,Qaa,Qkf p.1 hp.Qou,Qaa,Qal hvv (by omega)]
   cases v.2<;>cases flat p.1 v.1<;>rfl
  ·rw [Qi5,Qao,cond_false]
 rw [Qr5,Qai hk,Qaa,QAw _ hn,Qaa,h0,Qp5,h2,h4]
 simp only [Qah,Qaa,QaB,QaQ,QkB,Qoj]
 unfold hdr
 cases hnm:QwD f.1 with
 | false=>rfl
 | true=>
  cases ht:(p.2.take k).any (fun g=>decide (g.1=f.1)) with
  | true=>rfl
  | false=>
   rw [if_neg tf,if_neg ft]
   by_cases h6:6<fPar f∨512<((Qae f).length:Int)∨4096<((Qaw f).length:Int)
   ·rw [if_pos h6,cond_true]
    dsimp only
    rw [Qoh (by simp only [Bool.or_eq_true,decide_eq_true_eq]; show (6<fPar f∨512<((Qae f).length:Int))∨4096<((Qaw f).length:Int); omega)]
    rfl
   ·rw [if_neg h6,cond_true]
    dsimp only
    rw [QdQ (by simp only [Bool.or_eq_false_iff,decide_eq_false_iff_not]; show (¬ 6<fPar f∧¬ 512<((Qae f).length:Int))∧¬ 4096<((Qaw f).length:Int); omega)]
    by_cases h3:fPar f<0∨((Qae f).length:Int)<fPar f
    ·rw [if_pos h3,Qoh (by simp only [Bool.or_eq_true,decide_eq_true_eq]; exact h3)]
     rfl
    ·rw [if_neg h3,QdQ (by simp only [Bool.or_eq_false_iff,decide_eq_false_iff_not]; show ¬ fPar f<0∧¬ ((Qae f).length:Int)<fPar f; omega)]
     cases he:fExt f with
     | true=>
      rw [show f.2.2.2.2.2.2=true from he]
      simp only [cond_true,cond_false,Qaa,QaB]
      by_cases hl:((Qae f).length:Int)=fPar f
      ·rw [Qac hl]
       by_cases hc:0<((Qaw f).length:Int)
       ·rw [show decide (0<(f.2.2.2.2.1.length:Int))=true from QbC hc,if_pos (Or.inl ⟨trivial,Or.inr (Or.inl hc)⟩)]
        rfl
       ·rw [show decide (0<(f.2.2.2.2.1.length:Int))=false from QaD hc]
        by_cases hb:QbU f=0
        ·rw [show decide (f.2.2.2.2.2.1=0)=true from QbC hb,if_neg (show ¬ ((True∧(fPar f<((Qae f).length:Int)∨0<((Qaw f).length:Int)∨QbU f≠0))∨(true=false∧(QbU f<0∨((Qaw f).length:Int)≤QbU f))) by
          rintro (⟨_,h |h |h⟩ |⟨h,_⟩)
          ·omega
          ·omega
          ·exact h hb
          ·cases h)]
         simp only [Bool.not_true,Bool.or_false,cond_false]
         cases isTy p.1 f.2.2.1<;>cases ((Qae f).all fun v=>isTy p.1 v.1)<;>cases ((Qae f).all fun v=>!(v.2&&flat p.1 v.1))<;>rfl
        ·rw [show decide (f.2.2.2.2.2.1=0)=false from QaD hb,if_pos (Or.inl ⟨trivial,Or.inr (Or.inr hb)⟩)]
         rfl
      ·rw [Qab hl,if_pos (Or.inl ⟨trivial,Or.inl (by omega)⟩)]
       rfl
     | false=>
      rw [show f.2.2.2.2.2.2=false from he]
      simp only [cond_true,cond_false,Qaa,QaB]
      by_cases hb:QbU f<0∨((Qaw f).length:Int)≤QbU f
      ·rw [show (decide (f.2.2.2.2.2.1<0)||!decide (f.2.2.2.2.2.1<(f.2.2.2.2.1.length:Int)))=true by
        rw [Bool.or_eq_true,Bool.not_eq_true',decide_eq_true_eq,decide_eq_false_iff_not]; show QbU f<0∨¬ QbU f<((Qaw f).length:Int); omega,if_pos (Or.inr ⟨trivial,hb⟩)]
       rfl
      ·rw [show (decide (f.2.2.2.2.2.1<0)||!decide (f.2.2.2.2.2.1<(f.2.2.2.2.1.length:Int)))=false by
        rw [Bool.or_eq_false_iff,Bool.not_eq_false',decide_eq_true_eq,decide_eq_false_iff_not]; show ¬ QbU f<0∧QbU f<((Qaw f).length:Int); omega,if_neg (show ¬ ((false=true∧(fPar f<((Qae f).length:Int)∨0<((Qaw f).length:Int)∨QbU f≠0))∨(True∧(QbU f<0∨((Qaw f).length:Int)≤QbU f))) by
            rintro (⟨h,_⟩ |⟨_,h⟩)
            ·cases h
            ·exact hb h)]
       simp only [cond_false]
       cases isTy p.1 f.2.2.1<;>cases ((Qae f).all fun v=>isTy p.1 v.1)<;>cases ((Qae f).all fun v=>!(v.2&&flat p.1 v.1))<;>rfl
theorem QoB {v:Int}(h0:0≤v)(h1:v<((Qae f).length:Int)):Qbx f v=some (kd f v):=by
 obtain ⟨x,hx,_,hk,_⟩:=Qio f h0 h1
 rw [Qvb,show at' f.2.2.2.1 v=_ from hx,Qaa,hk]
theorem Qyk (hd:QbN p.1)(t con:Int)(ht:isTy p.1 t=true)(hole:Int)(l:List Int)(hl:l.length≤9223372036854775807)(hr:∀ v∈l,0≤v→v<((Qae f).length:Int)):Qg8 p f t con l hole=some (match fieldsOf p t con with |none=>false |some ts=>tyL f hole l ts):=by
 rw [Qjc] at ht
 have hdl:=hd.len
 rw [Qsg]
 simp only [Qah,Qaa,QaB,QaQ]
 unfold fieldsOf
 by_cases h1:t<1∨con<0
 ·rw [if_pos h1,Qoh (show (decide (t<1)||decide (con<0))=true by simp only [Bool.or_eq_true,decide_eq_true_eq]; exact h1)]; rfl
 ·obtain ⟨x,hx,hc,hm⟩:=Qip (d:=p.1) (t:=t) (by omega) (by omega)
  rw [if_neg h1,QdQ (show (decide (t<1)||decide (con<0))=false by simp only [Bool.or_eq_false_iff,decide_eq_false_iff_not]; omega),Qim (by omega) (by omega),hx,hc]
  simp only [Qaa]
  rcases Qok x.2 con with ⟨h0,h2,y,hy,hy',_⟩ |⟨h2,hy⟩
  ·rw [QbC h2,hy,hy']
   simp only [Qaa,Bool.not_true,cond_false]
   unfold tyL
   by_cases he:l.length=y.2.length
   ·rw [show decide ((l.length:Int)=(y.2.length:Int))=true from QbC (by omega),QbC he]
    rw [Qcs (L:=fun i=>Qeb p f t con l hole i) (l:=l) (p:=fun i v=>if (i:Int)=hole then decide (v = -1) else decide (0≤v)&&decide (some (kd f v)=y.2[i]?)) (A:=.inl ()) (B:=.inr ()) (fun i v hv=>by
     have hi:=QaU hv
     have hyi:y.2[i]?=some (y.2[i]'(by omega)):=List.getElem?_eq_getElem (by omega)
     rw [Qi7,Qak hv,cond_true,Qai hv,Qal hv hl]
     simp only [Qaa]
     by_cases hh:(i:Int)=hole
     ·rw [Qac hh,if_pos hh,Qan]
     ·rw [Qab hh,if_neg hh]
      by_cases hv0:v<0
      ·rw [Qac hv0,QaD (show ¬ 0≤v by omega)]; rfl
      ·rw [Qab hv0,Qim (by omega) (by omega),hx,Qaa,hy,Qaa,Qai hyi,Qaa,QoB f (by omega) (hr v (List.mem_of_getElem? hv) (by omega)),Qaa,QbC (show 0≤v by omega),hyi,Qan]
       simp) (by rw [Qi7,Qao,cond_false])]
    simp only [Bool.not_true,cond_false,Qaa,Bool.true_and]
    cases allI _ _ _<;>rfl
   ·rw [show decide ((l.length:Int)=(y.2.length:Int))=false from QaD (by omega),QaD he]
    rfl
  ·rw [QaD (show ¬ con<(x.2.length:Int) by omega),List.getElem?_eq_none (by omega)]; rfl
theorem Qyl (hp:Qbv p)(g:Int)(l:List Int)(h0:0≤g)(h1:g<(p.2.length:Int))(hl:l.length≤9223372036854775807)(hr:∀ v∈l,0≤v→v<((Qae f).length:Int)):Qg7 p f g l=some (Qji p f g l):=by
 obtain ⟨h,hh,hh'⟩:=QgJ h0 h1
 rw [Qsf,hh,Qaa]
 simp only [Qah,Qaa,QaB,QaQ]
 unfold Qji QkQ
 rw [hh']
 simp only
 by_cases hc:fPar h<0∨((Qae h).length:Int)<fPar h
 ·rw [if_pos hc,show (decide (h.2.1<0)||decide ((h.2.2.2.1.length:Int)<h.2.1))=true by simp only [Bool.or_eq_true,decide_eq_true_eq]; exact hc]
  rfl
 ·rw [if_neg hc,show (decide (h.2.1<0)||decide ((h.2.2.2.1.length:Int)<h.2.1))=false by simp only [Bool.or_eq_false_iff,decide_eq_false_iff_not]; show ¬ fPar h<0∧¬ ((Qae h).length:Int)<fPar h; omega,Bool.false_or]
  unfold tyL
  have htl:(((Qae h).take (fPar h).toNat).map (·.1)).length=(fPar h).toNat:=by rw [List.length_map,List.length_take]; omega
  dsimp only
  rw [htl]
  by_cases he:l.length=(fPar h).toNat
  ·rw [show decide ((l.length:Int)=h.2.1)=true from QbC (show (l.length:Int)=fPar h by omega),QbC he]
   rw [Qcs (L:=fun i=>Qgb f h l i) (l:=l) (p:=fun i v=>if (i:Int) = -1 then decide (v = -1) else decide (0≤v)&&decide (some (kd f v)=(((Qae h).take (fPar h).toNat).map (·.1))[i]?)) (A:=.inl ()) (B:=.inr ()) (fun i v hv=>by
    have hi:=QaU hv
    have hyi:(Qae h)[i]?=some ((Qae h)[i]'(by omega)):=List.getElem?_eq_getElem (by omega)
    have hti:(((Qae h).take (fPar h).toNat).map (·.1))[i]?=some ((Qae h)[i]'(by omega)).1:=by rw [List.getElem?_map,List.getElem?_take,if_pos (by omega),hyi]; rfl
    rw [Qi6,Qak hv,cond_true,Qai hv,Qaa,Qal hv hl,if_neg (show ¬ ((i:Int) = -1) by omega)]
    by_cases hv0:v<0
    ·rw [Qac hv0,QaD (show ¬ 0≤v by omega)]; rfl
    ·rw [Qab hv0,show at' h.2.2.2.1 (i:Int)=_ from Qai hyi,Qaa,QoB f (by omega) (hr v (List.mem_of_getElem? hv) (by omega)),Qaa,QbC (show 0≤v by omega),hti,Qan]
     simp) (by rw [Qi6,Qao,cond_false])]
   simp only [Bool.not_true,cond_false,Qaa,Bool.true_and]
   cases allI _ _ _<;>rfl
  ·rw [show decide ((l.length:Int)=h.2.1)=false from QaD (show ¬ (l.length:Int)=fPar h by omega),QaD he]
   rfl
theorem QGw (hp:Qbv p)(n:Qag)(hn:QbM n)(t:Int)(ht:isTy p.1 t=true)(h1:¬ t<1)(hc:(nBr n).length=(QeI p.1 t).length)(hr:∀ x∈nBr n,∀ v∈x.1,0≤v→v<((Qae f).length:Int)):
  Qdz p f n t 0=some (if allI (fun i x=>match (QeI p.1 t)[i]? with |some c=>tyL f (-1) x.1 c.2 |none=>false) 0 (nBr n)=true then .inr () else .inl ()):=by
 have hbr:=hn.br
 refine Qcs (L:=fun i=>Qdz p f n t i) (l:=nBr n) (fun i y hy=>?_) ?_
 ·have hm:=List.mem_of_getElem? hy
  rw [Qj3,Qak hy,cond_true,Qai hy,Qaa,Qyk p f hp.Qou t (i:Int) ht (-1) y.1 (by have:=hn.bs y hm; omega) (hr y hm),Qaa,Qal hy (by omega),Qan]
  unfold fieldsOf
  rw [if_neg (show ¬ (t<1∨(i:Int)<0) by omega),Int.toNat_natCast]
  cases (QeI p.1 t)[i]?<;>rfl
 ·rw [Qj3,Qao,cond_false]
theorem QHU (hp:Qbv p)(ho:HOk p f)(n:Qag)(hn:QbM n)(hform:QgC n=true)(hu:∀ v∈uses n,0≤v∧v<((Qae f).length:Int))(hb:∀ v∈binds n,0≤v∧v<((Qae f).length:Int))(hbad:Qjb p n=false):
  Qfr p f n=some (Qin p f n):=by
 unfold QgC at hform
 simp only [Bool.and_eq_true,decide_eq_true_eq,Bool.or_eq_true] at hform
 obtain ⟨⟨⟨⟨⟨⟨⟨⟨⟨hop,hargs⟩,_⟩,_⟩,_⟩,_⟩,_⟩,_⟩,_⟩,_⟩:=hform
 unfold Qjb at hbad
 rw [Bool.or_eq_false_iff] at hbad
 obtain ⟨hbad,hbad2⟩:=hbad
 have hd:=hp.Qou
 have hdl:=hd.len
 have ha:=hn.args
 have hm:=hn.more
 have hone:(nOp n=0∨nOp n=4∨nOp n=5∨nOp n=9)→at' (QaJ n) 0=some (arg0 n)∧0≤arg0 n∧arg0 n<((Qae f).length:Int):=by
  intro h
  have h1:fArgs (nOp n)=1:=by unfold fArgs; rw [if_pos h]
  rw [h1] at hargs
  have hne:QaJ n≠[]:=by intro he; rw [he] at hargs; simp at hargs
  obtain ⟨h2,h3⟩:=QDa n hne
  refine ⟨h2,hu _ ?_⟩
  unfold uses
  rw [if_neg (by omega),if_neg (by omega)]
  exact h3
 have hall:nOp n≠8→nOp n≠1→∀ v∈QaJ n,0≤v∧v<((Qae f).length:Int):=fun h8 h1 v hv=>hu v (by unfold uses; rw [if_neg (by omega),if_neg h8]; exact hv)
 have hvar:Qlb (nOp n)=true→0≤nVar n∧nVar n<((Qae f).length:Int):=by
  intro h
  apply hb
  unfold binds
  have h9:nOp n≠9:=by unfold Qlb at h; rw [decide_eq_true_eq] at h; omega
  rw [if_neg h9,if_pos h]
  simp
 have hfun:fFun (nOp n)=true→0≤nFun n∧nFun n<(p.2.length:Int):=by
  intro h
  rw [h] at hbad
  simpa using hbad
 rw [QsZ]
 unfold Qin
 by_cases h0:nOp n=0
 ·obtain ⟨h1,h2,h3⟩:=hone (by omega)
  rw [Qac h0,if_pos h0,show at' n.2.2.1 0=_ from h1,Qaa,QoB f h2 h3]
  rfl
 rw [Qab h0,if_neg h0]
 by_cases h1:nOp n=1
 ·obtain ⟨h2,h3⟩:=hvar (by rw [h1]; rfl)
  rw [Qac h1,if_pos h1,QoB f h2 h3]
  rfl
 rw [Qab h1,if_neg h1]
 by_cases h2:nOp n=2
 ·obtain ⟨h3,h4⟩:=hvar (by rw [h2]; rfl)
  have hargs2:=hall (by omega) h1
  have hlen:(QaJ n).length=2:=by
   rcases hargs with h |h
   ·rw [h2] at h; exact absurd h (by decide)
   ·rw [h2] at h; have:fArgs 2=2:=rfl; omega
  match hna:QaJ n,hlen with
  | [x,y],_=>
   rw [hna] at hargs2
   obtain ⟨hx0,hx1⟩:=hargs2 x (by simp)
   obtain ⟨hy0,hy1⟩:=hargs2 y (by simp)
   rw [Qac h2,if_pos h2,QmH,Qaa,show n.2.2.1=[x,y] from hna,at_0,at_1,Qaa,Qaa,QoB f hx0 hx1,QoB f hy0 hy1,QoB f h3 h4]
   simp only [Qaa,Qah,Qfj]
   rw [QFm]
   have ht:tyL f (-1) [x,y] [0,0]=(decide (kd f x=0)&&decide (kd f y=0)):=by
    unfold tyL
    rw [allI,allI,allI,if_neg (show ¬ (((0:Nat):Int) = -1) by omega),if_neg (show ¬ (((0+1:Nat):Int) = -1) by omega),QbC hx0,QbC hy0]
    simp
   rw [ht,Bool.and_assoc]
 rw [Qab h2,if_neg h2]
 by_cases h3:nOp n=3
 ·obtain ⟨h4,h5⟩:=hvar (by rw [h3]; rfl)
  rw [Qac h3,if_pos h3,QoB f h4 h5,Qaa,Qyk p f hd _ _ (ho.kd _) (-1) n.2.2.1 (by have:n.2.2.1.length≤1000:=ha; omega) (fun v hv _=>(hall (by omega) h1 v hv).2),Qaa]
  rfl
 rw [Qab h3,if_neg h3]
 by_cases h4:nOp n=4
 ·obtain ⟨h5,h6⟩:=hvar (by rw [h4]; rfl)
  obtain ⟨h7,h8,h9⟩:=hone (by omega)
  rw [Qac h4,if_pos h4,show at' n.2.2.1 0=_ from h7,Qaa,QoB f h5 h6,QoB f h8 h9,Qaa,Qaa,Qkf p.1 hd,Qaa,Qah,Qfj]
 rw [Qab h4,if_neg h4]
 by_cases h5:nOp n=5
 ·obtain ⟨h7,h8,h9⟩:=hone (by omega)
  rw [Qac h5,if_pos h5,show at' n.2.2.1 0=_ from h7,Qaa,QoB f h8 h9,Qaa,Qkf p.1 hd,Qaa]
 rw [Qab h5,if_neg h5]
 by_cases h6:nOp n=6
 ·obtain ⟨h7,h8⟩:=hvar (by rw [h6]; rfl)
  obtain ⟨h9,h10⟩:=hfun (by rw [h6]; rfl)
  obtain ⟨g,hg,hres⟩:=QtV p h9 h10
  rw [Qac h6,if_pos h6,Qyl p f hp _ n.2.2.1 h9 h10 (by have:n.2.2.1.length≤1000:=ha; omega) (fun v hv _=>(hall (by omega) h1 v hv).2),Qaa,QoB f h7 h8,show at' p.2 n.2.2.2.2.2.1=_ from hg,Qaa,Qaa,Qah,Qfj,← hres]
 rw [Qab h6,if_neg h6]
 by_cases h7:nOp n=7
 ·obtain ⟨h9,h10⟩:=hfun (by rw [h7]; rfl)
  obtain ⟨g,hg,hres⟩:=QtV p h9 h10
  rw [Qac h7,if_pos h7,Qyl p f hp _ n.2.2.1 h9 h10 (by have:n.2.2.1.length≤1000:=ha; omega) (fun v hv _=>(hall (by omega) h1 v hv).2),Qaa,show at' p.2 n.2.2.2.2.2.1=_ from hg,Qaa,Qah,Qfj,← hres]
 rw [Qab h7,if_neg h7]
 by_cases h8:nOp n=8
 ·obtain ⟨h9,h10⟩:=hfun (by rw [h8]; rfl)
  obtain ⟨g,hg,hres⟩:=QtV p h9 h10
  have hv:∀ v∈QaJ n++Qgm n,0≤v→v<((Qae f).length:Int):=fun v hv h0=>(hu v (by unfold uses; rw [if_neg (by omega),if_pos h8,List.mem_filter]; exact ⟨hv,by simpa using h0⟩)).2
  have hres1:=Qjc.1 ho.res
  rw [Qac h8,if_pos h8,Qyk p f hd _ _ ho.res _ n.2.2.1 (by have:n.2.2.1.length≤1000:=ha; omega) (fun v h=>hv v (by simp; exact Or.inl h)),Qyl p f hp _ n.2.2.2.2.2.2.1 h9 h10 (by have:n.2.2.2.2.2.2.1.length≤1000:=hm; omega) (fun v h=>hv v (by simp; exact Or.inr h)),show at' p.2 n.2.2.2.2.2.1=_ from hg]
  simp only [Qah,Qaa,QaQ,QaB]
  show (bif decide (nNum n<0)||!decide (nNum n<((QaJ n).length:Int))||!(match fieldsOf p (fRes f) (nCon n) with |none=>false |some ts=>tyL f (nNum n) (QaJ n) ts) then _ else _)=some (match fieldsOf p (fRes f) (nCon n) with |none=>false |some ts=>decide (0≤nNum n∧nNum n<(ts.length:Int))&&tyL f (nNum n) (QaJ n) ts&&Qji p f (nFun n) (Qgm n)&&decide (some (Qyh p (nFun n))=ts[(nNum n).toNat]?))
  cases hfo:fieldsOf p (fRes f) (nCon n) with
  | none=>simp
  | some ts=>
   simp only
   cases hty:tyL f (nNum n) (QaJ n) ts with
   | false=>simp
   | true=>
    have hlen:(QaJ n).length=ts.length:=by unfold tyL at hty; rw [Bool.and_eq_true,decide_eq_true_eq] at hty; exact hty.1
    by_cases hnum:0≤nNum n∧nNum n<(ts.length:Int)
    ·rw [QbC hnum,show (decide (nNum n<0)||!decide (nNum n<((QaJ n).length:Int))||!true)=false by
      rw [QaD (show ¬ nNum n<0 by omega),QbC (show nNum n<((QaJ n).length:Int) by omega)]; rfl,cond_false]
     unfold fieldsOf at hfo
     split at hfo
     ·cases hfo
     rename_i hcon
     obtain ⟨x,hx,hc,_⟩:=Qip (d:=p.1) (t:=fRes f) (by omega) hres1.2
     rw [hc] at hfo
     split at hfo
     ·rename_i cc hcc
      simp only [osi] at hfo
      subst hfo
      obtain ⟨t,ht,ht'⟩:=QgJ hnum.1 hnum.2
      rw [Qim (show 0≤f.2.2.1 from hres1.1) (by have:=hres1.2; have:f.2.2.1≤(p.1.length:Int):=this; omega),show at' p.1 (f.2.2.1 - 1)=_ from hx]
      simp only [Qaa]
      rw [Qhi (show 0≤n.2.2.2.1 by show 0≤nCon n; omega) hcc]
      simp only [Qaa]
      rw [show at' cc.2 n.2.2.2.2.1=_ from ht,ht',hres]
      simp only [Qaa,osi]
      show (bif Qji p f (nFun n) (Qgm n) then some (decide (g.2.2.1=t)) else some false)=_
      cases Qji p f (nFun n) (Qgm n)<;>rfl
     ·cases hfo
    ·rw [QaD hnum,show (decide (nNum n<0)||!decide (nNum n<((QaJ n).length:Int))||!true)=true by
      simp only [Bool.not_true,Bool.or_false,Bool.or_eq_true,Bool.not_eq_true',decide_eq_true_eq,decide_eq_false_iff_not]; omega]
     rfl
 rw [Qab h8,if_neg h8]
 obtain ⟨h9,h10,h11⟩:=hone (by omega)
 rw [show at' n.2.2.1 0=_ from h9,Qaa,QoB f h10 h11,Qaa,Qkf p.1 hd]
 have hty:=ho.kd (arg0 n)
 have hty':=hty
 rw [Qjc] at hty'
 by_cases ht1:kd f (arg0 n)<1
 ·rw [Qac ht1,QbC ht1]; rfl
 ·rw [Qab ht1,QaD ht1,Qim (by omega) (by omega)]
  obtain ⟨x,hx,hco,_⟩:=Qip (d:=p.1) (t:=kd f (arg0 n)) ht1 hty'.2
  rw [hx,Qaa]
  by_cases hlen:(nBr n).length=(QeI p.1 (kd f (arg0 n))).length
  ·have h9:nOp n=9:=by omega
   have hbr:∀ x∈nBr n,∀ v∈x.1,0≤v→v<((Qae f).length:Int):=fun x hx v hv _=>(hb v (by unfold binds; rw [if_pos h9,List.mem_flatMap]; exact ⟨x,hx,hv⟩)).2
   rw [QbC hlen,Qac (show ((n.2.2.2.2.2.2.2.2.1.length:Int)=(x.2.length:Int)) by rw [← hco]; exact congrArg _ hlen),QGw p f hp n hn _ hty ht1 hlen hbr]
   simp only [Qaa,Bool.not_false,Bool.true_and]
   show (bif Qgn n then _ else _)=some (!(Qgn n&&flat p.1 (kd f (arg0 n)))&&_)
   cases Qgn n<;>cases flat p.1 (kd f (arg0 n))<;>simp only [cond_true,cond_false,Bool.and_true,Bool.and_false,Bool.true_and,Bool.false_and,Bool.not_true,Bool.not_false]<;>(first |rfl |(cases allI _ 0 _<;>rfl))
  ·rw [QaD hlen,Qab (show ¬ ((n.2.2.2.2.2.2.2.2.1.length:Int)=(x.2.length:Int)) by rw [← hco]; show ¬ (((nBr n).length:Int)=_); omega)]
   simp
theorem QHV (hd:QbN p.1)(n:Qag)(hn:QbM n)(hb:∀ v∈binds n,0≤v∧v<((Qae f).length:Int)):Qfs p f n=some (Qov p f n):=by
 have hbl:=Qox n hn
 rw [Qs0,Qso n hn,Qaa,Qap (L:=fun i=>QdA p f n (binds n) i) (l:=binds n) (p:=fun v=>rdOf f v==(decide (nOp n=9)&&(!Qgn n&&!flat p.1 (kd f v)))) (A:=.inl ()) (B:=.inr ()) (fun i v hv=>by
  obtain ⟨h0,h1⟩:=hb v (List.mem_of_getElem? hv)
  obtain ⟨x,hx,_,hk,hrd⟩:=Qio f h0 h1
  rw [Qj4,Qak hv,cond_true,Qai hv]
  simp only [Qaa]
  rw [show at' f.2.2.2.1 v=_ from hx,QoB f h0 h1]
  simp only [Qaa]
  rw [Qkf p.1 hd,Qaa,Qal hv (by omega),hrd]
  show (bif decide (nOp n=9) then bif Qgn n then _ else _ else _)=_
  cases decide (nOp n=9)<;>cases Qgn n<;>cases x.2<;>cases flat p.1 (kd f v)<;>rfl) (by rw [Qj4,Qao,cond_false]),Qaa]
 unfold Qov
 cases (binds n).all _<;>rfl
end
end Go.Proofs.YtkecfadnfnnfaaaGreatDoor.LabB
namespace Go.Proofs.YtkecfadnfnnfaaaGreatDoor.LabB
open Go Go.Ev Go.Sy
theorem Qvk:∀ (l:List Int) (bo bo':List Bool),Qlw bo l=.inr bo'→cf bo'+l.length=cf bo
 | [],bo,bo',h=>by cases h; rfl
 | v::l,bo,bo',h=>by
  rw [Qlw] at h
  split at h
  ·rename_i hv
   have:=Qvk l _ _ h
   have:=QtT bo v.toNat hv
   rw [List.length_cons]
   omega
  ·cases h
structure SR (sl:List Int)(sc:List Bool):Prop where
 mem:∀ v,v∈sl↔(0≤v∧sc[v.toNat]?=some true)
structure BR (m:Int)(br bo:List Bool):Prop where
 len:br.length=bo.length
 at_:∀ i:Nat,i<bo.length→bo[i]?=some (decide ((i:Int)<m)||(br[i]?==some true))
theorem BR.get {m:Int}{br bo:List Bool}(h:BR m br bo){v:Int}(h0:0≤v)(h1:v<(bo.length:Int)):∃ y,at' br v=some y∧bo[v.toNat]?=some (decide (v<m)||y):=by
 obtain ⟨y,hy,hy'⟩:=QgJ (l:=br) h0 (by rw [h.len]; exact h1)
 refine ⟨y,hy,?_⟩
 rw [h.at_ v.toNat (by omega),hy',Int.toNat_of_nonneg h0]
 cases y<;>rfl
theorem BR.set {m:Int}{br bo:List Bool}(h:BR m br bo)(i:Nat):BR m (br.set i true) (bo.set i true):=⟨by simp [h.len],fun j hj=>by
 rw [List.length_set] at hj
 rw [List.getElem?_set,List.getElem?_set]
 by_cases hi:i=j
 ·subst hi
  rw [if_pos rfl,if_pos rfl,if_pos hj,if_pos (by rw [h.len]; exact hj)]
  simp
 ·rw [if_neg hi,if_neg hi]
  exact h.at_ j hj⟩
section
variable (p:Qad) (f:GFun)
theorem rin (l:List Int)(hl:l.length≤9223372036854775807)(v:Int):QuZ l v=some (decide (v∈l)):=by
 rw [Qx4,Qap (L:=fun i=>QkF l v i) (l:=l) (p:=fun x=>!decide (x=v)) (A:=.inl ()) (B:=.inr ()) (fun i x hx=>by
  rw [Qm2,Qak hx,cond_true,Qai hx,Qaa,Qal hx hl,Qan]
  cases decide (x=v)<;>rfl) (by rw [Qm2,Qao,cond_false]),Qaa]
 have:decide (v∈l)=!l.all fun x=>!decide (x=v):=by
  rw [Bool.eq_iff_iff]
  simp
 rw [this]
 cases l.all _<;>rfl
theorem QGx (re br:List Bool)(sl:List Int)(sc:List Bool)(hs:SR sl sc)(hsl:sl.length≤9223372036854775807)(a e:Int)(n:Qag)(l:List Int)(hl:l.length≤9223372036854775807):Qcu sl re br a e p f n l 0=some (if Qp7 sc l=true then .inl () else .inr ()):=by
 refine Qap (L:=fun i=>Qcu sl re br a e p f n l i) (p:=fun (v:Int)=>decide (0≤v∧sc[v.toNat]?=some true)) (fun i v hv=>?_) ?_
 ·rw [Qgs,Qak hv,cond_true,Qai hv,Qaa,rin sl hsl v,Qaa,Qal hv hl,Qan]
  have:decide (v∈sl)=decide (0≤v∧sc[v.toNat]?=some true):=by rw [Bool.eq_iff_iff,decide_eq_true_eq,decide_eq_true_eq]; exact hs.mem v
  rw [this]
 ·rw [Qgs,Qao,cond_false]
theorem QGy (re br:List Bool)(sl:List Int)(a e:Int)(n:Qag)(l:List Int)(hl:l.length≤9223372036854775807):Qcv sl re br a e p f n l 0=some (if l.all (inR f)=true then .inr () else .inl ()):=by
 refine Qap (L:=fun i=>Qcv sl re br a e p f n l i) (p:=inR f) (fun i v hv=>?_) ?_
 ·rw [Qgt,Qak hv,cond_true,Qai hv,Qaa,Qal hv hl]
  unfold inR
  by_cases h:0≤v∧v<((Qae f).length:Int)
  ·rw [QbC h,if_pos rfl,Qab (show ¬ v<0 by omega),Qac (show v<(f.2.2.2.1.length:Int) from h.2)]
  ·rw [QaD h,if_neg (by simp)]
   by_cases h0:v<0
   ·rw [Qac h0]
   ·rw [Qab h0,Qab (show ¬ v<(f.2.2.2.1.length:Int) by show ¬ v<((Qae f).length:Int); omega)]
 ·rw [Qgt,Qao,cond_false]
theorem QGz (re:List Bool)(sl:List Int)(a e:Int)(n:Qag)(l:List Int)(hl:l.length≤9223372036854775807)(hr:∀ v∈l,0≤v∧v<((Qae f).length:Int)):
  ∀ (r pre:List Int) (br bo:List Bool),l=pre++r→bo.length=(Qae f).length→BR (fPar f) br bo→∃ z,QaV sl re br a e p f n l (pre.length:Int)=some z∧(match Qlw bo r with | .inl _=>∃ x,z=.inl x | .inr bo'=>∃ br',z=.inr br'∧BR (fPar f) br' bo'):=by
 intro r
 induction r with
 | nil=>
  intro pre br bo h hb hbr
  subst h
  rw [Qgu,QeQ,cond_false]
  exact ⟨_,rfl,_,rfl,hbr⟩
 | cons v r ih=>
  intro pre br bo h hb hbr
  have hv:l[pre.length]?=some v:=by rw [h,List.getElem?_append_right (Nat.le_refl _)]; simp
  obtain ⟨h0,h1⟩:=hr v (List.mem_of_getElem? hv)
  obtain ⟨y,hy,hbo⟩:=hbr.get h0 (by rw [hb]; exact h1)
  rw [Qgu,Qak hv,cond_true,Qai hv,Qaa,Qlw,hbo]
  by_cases hp:v<fPar f
  ·rw [Qac hp,QbC hp,if_neg (by simp)]
   exact ⟨_,rfl,_,rfl⟩
  ·rw [Qab hp,QaD hp,hy,Qaa]
   cases y with
   | true=>rw [if_neg (by simp)]; exact ⟨_,rfl,_,rfl⟩
   | false=>
    rw [if_pos (by simp),cond_false,Qal hv hl]
    have:=ih (pre++[v]) (br.set v.toNat true) (bo.set v.toNat true) (by rw [h]; simp) (by simp [hb]) (hbr.set _)
    simpa using this
theorem QDi (hp:Qbv p)(ho:HOk p f)(n:Qag)(hn:QbM n)(re br bo sc:List Bool)(sl:List Int)(a er:Int)(hb:bo.length=(Qae f).length)(hbr:BR (fPar f) br bo)(hs:SR sl sc)(hc:sc.length=(Qae f).length)(hsl:sl.length≤1000000000):
  ∃ b' e,Qhj re br sl a er p f n=some (b',e)∧(match Qlc p f sc bo n with | .inl e'=>e=e'∧e'≠0 | .inr bo'=>e=0∧BR (fPar f) b' bo'):=by
 have hul:=Qzr n hn
 have hbl:=Qox n hn
 rw [Qnx,QCX,Qaa]
 unfold Qlc
 cases hform:QgC n with
 | false=>exact ⟨_,_,rfl,rfl,by decide⟩
 | true=>
  rw [cond_true,QHA n hn,Qaa,QGx p f re br sl sc hs (by omega) a er n _ (by omega),Qaa,if_neg tf]
  cases hu:Qp7 sc (uses n) with
  | false=>exact ⟨_,_,rfl,rfl,by decide⟩
  | true=>
   rw [if_pos (show true=true from rfl),Qso n hn]
   simp only [Qaa]
   rw [QGy p f re br sl a er n _ (by omega),Qaa,if_neg tf]
   cases hr:(binds n).all (inR f) with
   | false=>exact ⟨_,_,rfl,rfl,by decide⟩
   | true=>
    rw [if_pos (show true=true from rfl)]
    simp only
    have hop:0≤nOp n∧nOp n<10:=by
     unfold QgC at hform
     simp only [Bool.and_eq_true,decide_eq_true_eq] at hform
     exact hform.1.1.1.1.1.1.1.1.1
    rw [if_neg tf]
    have hr':∀ v∈binds n,0≤v∧v<((Qae f).length:Int):=fun v hv=>by
     have:=List.all_eq_true.1 hr v hv
     unfold inR at this
     simpa using this
    have hu':∀ v∈uses n,0≤v∧v<((Qae f).length:Int):=fun v hv=>by
     have:=List.all_eq_true.1 hu v hv
     rw [decide_eq_true_eq] at this
     have:=QaU this.2
     omega
    obtain ⟨z,hz1,hz2⟩:=QGz p f re sl a er n (binds n) (by omega) hr' (binds n) [] br bo rfl hb hbr
    rw [show QaV sl re br a er p f n (binds n) 0=some z from hz1]
    simp only [Qah,Qaa,QaB,QaQ,QkB,Qzk]
    have hff:(decide (n.1=6)||decide (n.1=7)||decide (n.1=8))=fFun (nOp n):=by
     unfold fFun
     rw [Bool.eq_iff_iff]
     simp only [Bool.or_eq_true,decide_eq_true_eq]
     show (nOp n=6∨nOp n=7)∨nOp n=8↔nOp n=6∨nOp n=7∨nOp n=8
     omega
    rw [hff]
    have hfr:(decide (n.2.2.2.2.2.1<0)||!decide (n.2.2.2.2.2.1<(p.2.length:Int)))=!decide (0≤nFun n∧nFun n<(p.2.length:Int)):=by
     rw [Bool.eq_iff_iff]
     simp only [Bool.or_eq_true,Bool.not_eq_true',decide_eq_true_eq,decide_eq_false_iff_not]
     show nFun n<0∨¬ nFun n<(p.2.length:Int)↔¬ (0≤nFun n∧nFun n<(p.2.length:Int))
     omega
    have hnr:(decide (n.2.2.2.2.1<0)||decide (7<n.2.2.2.2.1))=!decide (0≤nNum n∧nNum n<8):=by
     rw [Bool.eq_iff_iff]
     simp only [Bool.or_eq_true,Bool.not_eq_true',decide_eq_true_eq,decide_eq_false_iff_not]
     show nNum n<0∨7<nNum n↔¬ (0≤nNum n∧nNum n<8)
     omega
    rw [hfr,hnr]
    have tail:Qjb p n=false→∃ b' e,(match z with
      | .inl v15=>some (v15,(8:Int))
      | .inr v15=>Option.bind (Qfr p f n) fun v16=>bif v16 then Option.bind (Qfs p f n) fun v17=>bif v17 then some (v15,0) else some (v15,11) else some (v15,10))=some (b',e)∧(match (match Qlw bo (binds n) with
       | .inl _=>(.inl 8:Int⊕List Bool)
       | .inr bo'=>if Qin p f n=false then .inl 10 else if Qov p f n=false then .inl 11 else .inr bo') with | .inl e'=>e=e'∧e'≠0 | .inr bo'=>e=0∧BR (fPar f) b' bo'):=by
     intro hbad
     rw [QHU p f hp ho n hn hform hu' hr' hbad,QHV p f hp.Qou n hn hr']
     cases hm:Qlw bo (binds n) with
     | inl _=>
      rw [hm] at hz2
      obtain ⟨x,rfl⟩:=hz2
      exact ⟨_,_,rfl,rfl,by decide⟩
     | inr bo'=>
      rw [hm] at hz2
      obtain ⟨br',rfl,hbr'⟩:=hz2
      simp only [Qaa]
      cases Qin p f n with
      | false=>exact ⟨_,_,rfl,rfl,by decide⟩
      | true=>
       cases Qov p f n with
       | false=>exact ⟨_,_,rfl,rfl,by decide⟩
       | true=>exact ⟨_,_,rfl,rfl,hbr'⟩
    have hbn:Qjb p n=((fFun (nOp n)&&!decide (0≤nFun n∧nFun n<(p.2.length:Int)))||(decide (nOp n=2)&&!decide (0≤nNum n∧nNum n<8))):=rfl
    revert tail
    rw [hbn]
    show (_→_)→∃ b' e,(bif fFun (nOp n) then bif !decide (0≤nFun n∧nFun n<(p.2.length:Int)) then _ else bif decide (nOp n=2) then _ else _ else bif decide (nOp n=2) then _ else _)=some (b',e)∧_
    cases fFun (nOp n)<;>cases decide (0≤nFun n∧nFun n<(p.2.length:Int))<;>cases decide (nOp n=2)<;>cases decide (0≤nNum n∧nNum n<8)<;>intro tail<;>first |exact ⟨_,_,rfl,rfl,by decide⟩ |exact tail rfl
theorem QGA (sl:List Int)(br:List Bool)(a e:Int)(n:Qag)(l:List Int)(hl:l.length≤9223372036854775807):∀ (r pre:List Int) (re:List Bool),l=pre++r→re.length=(Qaw f).length→QcW sl re br a e p f n l (pre.length:Int)=some (Qqh re r):=by
 intro r
 induction r with
 | nil=>
  intro pre re h hre
  subst h
  rw [Qhc,QeQ,cond_false]
  rfl
 | cons k r ih=>
  intro pre re h hre
  have hk:l[pre.length]?=some k:=by rw [h,List.getElem?_append_right (Nat.le_refl _)]; simp
  rw [Qhc,Qak hk,cond_true,Qai hk,Qaa,Qqh,Qal hk hl]
  rcases Qok re k with ⟨h0,h1,y,hy,hy',_⟩ |⟨h1,hy⟩
  ·rw [Qab (show ¬ k<0 by omega),Qac (show k<(f.2.2.2.2.1.length:Int) by show k<((Qaw f).length:Int); omega),hy,Qaa,hy']
   cases y with
   | true=>rw [if_neg (by simp)]; rfl
   | false=>
    rw [if_pos ⟨h0,rfl⟩,cond_false]
    have:=ih (pre++[k]) (re.set k.toNat true) (by rw [h]; simp) (by simp [hre])
    simpa using this
  ·rw [if_neg (by rintro ⟨h2,h3⟩; have:=QaU h3; omega)]
   by_cases h0:k<0
   ·rw [Qac h0]
   ·rw [Qab h0,Qab (show ¬ k<(f.2.2.2.2.1.length:Int) by show ¬ k<((Qaw f).length:Int); omega)]
def QDj (g:List Bool→List Bool→List Bool→Int→Int⊕(List Bool×List Bool))(re bo sc:List Bool)(k:Int):Prop:=
 ∀ (br:List Bool) (sl:List Int) (a er:Int),BR (fPar f) br bo→SR sl sc→sl.length+cf bo≤(Qae f).length→
 ∃ re' br' w e,Qd3 re br sl a er p f k=some (re',br',w,e)∧(match g re bo sc k with | .inl e'=>e=e'∧e'≠0 | .inr s=>e=0∧re'=s.1∧BR (fPar f) br' s.2)
theorem SR.add {sl:List Int}{sc:List Bool}(h:SR sl sc)(l:List Int)(hl:∀ v∈l,0≤v∧v<(sc.length:Int)):SR (sl++l) (setS true l sc):=⟨fun v=>by
 rw [List.mem_append,h.mem v,QkR]
 constructor
 ·rintro (⟨h0,h1⟩ |h1)
  ·refine ⟨h0,?_⟩
   split
   ·rfl
   ·exact h1
  ·obtain ⟨h2,h3⟩:=hl v h1
   exact ⟨h2,by rw [if_pos ⟨⟨v,h1,rfl⟩,by omega⟩]⟩
 ·rintro ⟨h0,h1⟩
  split at h1
  ·rename_i h2
   obtain ⟨⟨w,hw,hwv⟩,_⟩:=h2
   have:=(hl w hw).1
   have:w=v:=by omega
   exact Or.inr (this▸hw)
  ·exact Or.inl ⟨h0,h1⟩⟩
theorem QwJ {n:Qag}{k:Int}{l:List Int}(h:(k,l)∈kb n):l.length≤(binds n).length:=by
 unfold kb at h
 split at h
 ·rename_i h9
  simp only [List.mem_map,Prod.mk.injEq] at h
  obtain ⟨b,hb,_,rfl⟩:=h
  unfold binds
  rw [if_pos h9]
  have:∀ L:List QbB,b∈L→b.1.length≤(L.flatMap (·.1)).length:=by
   intro L
   induction L with
   | nil=>intro h; simp at h
   | cons x L ih=>
    intro h
    rw [List.flatMap_cons,List.length_append]
    rcases List.mem_cons.1 h with rfl |h
    ·omega
    ·have:=ih h; omega
  exact this _ hb
 ·simp only [List.mem_map,Prod.mk.injEq] at h
  obtain ⟨_,_,_,rfl⟩:=h
  exact Nat.le_refl _
theorem QGB (hp:Qbv p)(hf:Qja f)(n:Qag)(hn:QbM n)(g:List Bool→List Bool→List Bool→Int→Int⊕(List Bool×List Bool))(D:Nat)(hk:∀ re bo sc k re' bo',g re bo sc k=.inr (re',bo')→Le re re'∧Le bo bo')
  (hd:∀ re bo sc k,Wf f re bo sc→0≤k→k<((Qaw f).length:Int)→cf re<D→QDj p f g re bo sc k) (sc0:List Bool) (sl:List Int) (hsl:SR sl sc0):
  ∀ (r pre:List (Int×List Int)) (re br bo:List Bool) (a:Int),kb n=pre++r→Wf f re bo sc0→BR (fPar f) br bo→cf re<D→(∀ x∈r,0≤x.1∧x.1<((Qaw f).length:Int))→(∀ v∈binds n,0≤v∧v<((Qae f).length:Int))→(∀ v∈binds n,bo[v.toNat]?=some true∧sc0[v.toNat]?≠some true)→sl.length+(binds n).length+cf bo≤(Qae f).length→
  ∃ z,QcX sl re br a 0 p f n (kids n) (pre.length:Int)=some z∧
    (match QmR g r re bo sc0 with | .inl e=>∃ x,z=.inl x∧x.2.2.2=e∧e≠0 | .inr s=>∃ br' w,z=.inr (s.1,br',w,0)∧BR (fPar f) br' s.2):=by
 have hkl:=QgU n hn
 have hvl:(Qae f).length≤1000000:=hf.vars
 intro r
 induction r with
 | nil=>
  intro pre re br bo a h hw hbr hc hr hb hs hlen
  rw [Qeh,Qab (by rw [Qbw,h]; simp)]
  exact ⟨_,rfl,_,_,rfl,hbr⟩
 | cons x r ih=>
  obtain ⟨k,l⟩:=x
  intro pre re br bo a h hw hbr hc hr hb hs hlen
  have hlen2:(kids n).length=pre.length+(r.length+1):=by rw [Qbw,h]; simp
  have hmem:(k,l)∈kb n:=by rw [h]; simp
  have hle:=QwJ hmem
  have hat:(kids n)[pre.length]?=some k:=by
   rw [Qbw,h,List.map_append,List.getElem?_append_right (by simp)]
   simp
  have hsub:=QgV hmem
  have hrl:∀ v∈l,0≤v∧v<(sc0.length:Int):=fun v hv=>by rw [hw.hsc]; exact hb v (hsub v hv)
  rw [Qeh,Qak hat,cond_true,Qac (by omega),Qai hat]
  have hjoin:(bif decide (n.1=(9:Int)) then Option.bind (Sy.at' n.2.2.2.2.2.2.2.2.1 (pre.length:Int)) fun v10=>bif (decide (((sl.length+v10.1.length) * (8:Nat))≤(35184372088832:Nat))) then some (sl++v10.1) else none
    else Option.bind (Qea n) fun v10=>bif (decide (((sl.length+v10.length) * (8:Nat))≤(35184372088832:Nat))) then some (sl++v10) else none)=some (sl++l):=by
   by_cases h9:nOp n=9
   ·rw [Qac h9,QrV]
    have hkb:kb n=(nBr n).map (fun b=>(b.2,b.1)):=by unfold kb; rw [if_pos h9]
    have:(kb n)[pre.length]?=some (k,l):=by rw [h,List.getElem?_append_right (Nat.le_refl _)]; simp
    rw [hkb,List.getElem?_map] at this
    cases hb:(nBr n)[pre.length]? with
    | none=>rw [hb] at this; simp at this
    | some b=>
     rw [hb] at this
     simp only [Option.map_some,osi,Prod.mk.injEq] at this
     rw [Qaa,this.2,Qac (by omega)]
   ·rw [Qab h9,Qso n hn,Qaa]
    have hkb:kb n=(kids n).map (fun k=>(k,binds n)):=by unfold kb; rw [if_neg h9]
    rw [hkb] at hmem
    simp only [List.mem_map,Prod.mk.injEq] at hmem
    obtain ⟨_,_,_,hm⟩:=hmem
    rw [hm,Qac (by omega)]
  rw [hjoin,Qaa,Qaa]
  have hw1:Wf f re bo (setS true l sc0):=⟨hw.hre,hw.hbo,by rw [Qb8,hw.hsc],fun i hi=>by
   rw [QkR] at hi
   split at hi
   ·rename_i h1
    obtain ⟨⟨v,hv,rfl⟩,_⟩:=h1
    exact (hs v (hsub v hv)).1
   ·exact hw.sub i hi⟩
  obtain ⟨h0,h1⟩:=hr (k,l) (by simp)
  obtain ⟨re',br',w,e,hd1,hd2⟩:=hd re bo (setS true l sc0) k hw1 h0 h1 hc br (sl++l) a 0 hbr (hsl.add l hrl) (by rw [List.length_append]; omega)
  rw [hd1,Qaa]
  simp only
  rw [QmR]
  cases hg:g re bo (setS true l sc0) k with
  | inl e'=>
   rw [hg] at hd2
   obtain ⟨rfl,hne⟩:=hd2
   rw [Qab hne]
   exact ⟨_,rfl,_,rfl,rfl,hne⟩
  | inr s=>
   obtain ⟨re2,bo2⟩:=s
   rw [hg] at hd2
   obtain ⟨rfl,rfl,hbr2⟩:=hd2
   obtain ⟨k1,k2⟩:=hk _ _ _ _ _ _ hg
   dsimp only
   have e1:Ev.wr .i64 ((pre.length:Int)+1)=((pre++[(k,l)]).length:Int):=by
    rw [Sy.QbA (by omega)]
    simp
   rw [Qac rfl,e1]
   exact ih (pre++[(k,l)]) re' br' bo2 w (by rw [h]; simp) ⟨by rw [← k1.1,hw.hre],by rw [← k2.1,hw.hbo],hw.hsc,fun i hi=>k2.2 i (hw.sub i hi)⟩ hbr2 (by have:=k1.cf; omega) (fun x hx=>hr x (by simp [hx])) hb (fun v hv=>⟨k2.2 _ (hs v hv).1,(hs v hv).2⟩) (by have:=k2.cf; omega)
theorem Qzt (hp:Qbv p)(hf:Qja f)(ho:HOk p f):∀ (d:Nat) (re bo sc:List Bool) (k:Int),Wf f re bo sc→0≤k→k<((Qaw f).length:Int)→cf re<d→QDj p f (walk p f d) re bo sc k
 | 0,re,bo,sc,k,hw,h0,h1,hc=>absurd hc (Nat.not_lt_zero _)
 | d+1,re,bo,sc,k,hw,h0,h1,hc=>by
  intro br sl a er hbr hsl hlen
  have hvl:(Qae f).length≤1000000:=hf.vars
  obtain ⟨n,hn1,hn2⟩:=QgJ (l:=Qaw f) h0 h1
  have hn:QbM n:=hf.nodes n (List.mem_of_getElem? hn2)
  have hkl:=QgU n hn
  rw [Qoo,show at' f.2.2.2.2.1 k=some n from hn1,Qaa,walk,hn2]
  simp only
  obtain ⟨b',e,ha1,ha2⟩:=QDi p f hp ho n hn re br bo sc sl k er hw.hbo hbr hsl hw.hsc (by omega)
  rw [ha1,Qaa]
  simp only
  cases has:Qlc p f sc bo n with
  | inl e'=>
   rw [has] at ha2
   obtain ⟨rfl,hne⟩:=ha2
   rw [Qab hne]
   exact ⟨_,_,_,_,rfl,rfl,hne⟩
  | inr bo'=>
   rw [has] at ha2
   obtain ⟨rfl,hbr'⟩:=ha2
   rw [Qac rfl,QwC n hn,Qaa,show QcW sl re b' k 0 p f n (kids n) 0=_ from QGA p f sl b' k 0 n (kids n) (by omega) (kids n) [] re rfl hw.hre,Qaa]
   simp only
   cases hm:Qqh re (kids n) with
   | inl re2=>exact ⟨_,_,_,_,rfl,rfl,by decide⟩
   | inr re2=>
    obtain ⟨_,_,hbr2,_,hmr,_,_⟩:=QoA has
    obtain ⟨m1,m2⟩:=Qoy _ _ _ hmr
    have m6:=Qvk _ _ _ hmr
    obtain ⟨m3,m4,m5⟩:=Qoz _ _ _ hm
    by_cases hkn:kb n=[]
    ·have hkids:kids n=[]:=by rw [Qbw,hkn]; rfl
     simp only
     rw [hkids,Qeh,Qab (by simp),Qaa,hkn,QmR]
     exact ⟨_,_,_,_,rfl,rfl,rfl,hbr'⟩
    ·have hlen3:0<(kids n).length:=by rw [Qbw,List.length_map]; exact List.length_pos_iff.2 hkn
     obtain ⟨z,hz1,hz2⟩:=QGB p f hp hf n hn (walk p f d) d (Qkg p f d) (fun re bo sc k hw h0 h1 hc=>Qzt hp hf ho d re bo sc k hw h0 h1 hc) sc sl hsl (kb n) [] re2 b' bo' k rfl
      ⟨by rw [← m3.1,hw.hre],by rw [← m1.1,hw.hbo],hw.hsc,fun i hi=>m1.2 i (hw.sub i hi)⟩ hbr' (by omega)
      (fun x hx=>by
       have hk:x.1∈kids n:=by rw [Qbw]; exact List.mem_map.2 ⟨x,hx,rfl⟩
       obtain ⟨q1,q2,_⟩:=m5 x.1 hk
       have:=QaU q2
       rw [hw.hre] at this
       omega) hbr2 (fun v hv=>⟨(m2 v hv).2,fun h=>by
       have:=hw.sub v.toNat h
       rw [(m2 v hv).1] at this
       cases this⟩) (by omega)
     simp only
     rw [show QcX sl re2 b' k 0 p f n (kids n) 0=some z from hz1,Qaa]
     cases hwl:QmR (walk p f d) (kb n) re2 bo' sc with
     | inl e=>
      rw [hwl] at hz2
      obtain ⟨⟨x1,x2,x3,x4⟩,rfl,rfl,hne⟩:=hz2
      exact ⟨_,_,_,_,rfl,rfl,hne⟩
     | inr s=>
      rw [hwl] at hz2
      obtain ⟨br2,w,rfl,hbr3⟩:=hz2
      exact ⟨_,_,_,_,rfl,rfl,rfl,hbr3⟩
theorem QHW (re br:List Bool)(a e:Int)(m:Nat)(hm:fPar f=(m:Int))(hl:m≤1000000):∀ (j i:Nat) (s:List Int),i+j=m→s=(List.range i).map (fun k:Nat=>(k:Int))→Qc4 re br s p f a e (i:Int)=some ((List.range m).map (fun k:Nat=>(k:Int)))
 | 0,i,s,h,hs=>by
  have:i=m:=by omega
  subst this
  rw [Qho,Qab (show ¬ (i:Int)<fPar f by omega),hs]
 | j+1,i,s,h,hs=>by
  have hsl:s.length=i:=by rw [hs]; simp
  rw [Qho,Qac (show (i:Int)<fPar f by omega),Qac (by omega),Sy.QbA (by omega)]
  exact QHW re br a e m hm hl j (i+1) _ (by omega) (by rw [hs,List.range_succ,List.map_append]; rfl)
theorem QEV (hp:Qbv p)(k:Nat)(f:GFun)(hk:p.2[k]?=some f):∃ w,Qjm p (k:Int)=some (w,chkF p k f):=by
 have hkl:=QaU hk
 have hpl:=hp.funs
 have hf:=hp.all f (List.mem_of_getElem? hk)
 have hvl:(Qae f).length≤1000000:=hf.vars
 have hcl:(Qaw f).length≤1000000:=hf.code
 rw [Qpk,Qab (by omega),Qaa,Qak hk,Bool.not_true,cond_false,QDh p f hp k hk hf,Qaa]
 unfold chkF
 by_cases hh:hdr p k f=0
 ·rw [Qac hh,if_neg (by simpa using hh),Qai hk,Qaa]
  obtain ⟨ho,hbody,_⟩:=QDe hh
  cases he:fExt f with
  | true=>rw [show f.2.2.2.2.2.2=true from he]; exact ⟨_,rfl⟩
  | false=>
   obtain ⟨hb0,hb1⟩:=hbody he
   obtain ⟨hp0,hp1⟩:=ho.par
   have hbn:(QbU f).toNat<(Qaw f).length:=by omega
   have hparN:((fPar f).toNat:Int)=fPar f:=Int.toNat_of_nonneg hp0
   have hpn:(fPar f).toNat≤(Qae f).length:=by omega
   rw [show f.2.2.2.2.2.2=false from he,cond_false,Qab (show ¬ ((Qaw f).length:Int)<0 by omega),Int.toNat_natCast,Qac (show (Qaw f).length * 1≤140737488355328 by omega),Qab (show ¬ ((Qae f).length:Int)<0 by omega),Int.toNat_natCast,Qac (show (Qae f).length * 1≤140737488355328 by omega)]
   rw [show Qc4 (List.replicate (Qaw f).length false) (List.replicate (Qae f).length false) [] p f 0 0 0=_ from QHW p f _ _ 0 0 (fPar f).toNat hparN.symm (by omega) (fPar f).toNat 0 [] (by omega) rfl,Qaa]
   rw [show at' (List.replicate (Qaw f).length false) f.2.2.2.2.2.1=some false from Qhi hb0 (by rw [List.getElem?_replicate,if_pos hbn]),Qaa]
   have hcfp:cf (parS (Qae f).length (fPar f).toNat)=(Qae f).length - (fPar f).toNat:=by
    unfold parS
    have e1:∀ (a:Nat) (l:List Bool),cf (List.replicate a true++l)=cf l:=by
     intro a l
     induction a with
     | zero=>rfl
     | succ a ih=>rw [List.replicate_succ,List.cons_append]; exact ih
    have e2:∀ a:Nat,cf (List.replicate a false)=a:=by
     intro a
     induction a with
     | zero=>rfl
     | succ a ih=>rw [List.replicate_succ]; show cf _+1=_; rw [ih]
    rw [e1,e2]
   obtain ⟨re',br',w,e,hn1,hn2⟩:=Qzt p f hp hf ho ((Qaw f).length+1) ((List.replicate (Qaw f).length false).set (QbU f).toNat true) (parS (Qae f).length (fPar f).toNat) (parS (Qae f).length (fPar f).toNat) (QbU f) ⟨by simp,QdV _ _ hpn,QdV _ _ hpn,fun i h=>h⟩ hb0 hb1 (Nat.lt_succ_of_lt (cf0 _ _ hbn))
    (List.replicate (Qae f).length false) ((List.range (fPar f).toNat).map (fun k:Nat=>(k:Int))) 0 0
    ⟨by rw [QdV _ _ hpn]; simp,fun i hi=>by
     rw [QdV _ _ hpn] at hi
     rw [Qpw _ _ i hpn hi,List.getElem?_replicate,if_pos hi]
     congr 1
     rw [Bool.eq_iff_iff]
     simp⟩
    ⟨fun v=>by
     constructor
     ·intro h
      simp only [List.mem_map,List.mem_range] at h
      obtain ⟨j,hj,rfl⟩:=h
      exact ⟨by omega,by rw [Int.toNat_natCast,Qpw _ _ j hpn (by omega),decide_eq_true hj]⟩
     ·rintro ⟨h0,h1⟩
      have hlt:=QaU h1
      rw [QdV _ _ hpn] at hlt
      rw [Qpw _ _ _ hpn hlt] at h1
      simp only [osi,decide_eq_true_eq] at h1
      simp only [List.mem_map,List.mem_range]
      exact ⟨v.toNat,h1,by omega⟩⟩
    (by rw [hcfp]; simp; omega)
   rw [show Qd3 ((List.replicate (Qaw f).length false).set f.2.2.2.2.2.1.toNat true) (List.replicate (Qae f).length false) ((List.range (fPar f).toNat).map (fun k:Nat=>(k:Int))) 0 0 p f f.2.2.2.2.2.1=_ from hn1,Qaa]
   simp only
   rw [if_neg ft]
   cases hw:walk p f ((Qaw f).length+1) ((List.replicate (Qaw f).length false).set (QbU f).toNat true) (parS (Qae f).length (fPar f).toNat) (parS (Qae f).length (fPar f).toNat) (QbU f) with
   | inl e'=>
    rw [hw] at hn2
    obtain ⟨rfl,hne⟩:=hn2
    rw [Qab hne]
    exact ⟨_,rfl⟩
   | inr s=>
    rw [hw] at hn2
    obtain ⟨re2,bo2⟩:=s
    obtain ⟨rfl,rfl,hbr⟩:=hn2
    obtain ⟨k1,k2⟩:=Qkg p f _ _ _ _ _ _ _ hw
    have hrl:re'.length=(Qaw f).length:=by rw [← k1.1]; simp
    have hbl:bo2.length=(Qae f).length:=by rw [← k2.1,QdV _ _ hpn]
    have hbrl:br'.length=(Qae f).length:=hbr.len.trans hbl
    show ∃ w',_=some (w',if re'.all id=false then (3:Int) else if bo2.all id=false then 3 else 0)
    rw [Qac rfl,Qdp (L:=fun i=>QeA re' br' f w 0 i) (l:=re') (p:=fun b=>!b) (A:=fun j=>.inl (j:Int)) (B:=.inr ()) (fun i b hb=>by
     have:=QaU hb
     rw [Qhp,Qac (show (i:Int)<((Qaw f).length:Int) by omega),Qai hb,Qaa,Qal hb (by omega)]
     cases b<;>rfl) (by rw [Qhp,Qab (show ¬ (re'.length:Int)<((Qaw f).length:Int) by omega)]),Qaa]
    have hall:re'.all id=!(re'.any fun b=>!b):=by rw [← List.not_all_eq_any_not,Bool.not_not]; rfl
    rw [hall,← Qcn _ re' 0]
    cases Qjl (fun b=>!b) 0 re' with
    | some j=>exact ⟨_,rfl⟩
    | none=>
     have h4:=Qnp (L:=fun i=>Qc7 re' br' f w 0 i) (l:=br') (p:=id) (A:=.inl ()) (B:=.inr ()) (fun i b hb=>by
      have:=QaU hb
      rw [Qhq,Qac (show (i:Int)<((Qae f).length:Int) by omega),Qai hb,Qaa,Qal hb (by omega),Qan]
      rfl) (by rw [Qhq,Qab (show ¬ (br'.length:Int)<((Qae f).length:Int) by omega)]) ((Qae f).length - (fPar f).toNat) (fPar f).toNat (by omega)
     rw [hparN] at h4
     have hb2:(br'.drop (fPar f).toNat).all id=bo2.all id:=by
      rw [Bool.eq_iff_iff,List.all_eq_true,List.all_eq_true]
      constructor
      ·intro h x hx
       obtain ⟨i,hi⟩:=List.getElem?_of_mem hx
       have hil:=QaU hi
       have:=hbr.at_ i hil
       rw [hi] at this
       simp only [osi] at this
       by_cases hip:(i:Int)<fPar f
       ·rw [this,decide_eq_true hip]; rfl
       ·have hbi:br'[i]?=some (br'[i]'(by rw [hbr.len]; exact hil)):=List.getElem?_eq_getElem _
        have hm:br'[i]'(by rw [hbr.len]; exact hil)∈br'.drop (fPar f).toNat:=by
         apply List.mem_of_getElem? (i:=i - (fPar f).toNat)
         rw [List.getElem?_drop,show (fPar f).toNat+(i - (fPar f).toNat)=i by omega,hbi]
        have h3:br'[i]'(by rw [hbr.len]; exact hil)=true:=h _ hm
        rw [this,hbi,h3,decide_eq_false hip]
        rfl
      ·intro h x hx
       obtain ⟨i,hi⟩:=List.getElem?_of_mem hx
       rw [List.getElem?_drop] at hi
       have hil:=QaU hi
       rw [hbr.len] at hil
       have h1:=hbr.at_ _ hil
       rw [hi,decide_eq_false (by omega),Bool.false_or] at h1
       have:=h _ (List.mem_of_getElem? h1)
       simpa using this
     simp only [Option.isSome_none,Bool.not_false]
     rw [show Qc7 re' br' f w 0 f.2.1=_ from h4,Qaa,hb2]
     cases bo2.all id with
     | false=>exact ⟨_,rfl⟩
     | true=>exact ⟨_,rfl⟩
 ·rw [Qab hh,if_pos hh]
  exact ⟨_,rfl⟩
theorem QDk (hp:Qbv p):QkC p=some (chk p):=by
 have hpl:=hp.funs
 rw [QsS,QAB p.1 hp.Qou,Qaa]
 unfold chk
 by_cases hd:chkD p.1=0
 ·rw [Qac hd,if_neg (by simpa using hd)]
  by_cases h6:128<(p.2.length:Int)
  ·rw [Qac h6,if_pos h6]
  ·rw [Qab h6,if_neg h6]
   have key:∀ (r pre:List GFun),p.2=pre++r→QeR p (pre.length:Int)=some (if chkL p pre.length r=0 then .inl () else .inr (chkL p pre.length r)):=by
    intro r
    induction r with
    | nil=>
     intro pre h
     rw [QjQ,Qab (by rw [h]; simp)]
     rfl
    | cons f r ih=>
     intro pre h
     have hk:p.2[pre.length]?=some f:=by rw [h,List.getElem?_append_right (Nat.le_refl _)]; simp
     obtain ⟨w,hw⟩:=QEV p hp pre.length f hk
     rw [QjQ,Qak hk,cond_true,hw,Qaa]
     simp only
     rw [chkL]
     by_cases he:chkF p pre.length f=0
     ·rw [Qac he,if_pos he,Qal hk (by omega)]
      have:=ih (pre++[f]) (by rw [h]; simp)
      simpa using this
     ·rw [Qab he,if_neg he,if_neg he]
   rw [show QeR p 0=_ from key p.2 [] rfl,Qaa]
   simp only [List.length_nil]
   by_cases he:chkL p 0 p.2=0
   ·rw [if_pos he,he]
   ·rw [if_neg he]
 ·rw [Qab hd,if_pos hd]
end
end Go.Proofs.YtkecfadnfnnfaaaGreatDoor.LabB
