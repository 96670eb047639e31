/- Of the models of the ownership statements: what a node consumes and reads. -/
import Derived.Test.YtkecfadnfnnfaaaGreatDoorPlB11
set_option linter.unusedVariables false
set_option linter.unusedSimpArgs false
namespace Go.Proofs.YtkecfadnfnnfaaaGreatDoor.LabB.O
open Go Go.Ev Go.Sy Go.Proofs.YtkecfadnfnnfaaaGreatDoor.LabB
theorem QzI {p:Qae}{f:GFun}{sc bo:List Bool}{n:Qaf}{e:Int}(h:Qjd p f sc bo n=.inl e):e≠0:=by
 unfold Qjd at h
 split at h
 ·cases h; decide
 split at h
 ·cases h; decide
 split at h
 ·cases h; decide
 split at h
 ·cases h; decide
 split at h
 ·cases h; decide
 split at h
 ·cases h; decide
 split at h
 ·cases h; decide
 cases h
theorem QvM {g:List Bool→List Bool→List Bool→Int→Int⊕(List Bool×List Bool)}(hg:∀ re bo sc k e,g re bo sc k=.inl e→e≠0):∀ (r:List (Int×List Int)) (re bo sc:List Bool) (e:Int),QjP g r re bo sc=.inl e→e≠0
 | [],re,bo,sc,e,h=>by cases h
 | (k,l)::r,re,bo,sc,e,h=>by
  rw [QjP] at h
  split at h
  ·rename_i e2 h2; cases h; exact hg _ _ _ _ _ h2
  ·exact QvM hg r _ _ _ _ h
theorem Qum (p:Qae)(f:GFun):∀ (d:Nat) (re bo sc:List Bool) (k e:Int),walk p f d re bo sc k=.inl e→e≠0
 | 0,re,bo,sc,k,e,h=>by cases h; decide
 | d+1,re,bo,sc,k,e,h=>by
  rw [walk] at h
  split at h
  ·cases h; decide
  ·split at h
   ·rename_i e2 h2; cases h; exact QzI h2
   ·split at h
    ·cases h; decide
    ·exact QvM (Qum p f d) _ _ _ _ _ h
theorem Qyx (p:Qae):∀ (fs:List GFun) (i:Nat),chkL p i fs=0→∀ (j:Nat) f,fs[j]?=some f→chkF p (i+j) f=0
 | [],i,h,j,f,hf=>by simp at hf
 | g::fs,i,h,j,f,hf=>by
  rw [chkL] at h
  split at h
  ·rename_i hg
   cases j with
   | zero=>simp at hf; subst hf; exact hg
   | succ j=>
    have:=Qyx p fs (i+1) h j f (by simpa using hf)
    rw [show i+(j+1)=i+1+j by omega]
    exact this
  ·rename_i hg; exact absurd h hg
theorem Qyy {p:Qae}(h:chk p=0):∀ (j:Nat) f,p.2[j]?=some f→chkF p j f=0:=by
 unfold chk at h
 split at h
 ·rename_i h1; exact absurd h h1
 ·split at h
  ·cases h
  ·intro j f hf
   have:=Qyx p p.2 0 h j f hf
   rwa [Nat.zero_add] at this
structure Qbu (p:Qae)(f:GFun)(sc:List Bool)(n:Qaf):Prop where
 form:QfF n=true
 use:∀ v∈uses n,0≤v∧sc[v.toNat]?=some true
 rng:∀ v∈binds n,0≤v∧v<((Qad f).length:Int)
 num:Qic p n=false
 typ:Qhm p f n=true
 mode:∀ v∈binds n,rdOf f v=(decide (nOp n=9)&&(!Qfr n&&!flat p.1 (kd f v)))
 len:(binds n).length≤(Qad f).length
def Ok (p:Qae)(f:GFun):Nat→List Bool→Int→Prop
 | 0,_,_=>False
 | d+1,sc,k=>0≤k∧sc.length=(Qad f).length∧∃ n,(Qap f)[k.toNat]?=some n∧Qbu p f sc n∧∀ x∈kb n,Ok p f d (setS true x.2 sc) x.1
theorem QzJ {c l}(h:Qo5 c l=true):∀ v∈l,0≤v∧c[v.toNat]?=some true:=fun v hv=>by
 unfold Qo5 at h
 have:=List.all_eq_true.1 h v hv
 simpa using this
theorem QHx (p:Qae)(f:GFun):∀ (d:Nat) (re bo sc:List Bool) (k:Int) (re' bo':List Bool),walk p f d re bo sc k=.inr (re',bo')→LabB.Wf f re bo sc→0≤k→Ok p f d sc k:=by
 intro d
 induction d with
 | zero=>intro re bo sc k re' bo' h hw hk; cases h
 | succ d ih=>
  intro re bo sc k re' bo' h hw hk
  unfold walk at h
  cases hn:(Qap f)[k.toNat]? with
  | none=>rw [hn] at h; cases h
  | some n=>
   rw [hn] at h
   simp only at h
   cases ha:Qjd p f sc bo n with
   | inl e=>rw [ha] at h; cases h
   | inr bo1=>
    rw [ha] at h
    simp only at h
    cases hm:QmA re (kids n) with
    | inl e=>rw [hm] at h; cases h
    | inr re1=>
     rw [hm] at h
     simp only at h
     obtain ⟨a1,a2,a3,a4,a5,a6,a7⟩:=Qnw ha
     obtain ⟨m1,m2,m3⟩:=QlK _ _ _ hm
     obtain ⟨b1,b2⟩:=Qnv _ _ _ a5
     have hlen:(binds n).length≤(Qad f).length:=by
      have:=Qul _ _ _ a5
      have h2:=QzE bo
      rw [hw.hbo] at h2
      omega
     refine ⟨hk,hw.hsc,n,hn,⟨a1,QzJ a2,a3,a4,a6,fun v hv=>by
      have:=List.all_eq_true.1 a7 v hv
      simpa using this,hlen⟩,?_⟩
     have hkid:∀ x∈kb n,0≤x.1:=fun x hx=>(m3 x.1 (by rw [QaU]; exact List.mem_map_of_mem hx)).1
     have w1:LabB.Wf f re1 bo1 sc:=⟨by rw [← m1.1]; exact hw.hre,by rw [← b1.1]; exact hw.hbo,hw.hsc,fun i hi=>b1.2 i (hw.sub i hi)⟩
     have hall:∀ (r:List (Int×List Int)) (re bo:List Bool),(∀ x∈r,0≤x.1∧∀ v∈x.2,bo1[v.toNat]?=some true)→LabB.Wf f re bo sc→Le bo1 bo→∀ q,QjP (walk p f d) r re bo sc=.inr q→∀ x∈r,Ok p f d (setS true x.2 sc) x.1:=by
      intro r
      induction r with
      | nil=>intro re bo _ _ _ q _ x hx; cases hx
      | cons y r ihr=>
       intro re bo hr hw hle q hq x hx
       obtain ⟨k1,l1⟩:=y
       simp only [QjP] at hq
       cases hg:walk p f d re bo (setS true l1 sc) k1 with
       | inl e=>rw [hg] at hq; cases hq
       | inr s=>
        obtain ⟨re2,bo2⟩:=s
        rw [hg] at hq
        simp only at hq
        have hy:=hr (k1,l1) (by simp)
        have w2:LabB.Wf f re bo (setS true l1 sc):=⟨hw.hre,hw.hbo,by rw [Qbv]; exact hw.hsc,fun i hi=>by
         rw [Qie] at hi
         split at hi
         ·rename_i hh
          obtain ⟨⟨v,hv,rfl⟩,_⟩:=hh
          exact hle.2 _ (hy.2 v hv)
         ·exact hw.sub i hi⟩
        simp only [List.mem_cons] at hx
        rcases hx with rfl |hx
        ·exact ih re bo _ _ re2 bo2 hg w2 hy.1
        ·obtain ⟨c1,c2⟩:=Qho p f d _ _ _ _ _ _ hg
         exact ihr re2 bo2 (fun z hz=>hr z (by simp [hz])) ⟨by rw [← c1.1]; exact hw.hre,by rw [← c2.1]; exact hw.hbo,hw.hsc,fun i hi=>c2.2 i (hw.sub i hi)⟩ (hle.trans c2) q hq x hx
     exact hall (kb n) re1 bo1 (fun x hx=>⟨hkid x hx,fun v hv=>(b2 v (QjQ (k:=x.1) (l:=x.2) hx v hv)).2⟩) w1 (Le.refl _) _ h
structure QGW (p:Qae)(f:GFun):Prop where
 hok:HOk p f
 QHG:∀ v∈Qad f,v.2=true→flat p.1 v.1=false
 ext:fExt f=true→Qap f=[]∧((Qad f).length:Int)=fPar f
 body:fExt f=false→Ok p f ((Qap f).length+1) (parS (Qad f).length (fPar f).toNat) (Qa0 f)
theorem QGX (p:Qae)(k:Nat)(f:GFun)(h:chkF p k f=0):QGW p f:=by
 unfold chkF at h
 split at h
 ·rename_i h1; exact absurd h h1
 rename_i hh
 have hh:hdr p k f=0:=by simpa using hh
 obtain ⟨ho,hbody,hext,h1,h2,h3,h4⟩:=Qyu hh
 refine ⟨ho,h3,hext,fun he=>?_⟩
 rw [if_neg (by rw [he]; simp)] at h
 obtain ⟨hb0,hb1⟩:=hbody he
 obtain ⟨hp0,hp1⟩:=ho.par
 cases hw:walk p f ((Qap f).length+1) ((List.replicate (Qap f).length false).set (Qa0 f).toNat true) (parS (Qad f).length (fPar f).toNat) (parS (Qad f).length (fPar f).toNat) (Qa0 f) with
 | inl e=>
  rw [hw] at h
  exact absurd h (by simpa using Qum p f _ _ _ _ _ _ hw)
 | inr s=>
  obtain ⟨re',bo'⟩:=s
  exact QHx p f _ _ _ _ _ re' bo' hw ⟨by simp,Qdg _ _ (by omega),Qdg _ _ (by omega),fun i hi=>hi⟩ hb0
end Go.Proofs.YtkecfadnfnnfaaaGreatDoor.LabB.O
namespace Go.Proofs.YtkecfadnfnnfaaaGreatDoor.LabB.O
open Go Go.Ev Go.Sy Go.Proofs.YtkecfadnfnnfaaaGreatDoor.LabB
theorem Qun {α:Type}{q:Nat→α→Bool}:∀ (l:List α) (k i:Nat),allI q k l=true→∀ x,l[i]?=some x→q (k+i) x=true
 | [],k,i,h,x,hx=>by simp at hx
 | y::l,k,i,h,x,hx=>by
  rw [allI,Bool.and_eq_true] at h
  cases i with
  | zero=>simp at hx; subst hx; exact h.1
  | succ i=>
   have:=Qun l (k+1) i h.2 x (by simpa using hx)
   rw [show k+(i+1)=k+1+i by omega]
   exact this
def flV (p:Qae)(f:GFun)(v:Int):Bool:=flat p.1 (kd f v)
def own (p:Qae)(f:GFun)(v:Int):Bool:=!flV p f v&&!rdOf f v
def Qje (p:Qae)(f:GFun)(l:List Int):List Int:=l.filter fun v=>decide (0≤v)&&!flV p f v
def QmB (p:Qae)(f h:GFun)(rd:Bool):Nat→List Int→List Int
 | _,[]=>[]
 | i,v::l=>if (rdOf h (i:Int)==rd&&!flV p f v)=true then v::QmB p f h rd (i+1) l else QmB p f h rd (i+1) l
def Qif (p:Qae)(f:GFun)(g:Int)(rd:Bool)(l:List Int):List Int:=match p.2[g.toNat]? with |some h=>QmB p f h rd 0 l |none=>[]
def Qao (p:Qae)(f:GFun)(n:Qaf):List Int:=
 if nOp n=0∨nOp n=5∨nOp n=3 then Qje p f (QaG n) else if nOp n=9 then (if Qfr n=true then Qje p f (QaG n) else [])
 else if nOp n=6∨nOp n=7 then Qif p f (nFun n) false (QaG n) else if nOp n=8 then Qje p f (QaG n)++Qif p f (nFun n) false (Qfq n) else []
def reads (p:Qae)(f:GFun)(n:Qaf):List Int:=
 if nOp n=4 then Qje p f (QaG n) else if nOp n=9 then (if Qfr n=true then [] else Qje p f (QaG n))
 else if nOp n=6∨nOp n=7 then Qif p f (nFun n) true (QaG n) else if nOp n=8 then Qif p f (nFun n) true (Qfq n) else []
def Qbp (p:Qae)(f:GFun):List Bool:=(Qad f).map fun x=>flat p.1 x.1
section
variable {p:Qae} {f:GFun} {sc:List Bool} {n:Qaf}
theorem Qbu.op (h:Qbu p f sc n):0≤nOp n∧nOp n<10:=by
 have:=h.form
 unfold QfF at this
 simp only [Bool.and_eq_true,decide_eq_true_eq] at this
 omega
theorem Qbu.ar (h:Qbu p f sc n):fArgs (nOp n)<0∨((QaG n).length:Int)=fArgs (nOp n):=by
 have:=h.form
 unfold QfF at this
 simp only [Bool.and_eq_true,decide_eq_true_eq,Bool.or_eq_true] at this
 exact this.1.1.1.1.1.1.1.1.2
theorem Qbu.urng (h:Qbu p f sc n)(hs:sc.length=(Qad f).length):∀ v∈uses n,0≤v∧v<((Qad f).length:Int):=fun v hv=>by
 obtain ⟨h0,h1⟩:=h.use v hv
 have:=Qa7 h1
 omega
theorem Qbu.args (h:Qbu p f sc n)(hs:sc.length=(Qad f).length):∀ v∈QaG n,0≤v→v<((Qad f).length:Int):=fun v hv h0=>by
 have h1:nOp n≠1:=fun h1=>by
  have:=h.ar
  rw [h1,show fArgs 1=0 from rfl] at this
  have:QaG n=[]:=List.eq_nil_of_length_eq_zero (by omega)
  rw [this] at hv
  cases hv
 have ho:=h.op
 refine (h.urng hs v ?_).2
 unfold uses
 rw [if_neg (by omega)]
 split
 ·simp [hv,h0]
 ·exact hv
theorem Qbu.QGY (h:Qbu p f sc n)(h8:nOp n≠8):∀ v∈QaG n,0≤v:=fun v hv=>by
 have h1:nOp n≠1:=fun h1=>by
  have:=h.ar
  rw [h1,show fArgs 1=0 from rfl] at this
  have:QaG n=[]:=List.eq_nil_of_length_eq_zero (by omega)
  rw [this] at hv
  cases hv
 have ho:=h.op
 refine (h.use v ?_).1
 unfold uses
 rw [if_neg (by omega),if_neg h8]
 exact hv
theorem Qbu.one (h:Qbu p f sc n)(ho:nOp n=0∨nOp n=4∨nOp n=5∨nOp n=9):QaG n=[arg0 n]:=by
 have:=h.ar
 unfold fArgs at this
 rw [if_pos ho] at this
 unfold arg0
 match ha:QaG n with
 | []=>rw [ha] at this; simp at this
 | [v]=>rfl
 | v::w::r=>rw [ha] at this; simp at this; omega
structure QvN (p:Qae)(f:GFun)(g:Int)(l:List Int)(h:GFun):Prop where
 at_:at' p.2 g=some h
 get:p.2[g.toNat]?=some h
 len:l.length≤(Qad h).length
 rng:∀ v∈l,0≤v∧v<((Qad f).length:Int)
theorem Qpv {g:Int}{l:List Int}(hc:Qii p f g l=true):∃ h,p.2[g.toNat]?=some h∧l.length≤(Qad h).length∧∀ v∈l,0≤v:=by
 unfold Qii QjO at hc
 cases hh:p.2[g.toNat]? with
 | none=>rw [hh] at hc; cases hc
 | some h=>
  rw [hh] at hc
  simp only at hc
  split at hc
  ·cases hc
  ·rename_i ts hts
   split at hts
   ·cases hts
   ·rename_i hb
    simp only [osi] at hts
    unfold tyL at hc
    rw [Bool.and_eq_true,decide_eq_true_eq] at hc
    refine ⟨h,rfl,?_,fun v hv=>?_⟩
    ·rw [hc.1,← hts,List.length_map,List.length_take]; omega
    ·obtain ⟨i,hi,rfl⟩:=List.getElem_of_mem hv
     have:=Qun _ 0 i hc.2 _ (List.getElem?_eq_getElem hi)
     rw [if_neg (by omega),Bool.and_eq_true,decide_eq_true_eq] at this
     exact this.1
theorem Qbu.call (h:Qbu p f sc n)(hs:sc.length=(Qad f).length)(ho:nOp n=6∨nOp n=7):∃ g,QvN p f (nFun n) (QaG n) g:=by
 have ht:=h.typ
 unfold Qhm at ht
 rw [if_neg (by omega),if_neg (by omega),if_neg (by omega),if_neg (by omega),if_neg (by omega),if_neg (by omega)] at ht
 have hc:Qii p f (nFun n) (QaG n)=true:=by
  split at ht
  ·rw [Bool.and_eq_true] at ht; exact ht.1
  ·rw [if_pos (by omega),Bool.and_eq_true] at ht; exact ht.1
 have hb:=h.num
 unfold Qic at hb
 rw [Bool.or_eq_false_iff] at hb
 have hf:fFun (nOp n)=true:=by unfold fFun; rw [decide_eq_true_eq]; omega
 rw [hf,Bool.true_and,Bool.not_eq_false',decide_eq_true_eq] at hb
 obtain ⟨g,h1,h2,h3⟩:=Qpv hc
 exact ⟨g,Qdl hb.1.1 h1,h1,h2,fun v hv=>⟨h3 v hv,h.args hs v hv (h3 v hv)⟩⟩
theorem Qbu.hole (h:Qbu p f sc n)(hs:sc.length=(Qad f).length)(ho:nOp n=8):∃ g,QvN p f (nFun n) (Qfq n) g:=by
 have ht:=h.typ
 unfold Qhm at ht
 rw [if_neg (by omega),if_neg (by omega),if_neg (by omega),if_neg (by omega),if_neg (by omega),if_neg (by omega),if_neg (by omega),if_neg (by omega),if_pos ho] at ht
 have hc:Qii p f (nFun n) (Qfq n)=true:=by
  split at ht
  ·cases ht
  ·simp only [Bool.and_eq_true] at ht; exact ht.1.2
 have hb:=h.num
 unfold Qic at hb
 rw [Bool.or_eq_false_iff] at hb
 have hf:fFun (nOp n)=true:=by unfold fFun; rw [decide_eq_true_eq]; omega
 rw [hf,Bool.true_and,Bool.not_eq_false',decide_eq_true_eq] at hb
 obtain ⟨g,h1,h2,h3⟩:=Qpv hc
 refine ⟨g,Qdl hb.1.1 h1,h1,h2,fun v hv=>⟨h3 v hv,(h.urng hs v ?_).2⟩⟩
 unfold uses
 rw [if_neg (by omega),if_pos ho]
 simp [hv,h3 v hv]
theorem Qbu.field (h:Qbu p f sc n)(ho:nOp n=9):∀ b∈nBr n,b.1≠[]→flV p f (arg0 n)=false:=fun b hb hne=>by
 have ht:=h.typ
 unfold Qhm at ht
 rw [if_neg (by omega),if_neg (by omega),if_neg (by omega),if_neg (by omega),if_neg (by omega),if_neg (by omega),if_neg (by omega),if_neg (by omega),if_neg (by omega)] at ht
 simp only [Bool.and_eq_true] at ht
 obtain ⟨i,hi,rfl⟩:=List.getElem_of_mem hb
 have:=Qun _ 0 i ht.2 _ (List.getElem?_eq_getElem hi)
 rw [Nat.zero_add] at this
 cases hc:(QdW p.1 (kd f (arg0 n)))[i]? with
 | none=>rw [hc] at this; cases this
 | some c=>
  rw [hc] at this
  simp only at this
  unfold tyL at this
  rw [Bool.and_eq_true,decide_eq_true_eq] at this
  unfold flV flat
  rw [Bool.and_eq_false_iff]
  refine Or.inr ?_
  cases hall:(QdW p.1 (kd f (arg0 n))).all (fun c=>decide (c.2.length=0)) with
  | false=>rfl
  | true=>
   have:=List.all_eq_true.1 hall c (List.mem_of_getElem? hc)
   rw [decide_eq_true_eq] at this
   exact absurd (List.eq_nil_of_length_eq_zero (by omega)) hne
end
theorem QGZ (d:List Qah)(h:Qbo d)(t:Int)(ht:isTy d t=true):Qof d t=some (flat d t):=by
 rw [Quc]
 have hl:=h.len
 have ht':=ht
 rw [Qid] at ht'
 unfold flat
 rw [ht,Bool.true_and]
 by_cases h0:t=0
 ·rw [Qac h0]
  subst h0
  rfl
 ·rw [Qab h0]
  obtain ⟨x,hx,hc,hm⟩:=Qhn (d:=d) (t:=t) (by omega) (by omega)
  have hcl:=h.cons x hm
  rw [Qhl (by omega) (by omega),hx,Qaa,hc,QaF (L:=fun i=>QgD x.2 i) (l:=x.2) (p:=fun c=>decide (c.2.length=0)) (A:=.inl ()) (B:=.inr ()) (fun i c hx2=>by
      rw [Qka,Qal hx2,cond_true,Qag hx2,Qaa,Qam hx2 (by omega)]
      by_cases hz:c.2.length=0
      ·rw [Qab (by omega),if_pos (by simpa using hz)]
      ·rw [Qac (by omega),if_neg (by simpa using hz)]) (by rw [Qka,Qar,cond_false]),Qaa]
  cases x.2.all _<;>rfl
section
variable (p:Qae) (f:GFun) {sc:List Bool}
theorem QpB {v:Int}(h0:0≤v)(h1:v<((Qad f).length:Int)):at' (Qbp p f) v=some (flV p f v):=by
 obtain ⟨x,hx,hx',hk,_⟩:=Qot f h0 h1
 refine Qdl h0 ?_
 unfold Qbp flV
 rw [List.getElem?_map,hx',hk]
 rfl
theorem Qyz (hp:QbS p)(ho:HOk p f){v:Int}(h0:0≤v)(h1:v<((Qad f).length:Int)):QgJ p f v=some (flV p f v):=by
 obtain ⟨x,hx,hx',hk,_⟩:=Qot f h0 h1
 rw [Qub,show at' f.2.2.2.1 v=_ from hx,Qaa,QGZ p.1 hp.Qnr _ (ho.vars x (List.mem_of_getElem? hx')),Qaa]
 unfold flV
 rw [hk]
theorem QCn (ro:List Int)(l:List Int)(hl:l.length≤1000000)(hr:∀ v∈l,0≤v→v<((Qad f).length:Int)):QaJ (Qbp p f) ro p.1 p.2 f.1 f.2.1 f.2.2.1 f.2.2.2.1 f.2.2.2.2.1 f.2.2.2.2.2.1 f.2.2.2.2.2.2 l=some (Qje p f l):=by
 rw [Qku]
 have:=QaM (L:=fun s i=>Qbn (Qbp p f) ro s p.1 p.2 f.1 f.2.1 f.2.2.1 f.2.2.2.1 f.2.2.2.2.1 f.2.2.2.2.2.1 f.2.2.2.2.2.2 l (l.length:Int) i) (l:=l) (F:=fun s v=>if (decide (0≤v)&&!flV p f v)=true then s++[v] else s) (E:=id) (fun i s=>s.length≤i)
  (fun s i v hv hI=>⟨by
   have hI':s.length≤i:=hI
   have:=Qa7 hv
   rw [Qen,Qal hv,cond_true,Qag hv,Qaa,Qam hv (by omega)]
   by_cases h0:v<0
   ·rw [Qac h0,Qaa,cond_false,QaP (show ¬ 0≤v by omega)]
    rfl
   ·rw [Qab h0,QpB p f (by omega) (hr v (List.mem_of_getElem? hv) (by omega)),Qaa,Qaa,QbE (show 0≤v by omega),Bool.true_and,Qac (show (s.length+1) * 8≤35184372088832 by omega)]
    cases flV p f v<;>rfl,Nat.le_trans (Qoq _ _ _) (by have:=hI; omega)⟩)
  (fun s hI=>by rw [Qen,Qar,cond_false]; rfl) [] (by simp)
 rw [this,foldl_filter]
 rfl
theorem QvO (hp:QbS p)(ho:HOk p f)(l:List Int)(hl:l.length≤1000000)(hr:∀ v∈l,0≤v→v<((Qad f).length:Int)):QcI p f l=some (Qje p f l):=by
 rw [Qr0]
 have:=QaM (L:=fun s i=>Qc1 s p f l i) (l:=l) (F:=fun s v=>if (decide (0≤v)&&!flV p f v)=true then s++[v] else s) (E:=id) (fun i s=>s.length≤i)
  (fun s i v hv hI=>⟨by
   have hI':s.length≤i:=hI
   have:=Qa7 hv
   rw [Qi8,Qal hv,cond_true,Qag hv,Qaa,Qam hv (by omega)]
   by_cases h0:v<0
   ·rw [Qac h0,QaP (show ¬ 0≤v by omega)]
    rfl
   ·rw [Qab h0,Qyz p f hp ho (by omega) (hr v (List.mem_of_getElem? hv) (by omega)),Qaa,QbE (show 0≤v by omega),Bool.true_and,Qac (show (s.length+1) * 8≤35184372088832 by omega)]
    cases flV p f v<;>rfl,Nat.le_trans (Qoq _ _ _) (by have:=hI; omega)⟩)
  (fun s hI=>by rw [Qi8,Qar,cond_false]; rfl) [] (by simp)
 rw [this,foldl_filter]
 rfl
theorem Qrw (h:GFun)(rd:Bool):∀ (l:List Int) (i:Nat),(QmB p f h rd i l).length≤l.length
 | [],i=>Nat.le_refl _
 | v::l,i=>by
  have:=Qrw h rd l (i+1)
  rw [QmB]
  split<;>simp only [List.length_cons]<;>omega
theorem Qov (ro:List Int)(n:Qaf)(l:List Int)(h:GFun)(hc:QvN p f (nFun n) l h)(hl:l.length≤1000000):∀ (r pre rd co:List Int),l=pre++r→rd.length≤1000000+pre.length→co.length≤1000000+pre.length→
  Qas (Qbp p f) ro rd co p.1 p.2 f.1 f.2.1 f.2.2.1 f.2.2.2.1 f.2.2.2.2.1 f.2.2.2.2.2.1 f.2.2.2.2.2.2 n l (l.length:Int) (pre.length:Int)=some (rd++QmB p f h true pre.length r,co++QmB p f h false pre.length r):=by
 intro r
 induction r with
 | nil=>
  intro pre rd co hl' h1 h2
  rw [QcW]
  subst hl'
  rw [Qdd (Qd5 pre)]
  simp [QmB]
 | cons v r ih=>
  intro pre rd co hl' h1 h2
  obtain ⟨h0,h3⟩:=hc.rng v (by rw [hl']; simp)
  have hlen:=hc.len
  have hln:l.length=pre.length+(r.length+1):=by rw [hl']; simp
  obtain ⟨x,hx,hx',_,hrd⟩:=Qot h (v:=(pre.length:Int)) (by omega) (by omega)
  rw [QcW]
  have e1:decide ((pre.length:Int)<(l.length:Int))=true:=decide_eq_true (by omega)
  have e2:at' l (pre.length:Int)=some v:=by rw [hl']; exact Qyj pre v r
  have e3:Ev.wr .i64 ((pre.length:Int)+1)=((pre++[v]).length:Int):=by rw [Sy.QaZ (by omega)]; simp
  rw [e1,cond_true,e2,Qaa,QpB p f h0 h3,Qaa,show at' p.2 n.2.2.2.2.2.1=some h from hc.at_,Qaa,show at' h.2.2.2.1 (pre.length:Int)=some x from hx,Qaa,e3,QmB,QmB,hrd]
  have hpl:(pre++[v]).length=pre.length+1:=by simp
  cases hf:flV p f v with
  | true=>
   rw [cond_true,ih (pre++[v]) rd co (by rw [hl']; simp) (by omega) (by omega),hpl]
   simp
  | false=>
   rw [cond_false,Qac (show (rd.length+1) * 8≤35184372088832 by omega),Qac (show (co.length+1) * 8≤35184372088832 by omega)]
   cases hx2:x.2 with
   | true=>
    rw [cond_true,ih (pre++[v]) (rd++[v]) co (by rw [hl']; simp) (by simp; omega) (by omega),hpl]
    simp
   | false=>
    rw [cond_false,ih (pre++[v]) rd (co++[v]) (by rw [hl']; simp) (by omega) (by simp; omega),hpl]
    simp
theorem QgM (hp:QbS p)(ho:HOk p f)(g:Int)(rd:Bool)(l:List Int)(h:GFun)(hc:QvN p f g l h)(hl:l.length≤1000000):QcD p f g l rd=some (Qif p f g rd l):=by
 have key:∀ (r pre s:List Int),l=pre++r→s.length≤pre.length→Qb1 s p f g l rd (pre.length:Int)=some (s++QmB p f h rd pre.length r):=by
  intro r
  induction r with
  | nil=>
   intro pre s hl' h1
   rw [Qh5]
   subst hl'
   rw [Qdd (Qd5 pre)]
   simp [QmB]
  | cons v r ih=>
   intro pre s hl' h1
   obtain ⟨h0,h3⟩:=hc.rng v (by rw [hl']; simp)
   have hlen:=hc.len
   have hln:l.length=pre.length+(r.length+1):=by rw [hl']; simp
   obtain ⟨x,hx,hx',_,hrd⟩:=Qot h (v:=(pre.length:Int)) (by omega) (by omega)
   rw [Qh5]
   have e1:decide ((pre.length:Int)<(l.length:Int))=true:=decide_eq_true (by omega)
   have e2:at' l (pre.length:Int)=some v:=by rw [hl']; exact Qyj pre v r
   have e3:Ev.wr .i64 ((pre.length:Int)+1)=((pre++[v]).length:Int):=by rw [Sy.QaZ (by omega)]; simp
   rw [e1,cond_true,hc.at_,Qaa,show at' h.2.2.2.1 (pre.length:Int)=some x from hx,Qaa,e2,Qaa,Qyz p f hp ho h0 h3,Qaa,e3,QmB,hrd]
   have hpl:(pre++[v]).length=pre.length+1:=by simp
   have i1:=ih (pre++[v]) s (by rw [hl']; simp) (by omega)
   have i2:=ih (pre++[v]) (s++[v]) (by rw [hl']; simp) (by simp; omega)
   rw [hpl] at i1 i2
   rw [hpl,Qac (show (s.length+1) * 8≤35184372088832 by omega),i1,i2]
   cases x.2<;>cases rd<;>cases flV p f v<;>simp
 rw [Qrg]
 have:=key l [] [] rfl (Nat.le_refl _)
 rw [show Qb1 ([]:List (Int)) p f g l rd (0:Int)=_ from this,Qaa]
 unfold Qif
 rw [hc.get]
 rfl
theorem QjR (ro:List Int)(n:Qaf)(hn:QbN n)(h:Qbu p f sc n)(hs:sc.length=(Qad f).length):Qa2 (Qbp p f) ro p.1 p.2 f.1 f.2.1 f.2.2.1 f.2.2.2.1 f.2.2.2.2.1 f.2.2.2.2.2.1 f.2.2.2.2.2.2 n=some (Qao p f n,reads p f n):=by
 have ha:=hn.args
 have hm:=hn.more
 have hA:=QCn p f ro (QaG n) (by omega) (h.args hs)
 rw [Qi9]
 unfold Qao reads
 rcases QlI h.op with h0 |h0 |h0 |h0 |h0 |h0 |h0 |h0 |h0 |h0
 all_goals (have h0':n.1=_:=h0)
 ·rw [Qac h0',hA,if_pos (by omega),if_neg (by omega),if_neg (by omega),if_neg (by omega),if_neg (by omega)]; rfl
 ·repeat rw [Qab (by omega)]
  rw [if_neg (by omega),if_neg (by omega),if_neg (by omega),if_neg (by omega),if_neg (by omega),if_neg (by omega),if_neg (by omega),if_neg (by omega)]
 ·repeat rw [Qab (by omega)]
  rw [if_neg (by omega),if_neg (by omega),if_neg (by omega),if_neg (by omega),if_neg (by omega),if_neg (by omega),if_neg (by omega),if_neg (by omega)]
 ·rw [Qab (by omega),Qab (by omega),Qac h0',hA,if_pos (by omega),if_neg (by omega),if_neg (by omega),if_neg (by omega),if_neg (by omega)]; rfl
 ·rw [Qab (by omega),Qab (by omega),Qab (by omega),Qac h0',hA,if_neg (by omega),if_neg (by omega),if_neg (by omega),if_neg (by omega),if_pos (by omega)]; rfl
 ·rw [Qab (by omega),Qac h0',hA,if_pos (by omega),if_neg (by omega),if_neg (by omega),if_neg (by omega),if_neg (by omega)]; rfl
 ·obtain ⟨g,hc⟩:=h.call hs (by omega)
  rw [Qab (by omega),Qab (by omega),Qab (by omega),Qab (by omega),Qac h0',Qcf,show Qas (Qbp p f) ro ([]:List (Int)) ([]:List (Int)) p.1 p.2 f.1 f.2.1 f.2.2.1 f.2.2.2.1 f.2.2.2.2.1 f.2.2.2.2.2.1 f.2.2.2.2.2.2 n n.2.2.1 (n.2.2.1.length:Int) (0:Int)=_ from Qov p f ro n (QaG n) g hc (by omega) (QaG n) [] [] [] rfl (by simp) (by simp),if_neg (by omega),if_neg (by omega),if_pos (by omega),if_neg (by omega),if_neg (by omega),if_pos (by omega)]
  unfold Qif
  rw [hc.get]
  rfl
 ·obtain ⟨g,hc⟩:=h.call hs (by omega)
  rw [Qab (by omega),Qab (by omega),Qab (by omega),Qab (by omega),Qab (by omega),Qac h0',Qcf,show Qas (Qbp p f) ro ([]:List (Int)) ([]:List (Int)) p.1 p.2 f.1 f.2.1 f.2.2.1 f.2.2.2.1 f.2.2.2.2.1 f.2.2.2.2.2.1 f.2.2.2.2.2.2 n n.2.2.1 (n.2.2.1.length:Int) (0:Int)=_ from Qov p f ro n (QaG n) g hc (by omega) (QaG n) [] [] [] rfl (by simp) (by simp),if_neg (by omega),if_neg (by omega),if_pos (by omega),if_neg (by omega),if_neg (by omega),if_pos (by omega)]
  unfold Qif
  rw [hc.get]
  rfl
 ·obtain ⟨g,hc⟩:=h.hole hs (by omega)
  have hsl:(Qje p f (QaG n)).length≤(QaG n).length:=List.length_filter_le _ _
  rw [Qab (by omega),Qab (by omega),Qab (by omega),Qab (by omega),Qab (by omega),Qab (by omega),Qac h0',hA,Qaa,Qcf,show Qas (Qbp p f) ro ([]:List (Int)) (Qje p f (QaG n)) p.1 p.2 f.1 f.2.1 f.2.2.1 f.2.2.2.1 f.2.2.2.2.1 f.2.2.2.2.2.1 f.2.2.2.2.2.2 n n.2.2.2.2.2.2.1 (n.2.2.2.2.2.2.1.length:Int) (0:Int)=_ from Qov p f ro n (Qfq n) g hc (by omega) (Qfq n) [] [] _ rfl (by simp) (by omega),if_neg (by omega),if_neg (by omega),if_neg (by omega),if_pos (by omega),if_neg (by omega),if_neg (by omega),if_neg (by omega),if_pos (by omega)]
  unfold Qif
  rw [hc.get]
  rfl
 ·rw [Qab (by omega),Qab (by omega),Qab (by omega),Qab (by omega),Qab (by omega),Qab (by omega),Qab (by omega),Qac h0',hA,if_neg (show ¬ (nOp n=0∨nOp n=5∨nOp n=3) by omega),if_pos h0,if_neg (show ¬ nOp n=4 by omega),if_pos h0]
  cases hT:Qfr n with
  | true=>rw [show n.2.2.2.2.2.2.2.1=true from hT]; rfl
  | false=>rw [show n.2.2.2.2.2.2.2.1=false from hT]; rfl
theorem Qo6 (hp:QbS p)(hk:HOk p f)(n:Qaf)(hn:QbN n)(h:Qbu p f sc n)(hs:sc.length=(Qad f).length):QfU p f n=some (Qao p f n):=by
 have ha:=hn.args
 have hm:=hn.more
 have hA:=QvO p f hp hk (QaG n) (by omega) (h.args hs)
 rw [Qon]
 unfold Qao
 rcases QlI h.op with h0 |h0 |h0 |h0 |h0 |h0 |h0 |h0 |h0 |h0
 all_goals (have h0':n.1=_:=h0)
 ·rw [Qac h0',hA,if_pos (by omega)]; rfl
 ·repeat rw [Qab (by omega)]
  rw [if_neg (by omega),if_neg (by omega),if_neg (by omega),if_neg (by omega)]
 ·repeat rw [Qab (by omega)]
  rw [if_neg (by omega),if_neg (by omega),if_neg (by omega),if_neg (by omega)]
 ·rw [Qab (by omega),Qab (by omega),Qac h0',hA,if_pos (by omega)]; rfl
 ·repeat rw [Qab (by omega)]
  rw [if_neg (by omega),if_neg (by omega),if_neg (by omega),if_neg (by omega)]
 ·rw [Qab (by omega),Qac h0',hA,if_pos (by omega)]; rfl
 ·obtain ⟨g,hc⟩:=h.call hs (by omega)
  rw [Qab (by omega),Qab (by omega),Qab (by omega),Qab (by omega),Qac h0',QgM p f hp hk _ _ _ g hc (by omega),if_neg (by omega),if_neg (by omega),if_pos (by omega)]; rfl
 ·obtain ⟨g,hc⟩:=h.call hs (by omega)
  rw [Qab (by omega),Qab (by omega),Qab (by omega),Qab (by omega),Qab (by omega),Qac h0',QgM p f hp hk _ _ _ g hc (by omega),if_neg (by omega),if_neg (by omega),if_pos (by omega)]; rfl
 ·obtain ⟨g,hc⟩:=h.hole hs (by omega)
  have hsl:(Qje p f (QaG n)).length≤(QaG n).length:=List.length_filter_le _ _
  have hpl:(Qif p f (nFun n) false (Qfq n)).length≤(Qfq n).length:=by unfold Qif; rw [hc.get]; exact Qrw p f g false _ 0
  rw [Qab (by omega),Qab (by omega),Qab (by omega),Qab (by omega),Qab (by omega),Qab (by omega),Qac h0',hA,Qaa,QgM p f hp hk _ _ _ g hc (by omega),Qaa,if_neg (by omega),if_neg (by omega),if_neg (by omega),if_pos (by omega)]
  rw [Qac (by omega)]
 ·rw [Qab (by omega),Qab (by omega),Qab (by omega),Qac h0',hA,if_neg (show ¬ (nOp n=0∨nOp n=5∨nOp n=3) by omega),if_pos h0]
  cases hT:Qfr n with
  | true=>rw [show n.2.2.2.2.2.2.2.1=true from hT]; rfl
  | false=>rw [show n.2.2.2.2.2.2.2.1=false from hT]; rfl
theorem QvP (hp:QbS p)(hk:HOk p f)(n:Qaf)(hn:QbN n)(h:Qbu p f sc n)(hs:sc.length=(Qad f).length):QjD p f n=some (reads p f n):=by
 have ha:=hn.args
 have hm:=hn.more
 have hA:=QvO p f hp hk (QaG n) (by omega) (h.args hs)
 rw [QrZ]
 unfold reads
 rcases QlI h.op with h0 |h0 |h0 |h0 |h0 |h0 |h0 |h0 |h0 |h0
 all_goals (have h0':n.1=_:=h0)
 ·repeat rw [Qab (by omega)]
  rw [if_neg (by omega),if_neg (by omega),if_neg (by omega),if_neg (by omega)]
 ·repeat rw [Qab (by omega)]
  rw [if_neg (by omega),if_neg (by omega),if_neg (by omega),if_neg (by omega)]
 ·repeat rw [Qab (by omega)]
  rw [if_neg (by omega),if_neg (by omega),if_neg (by omega),if_neg (by omega)]
 ·repeat rw [Qab (by omega)]
  rw [if_neg (by omega),if_neg (by omega),if_neg (by omega),if_neg (by omega)]
 ·rw [Qac h0',hA,if_pos (by omega)]; rfl
 ·repeat rw [Qab (by omega)]
  rw [if_neg (by omega),if_neg (by omega),if_neg (by omega),if_neg (by omega)]
 ·obtain ⟨g,hc⟩:=h.call hs (by omega)
  rw [Qab (by omega),Qab (by omega),Qac h0',QgM p f hp hk _ _ _ g hc (by omega),if_neg (by omega),if_neg (by omega),if_pos (by omega)]; rfl
 ·obtain ⟨g,hc⟩:=h.call hs (by omega)
  rw [Qab (by omega),Qab (by omega),Qab (by omega),Qac h0',QgM p f hp hk _ _ _ g hc (by omega),if_neg (by omega),if_neg (by omega),if_pos (by omega)]; rfl
 ·obtain ⟨g,hc⟩:=h.hole hs (by omega)
  rw [Qab (by omega),Qab (by omega),Qab (by omega),Qab (by omega),Qac h0',QgM p f hp hk _ _ _ g hc (by omega),if_neg (by omega),if_neg (by omega),if_neg (by omega),if_pos (by omega)]; rfl
 ·rw [Qab (by omega),Qac h0',hA,if_neg (show ¬ nOp n=4 by omega),if_pos h0]
  cases hT:Qfr n with
  | true=>rw [show n.2.2.2.2.2.2.2.1=true from hT]; rfl
  | false=>rw [show n.2.2.2.2.2.2.2.1=false from hT]; rfl
end
end Go.Proofs.YtkecfadnfnnfaaaGreatDoor.LabB.O
