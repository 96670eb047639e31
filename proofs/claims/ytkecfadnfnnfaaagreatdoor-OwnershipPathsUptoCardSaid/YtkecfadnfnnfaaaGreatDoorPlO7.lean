/- Of the models of the ownership statements: the checks. -/
import Derived.Test.YtkecfadnfnnfaaaGreatDoorPlO6
set_option linter.unusedVariables false
set_option linter.unusedSimpArgs false
namespace Go.Proofs.YtkecfadnfnnfaaaGreatDoor.LabB.O
open Go Go.Ev Go.Sy Go.Proofs.YtkecfadnfnnfaaaGreatDoor.LabB
def Qhu (m:Nat):List Int:=(List.range m).map fun i:Nat=>(i:Int)
theorem QnA (m:Nat):Qhu (m+1)=Qhu m++[(m:Int)]:=by unfold Qhu; rw [List.range_succ,List.map_append]; rfl
theorem Qqq (m:Nat)(v:Int):v∈Qhu m↔0≤v∧v<(m:Int):=by
 unfold Qhu
 rw [List.mem_map]
 constructor
 ·rintro ⟨i,hi,rfl⟩
  rw [List.mem_range] at hi
  omega
 ·rintro ⟨h0,h1⟩
  exact ⟨v.toNat,by rw [List.mem_range]; omega,by omega⟩
theorem QkI (m:Nat):(Qhu m).length=m:=by unfold Qhu; simp
def G0 (f:GFun):List Bool:=List.replicate (Qaf f).length false
def B0 (p:Qae)(f:GFun)(m:Nat):List Bool:=setS true ((Qhu m).filter (own p f)) (G0 f)
theorem QkJ (f:GFun):(G0 f).length=(Qaf f).length:=by unfold G0; simp
theorem QkK (p:Qae)(f:GFun)(m:Nat):(B0 p f m).length=(Qaf f).length:=by unfold B0; rw [QbJ,QkJ]
theorem QAP (f:GFun):SR [] (G0 f):=⟨fun v=>by
 constructor
 ·intro h; cases h
 ·rintro ⟨_,h⟩
  unfold G0 at h
  rw [List.getElem?_replicate] at h
  split at h<;>cases h⟩
def chkO (p:Qae)(f:GFun)(s:List Int)(last:Bool):Int×Int:=if fExt f=true then (0,0) else visS p f s last ((QaL f).length+1) (G0 f) (B0 p f (fPar f).toNat) (Qdj f)
section
variable (p:Qae) (f:GFun) (s:List Int) (last:Bool)
theorem QAQ (m:Nat):setS true ([(m:Int)].filter (own p f)) (B0 p f m)=B0 p f (m+1):=by
 unfold B0
 rw [QnA,List.filter_append,QCj]
theorem QCO (m:Nat)(hm:fPar f=(m:Int))(hmv:m≤(Qaf f).length)(hv:(Qaf f).length≤1000000)(G:List Bool):∀ (j i:Nat),i+j=m→
  QbU (QaE p f) s ([]:List Bool) ([]:List Bool) G (B0 p f i) p.1 p.2 f.1 f.2.1 f.2.2.1 f.2.2.2.1 f.2.2.2.2.1 f.2.2.2.2.2.1 f.2.2.2.2.2.2 (Qaf f).length f.2.1 (i:Int)=some (B0 p f m)
 | 0,i,h=>by
  have hm':f.2.1=(m:Int):=hm
  rw [QdO,Qab (by omega)]
  obtain rfl:i=m:=by omega
  rfl
 | j+1,i,h=>by
  have hm':f.2.1=(m:Int):=hm
  have hb:=Qyb p f G (B0 p f i) s (QkK p f i) [(i:Int)] (by simp) (fun v hv=>by simp at hv; omega)
  rw [QkK] at hb
  rw [QdO,Qac (by omega),hb,Qaa,QAQ,Sy.QbK (by omega),QCO m hm hmv hv G j (i+1) (by omega)]
theorem Qyg (m:Nat)(hm:fPar f=(m:Int))(hmv:m≤(Qaf f).length)(hv:(Qaf f).length≤1000000):QeZ (QaE p f) s p.1 p.2 f.1 f.2.1 f.2.2.1 f.2.2.2.1 f.2.2.2.2.1 f.2.2.2.2.2.1 f.2.2.2.2.2.2=some (if m=0 then .inl (G0 f,B0 p f 0) else .inr (G0 f,B0 p f m,(Qaf f).length)):=by
 have e0:(List.replicate (((f.2.2.2.1).length:Int)).toNat false)=G0 f:=by rw [Int.toNat_natCast]; rfl
 have eb:B0 p f 0=G0 f:=rfl
 rw [QjR,Qab (by omega),Qac (by rw [Int.toNat_natCast]; show (Qaf f).length * 1≤140737488355328; omega),e0,Qih]
 have hm':f.2.1=(m:Int):=hm
 cases m with
 | zero=>rw [Qab (by omega),Qaa,if_pos rfl,eb]
 | succ m=>
  have hb:=QCk p f (G0 f) (B0 p f 0) s (QkK p f 0) [((0:Nat):Int)] (by simp) (fun v hv=>by simp at hv; omega)
  rw [QAQ,eb] at hb
  have hs:=QCO p f s (m+1) hm hmv hv (G0 f) m 1 (by omega)
  rw [Qac (by omega),show ((0:Int)::([]:List Int))=[((0:Nat):Int)] from rfl,hb,Qaa,show Ev.wr .i64 ((0:Int)+1)=((1:Nat):Int) from rfl,QkJ,hs,Qaa,Qaa,if_neg (by omega)]
theorem Qyh (m:Nat)(hm:fPar f=(m:Int))(hmv:m≤1000000):Qkp f=some (Qhu m):=by
 have key:∀ (j i:Nat),i+j=m→QdJ (Qhu i) f (i:Int)=some (Qhu m):=by
  intro j
  induction j with
  | zero=>
   intro i h
   obtain rfl:i=m:=by omega
   rw [Qh0,Qab (show ¬ (i:Int)<fPar f by omega)]
  | succ j ih=>
   intro i h
   have:=QkI i
   rw [Qh0,Qac (show (i:Int)<fPar f by omega),Qac (by omega),← QnA,Sy.QbK (by omega)]
   exact ih (i+1) (by omega)
 rw [Qp6,show QdJ ([]:List Int) f 0=_ from key m 0 (by omega)]
 rfl
structure FewF (f:GFun):Prop where
 code:(QaL f).length≤60
 vars:(Qaf f).length≤60
theorem Qyi (hp:Qcq p)(k:Nat)(hk:p.2[k]?=some f)(ho:QDM p f)(hw:FewF f):∃ s,RInv p f s∧Qf7 p (k:Int)=some (QaE p f,s,p.1,p.2,f.1,f.2.1,f.2.2.1,f.2.2.2.1,f.2.2.2.2.1,f.2.2.2.2.2.1,f.2.2.2.2.2.2)∧
  Qd4 p f=some s∧∀ last,QeX (QaE p f) s p.1 p.2 f.1 f.2.1 f.2.2.1 f.2.2.2.1 f.2.2.2.2.1 f.2.2.2.2.2.1 f.2.2.2.2.2.2 last=some (chkO p f s last)∧QpZ p (k:Int) last=some (chkO p f s last):=by
 obtain ⟨s,h1,h2,hs⟩:=QAH p f hp k hk ho
 refine ⟨s,hs,h1,h2,fun last=>?_⟩
 have hf:=hp.all f (List.mem_of_getElem? hk)
 have hcl:=hw.code
 have hvl:=hw.vars
 obtain ⟨p0,p1⟩:=ho.hok.par
 have hm:fPar f=((fPar f).toNat:Int):=by omega
 generalize hmm:(fPar f).toNat=m at hm
 rw [QjQ,QqI,Qah hk,Qaa,Qyg p f s m hm (by omega) (by omega),Qaa,h2,Qaa,Qyh f m hm (by omega),Qaa,Qht p f hp ho.hok (Qhu m) (by rw [QkI]; omega) (fun v hv=>by rw [Qqq] at hv; omega),Qaa]
 unfold chkO
 cases he:fExt f with
 | true=>
  rw [show f.2.2.2.2.2.2=true from he]
  exact ⟨rfl,rfl⟩
 | false=>
  rw [show f.2.2.2.2.2.2=false from he,cond_false,cond_false,if_neg (show ¬ (false=true) by simp),hmm]
  have hbody:=ho.body he
  have hgo:=QCm p f s last hs hf
  have hkids:∀ n,(QaL f)[(Qdj f).toNat]?=some n→∀ x∈kb n,Ok p f (QaL f).length (setS true x.2 (parS (Qaf f).length (fPar f).toNat)) x.1:=fun n hn x hx=>by
   obtain ⟨_,_,n',hn',_,hkb⟩:=hbody
   rw [hn'] at hn
   obtain rfl:=Option.some.inj hn
   exact hkb x hx
  constructor
  ·by_cases hz:m=0
   ·rw [if_pos hz]
    subst hz
    dsimp only
    have:=QAM p f (G0 f) (B0 p f 0) s last _ hs hf _ _ hbody (QkJ f) (QkK p f 0) (fun n hn x hx=>hgo _ _ _ _ _ (hkids n hn x hx) (by rw [QbJ]; exact QkJ f) (by rw [QbJ]; exact QkK p f 0))
    rw [show f.2.2.2.2.2.2=false from he] at this
    rw [show QcL (G0 f) (B0 p f 0) (QaE p f) s p.1 p.2 f.1 f.2.1 f.2.2.1 f.2.2.2.1 f.2.2.2.2.1 f.2.2.2.2.2.1 false last f.2.2.2.2.2.1=_ from this,Qaa]
   ·rw [if_neg hz]
    dsimp only
    have:=QvY p f (G0 f) (B0 p f m) s last _ hs hf _ _ hbody (QkJ f) (QkK p f m) (fun n hn x hx=>hgo _ _ _ _ _ (hkids n hn x hx) (by rw [QbJ]; exact QkJ f) (by rw [QbJ]; exact QkK p f m))
    rw [show f.2.2.2.2.2.2=false from he,QkK] at this
    rw [show Qcb (G0 f) (B0 p f m) (QaE p f) s p.1 p.2 f.1 f.2.1 f.2.2.1 f.2.2.2.1 f.2.2.2.2.1 f.2.2.2.2.2.1 false last f.2.2.2.2.2.1 (Qaf f).length=_ from this,Qaa]
  ·have hscope:SR ((Qhu m).filter (own p f)) (B0 p f m):=by
    have:=SR.QAO p f (QAP f) (Qhu m) (fun v hv=>by rw [Qqq] at hv; rw [QkJ]; omega)
    rw [List.nil_append] at this
    exact this
   have hfl:((Qhu m).filter (own p f)).length≤m:=Nat.le_trans (List.length_filter_le _ _) (by rw [QkI]; exact Nat.le_refl _)
   have:=QAN p f (G0 f) (B0 p f m) s last ((Qhu m).filter (own p f)) _ hp ho.hok hs hf _ _ hbody (QAP f) trivial hscope (by omega) (by omega) (fun n hn x hx=>by
    obtain ⟨_,hsc,n',hn',hno,_⟩:=hbody
    have hn2:=hn
    rw [hn'] at hn2
    obtain rfl:=Option.some.inj hn2
    have hsm:=hf.nodes n' (List.mem_of_getElem? hn')
    have hc:=hno.cons hsm hsc
    have hcl:=hc.len
    have hxl:x.2.length≤(binds n').length:=QsY (k:=x.1) (l:=x.2) hx
    have hbl:=hno.len
    have hfl2:(x.2.filter (own p f)).length≤x.2.length:=List.length_filter_le _ _
    have h3:=SR.add (QAP f) (Qad p f n') (fun v hv=>⟨(hc.rng v hv).1,by rw [QkJ]; exact (hc.rng v hv).2.1⟩)
    rw [List.nil_append] at h3
    exact QCn p f s last hp ho.hok hs hf (by omega) _ _ _ _ _ _ _ (hkids n' hn x hx) (by rw [QbJ]; exact QkJ f) (by rw [QbJ]; exact QkK p f m) h3
     (SR.QAO p f hscope x.2 fun v hv=>by rw [QkK]; exact hno.rng v (Qf9 (k:=x.1) (l:=x.2) hx v hv)) (by omega) (by rw [List.length_append]; omega))
   rw [show QeP (p,(f,(s,(last,((0:Int),(0:Int)))))) f.2.2.2.2.2.1 ((Qhu m).filter (own p f))=_ from this,Qaa]
end
structure FewP (p:Qae):Prop where
 small:Qcq p
 funs:p.2.length≤5
 few:∀ f∈p.2,FewF f
structure QDR (p:Qae):Prop where
 cons:∀ x∈p.1,∀ c∈x.2,c.1.length≤1048576∧c.2.length≤1048576
 binds:∀ f∈p.2,∀ n∈QaL f,∀ b∈nBr n,b.1.length≤1048576
 QsW:p.1.length≤1048576
 conl:∀ x∈p.1,x.2.length≤1048576
 funs:p.2.length≤1048576
 code:∀ f∈p.2,(QaL f).length≤1048576
def fewN (n:Qag):Bool:=decide ((Qa1 n).length≤10)&&decide ((QiT n).length≤10)&&decide ((nBr n).length≤16)
def fewF (f:GFun):Bool:=decide ((QaL f).length≤60)&&decide ((Qaf f).length≤60)&&decide (f.1.length≤70)&&(QaL f).all fewN
def fewD (x:Qak):Bool:=decide (x.2.length≤16)&&decide (x.1.length≤60)
theorem few4 (p:Qae)(f:GFun)(i0:Int)(hl:(QaL f).length≤1048576):Qgm p f i0 0=some (if (QaL f).all fewN=true then .inr () else .inl ()):=by
 refine Qay (L:=fun i=>Qgm p f i0 i) (l:=QaL f) (fun i n hv=>?_) ?_
 ·rw [Qky,show decide ((i:Int)<(f.2.2.2.2.1.length:Int))=true from Qal hv,cond_true,show at' f.2.2.2.2.1 (i:Int)=some n from Qah hv,Qaa,Qan hv (by omega)]
  simp only [Qai,Qaa,Qb9]
  have:(decide (10<((Qa1 n).length:Int))||decide (10<((QiT n).length:Int))||decide (16<((nBr n).length:Int)))=!fewN n:=by
   unfold fewN
   rw [Bool.eq_iff_iff]
   simp only [Bool.or_eq_true,Bool.not_eq_true',Bool.and_eq_false_iff,decide_eq_true_eq,decide_eq_false_iff_not]
   omega
  rw [show (decide (10<(n.2.2.1.length:Int))||decide (10<(n.2.2.2.2.2.2.1.length:Int))||decide (16<(n.2.2.2.2.2.2.2.2.1.length:Int)))=_ from this]
  cases fewN n<;>rfl
 ·rw [Qky]
  exact Qem (Qap (QaL f)) _ _
theorem few2 (p:Qae)(hl:p.2.length≤1048576)(hc:∀ f∈p.2,(QaL f).length≤1048576):Qgl p 0=some (if p.2.all fewF=true then .inr () else .inl ()):=by
 refine Qay (L:=fun i=>Qgl p i) (l:=p.2) (fun i f hv=>?_) ?_
 ·rw [Qkx,Qal hv,cond_true,Qah hv,Qaa,Qan hv (by omega),few4 p f _ (hc f (List.mem_of_getElem? hv))]
  simp only [Qai,Qaa,Qb9]
  have:(decide (60<((QaL f).length:Int))||decide (60<((Qaf f).length:Int))||decide (70<(f.1.length:Int)))=!(decide ((QaL f).length≤60)&&decide ((Qaf f).length≤60)&&decide (f.1.length≤70)):=by
   rw [Bool.eq_iff_iff]
   simp only [Bool.or_eq_true,Bool.not_eq_true',Bool.and_eq_false_iff,decide_eq_true_eq,decide_eq_false_iff_not]
   omega
  rw [show (decide (60<(f.2.2.2.2.1.length:Int))||decide (60<(f.2.2.2.1.length:Int))||decide (70<(f.1.length:Int)))=_ from this]
  unfold fewF
  cases (decide ((QaL f).length≤60)&&decide ((Qaf f).length≤60)&&decide (f.1.length≤70))<;>cases (QaL f).all fewN<;>rfl
 ·rw [Qkx]
  exact Qem (Qap p.2) _ _
theorem few0 (p:Qae)(hl:p.1.length≤1048576):Qgk p 0=some (if p.1.all fewD=true then .inr () else .inl ()):=by
 refine Qay (L:=fun i=>Qgk p i) (l:=p.1) (fun i x hv=>?_) ?_
 ·rw [Qkw,Qal hv,cond_true,Qah hv,Qaa,Qan hv (by omega)]
  simp only [Qai,Qaa,Qb9]
  have:(decide (16<(x.2.length:Int))||decide (60<(x.1.length:Int)))=!fewD x:=by
   unfold fewD
   rw [Bool.eq_iff_iff]
   simp only [Bool.or_eq_true,Bool.not_eq_true',Bool.and_eq_false_iff,decide_eq_true_eq,decide_eq_false_iff_not]
   omega
  rw [this]
  cases fewD x<;>rfl
 ·rw [Qkw]
  exact Qem (Qap p.1) _ _
theorem QCo (p:Qae)(hb:QDR p):∃ b,QpY p=some b∧(b=true→FewP p):=by
 rw [Qub,few0 p hb.QsW,few2 p hb.funs hb.code]
 simp only [Qai,Qaa]
 cases h1:p.1.all fewD with
 | false=>exact ⟨_,rfl,fun h=>by cases h⟩
 | true=>
  cases h2:p.2.all fewF with
  | false=>exact ⟨_,rfl,fun h=>by cases h⟩
  | true=>
   refine ⟨_,rfl,fun h=>?_⟩
   have h3:p.2.length≤5∧p.1.length≤10:=by
    by_cases h5:5<(p.2.length:Int)
    ·rw [QdC h5] at h; cases h
    ·rw [QaR h5,cond_false,Bool.not_eq_true',decide_eq_false_iff_not] at h
     omega
   have hD:∀ x∈p.1,x.2.length≤16∧x.1.length≤60:=fun x hx=>by
    have:=List.all_eq_true.1 h1 x hx
    unfold fewD at this
    simpa using this
   have hF:∀ f∈p.2,(QaL f).length≤60∧(Qaf f).length≤60∧f.1.length≤70∧∀ n∈QaL f,(Qa1 n).length≤10∧(QiT n).length≤10∧(nBr n).length≤16:=fun f hf=>by
    have:=List.all_eq_true.1 h2 f hf
    unfold fewF at this
    rw [Bool.and_eq_true,Bool.and_eq_true,Bool.and_eq_true,decide_eq_true_eq,decide_eq_true_eq,decide_eq_true_eq] at this
    refine ⟨this.1.1.1,this.1.1.2,this.1.2,fun n hn=>?_⟩
    have:=List.all_eq_true.1 this.2 n hn
    unfold fewN at this
    rw [Bool.and_eq_true,Bool.and_eq_true,decide_eq_true_eq,decide_eq_true_eq,decide_eq_true_eq] at this
    exact ⟨this.1.1,this.1.2,this.2⟩
   refine ⟨⟨⟨by omega,fun x hx=>by have:=hD x hx; omega,fun x hx=>by have:=hD x hx; omega,fun x hx c hc=>by have:=(hb.cons x hx c hc).1; omega,fun x hx c hc=>by have:=(hb.cons x hx c hc).2; omega⟩,by omega,fun f hf=>?_⟩,h3.1,fun f hf=>⟨(hF f hf).1,(hF f hf).2.1⟩⟩
   obtain ⟨a1,a2,a3,a4⟩:=hF f hf
   exact ⟨by omega,by show (Qaf f).length≤_; omega,by show (QaL f).length≤_; omega,fun n hn=>⟨by have:=a4 n hn; omega,by have:=a4 n hn; omega,by have:=a4 n hn; omega,fun b hbr=>by have:=hb.binds f hf n hn b hbr; omega⟩⟩
end Go.Proofs.YtkecfadnfnnfaaaGreatDoor.LabB.O
