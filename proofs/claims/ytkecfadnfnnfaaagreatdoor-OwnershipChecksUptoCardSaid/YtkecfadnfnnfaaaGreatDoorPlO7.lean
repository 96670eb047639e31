/- Of the models of the ownership statements: the checks. -/
import Derived.Test.YtkecfadnfnnfaaaGreatDoorPlO6
set_option linter.unusedVariables false
set_option linter.unusedSimpArgs false
namespace Go.Proofs.YtkecfadnfnnfaaaGreatDoor.LabB.O
open Go Go.Ev Go.Sy Go.Proofs.YtkecfadnfnnfaaaGreatDoor.LabB
def Qmo (m:Nat):List Int:=(List.range m).map fun i:Nat=>(i:Int)
theorem QtY (m:Nat):Qmo (m+1)=Qmo m++[(m:Int)]:=by unfold Qmo; rw [List.range_succ,List.map_append]; rfl
theorem QwU (m:Nat)(v:Int):v∈Qmo m↔0≤v∧v<(m:Int):=by
 unfold Qmo
 rw [List.mem_map]
 constructor
 ·rintro ⟨i,hi,rfl⟩
  rw [List.mem_range] at hi
  omega
 ·rintro ⟨h0,h1⟩
  exact ⟨v.toNat,by rw [List.mem_range]; omega,by omega⟩
theorem QsD (m:Nat):(Qmo m).length=m:=by unfold Qmo; simp
def G0 (f:GFun):List Bool:=List.replicate (Qae f).length false
def B0 (p:Qad)(f:GFun)(m:Nat):List Bool:=setS true ((Qmo m).filter (own p f)) (G0 f)
theorem QoD (f:GFun):(G0 f).length=(Qae f).length:=by unfold G0; simp
theorem Qm3 (p:Qad)(f:GFun)(m:Nat):(B0 p f m).length=(Qae f).length:=by unfold B0; rw [Qb8,QoD]
theorem QDy (f:GFun):SR [] (G0 f):=⟨fun v=>by
 constructor
 ·intro h; cases h
 ·rintro ⟨_,h⟩
  unfold G0 at h
  rw [List.getElem?_replicate] at h
  split at h<;>cases h⟩
def chkO (p:Qad)(f:GFun)(s:List Int)(last:Bool):Int×Int:=if fExt f=true then (0,0) else visS p f s last ((Qaw f).length+1) (G0 f) (B0 p f (fPar f).toNat) (QbU f)
section
variable (p:Qad) (f:GFun) (s:List Int) (last:Bool)
theorem QDz (m:Nat):setS true ([(m:Int)].filter (own p f)) (B0 p f m)=B0 p f (m+1):=by
 unfold B0
 rw [QtY,List.filter_append,QEY]
theorem QFu (m:Nat)(hm:fPar f=(m:Int))(hmv:m≤(Qae f).length)(hv:(Qae f).length≤1000000)(G:List Bool):∀ (j i:Nat),i+j=m→
  Qb5 (QaH p f) s ([]:List Bool) ([]:List Bool) G (B0 p f i) p.1 p.2 f.1 f.2.1 f.2.2.1 f.2.2.2.1 f.2.2.2.2.1 f.2.2.2.2.2.1 f.2.2.2.2.2.2 (Qae f).length f.2.1 (i:Int)=some (B0 p f m)
 | 0,i,h=>by
  have hm':f.2.1=(m:Int):=hm
  rw [Qei,Qab (by omega)]
  obtain rfl:i=m:=by omega
  rfl
 | j+1,i,h=>by
  have hm':f.2.1=(m:Int):=hm
  have hb:=QAK p f G (B0 p f i) s (Qm3 p f i) [(i:Int)] (by simp) (fun v hv=>by simp at hv; omega)
  rw [Qm3] at hb
  rw [Qei,Qac (by omega),hb,Qaa,QDz,Sy.QbA (by omega),QFu m hm hmv hv G j (i+1) (by omega)]
theorem QAP (m:Nat)(hm:fPar f=(m:Int))(hmv:m≤(Qae f).length)(hv:(Qae f).length≤1000000):Qfv (QaH p f) s p.1 p.2 f.1 f.2.1 f.2.2.1 f.2.2.2.1 f.2.2.2.2.1 f.2.2.2.2.2.1 f.2.2.2.2.2.2=some (if m=0 then .inl (G0 f,B0 p f 0) else .inr (G0 f,B0 p f m,(Qae f).length)):=by
 have e0:(List.replicate (((f.2.2.2.1).length:Int)).toNat false)=G0 f:=by rw [Int.toNat_natCast]; rfl
 have eb:B0 p f 0=G0 f:=rfl
 rw [Qlq,Qab (by omega),Qac (by rw [Int.toNat_natCast]; show (Qae f).length * 1≤140737488355328; omega),e0,Qjw]
 have hm':f.2.1=(m:Int):=hm
 cases m with
 | zero=>rw [Qab (by omega),Qaa,if_pos rfl,eb]
 | succ m=>
  have hb:=QEZ p f (G0 f) (B0 p f 0) s (Qm3 p f 0) [((0:Nat):Int)] (by simp) (fun v hv=>by simp at hv; omega)
  rw [QDz,eb] at hb
  have hs:=QFu p f s (m+1) hm hmv hv (G0 f) m 1 (by omega)
  rw [Qac (by omega),show ((0:Int)::([]:List Int))=[((0:Nat):Int)] from rfl,hb,Qaa,show Ev.wr .i64 ((0:Int)+1)=((1:Nat):Int) from rfl,QoD,hs,Qaa,Qaa,if_neg (by omega)]
theorem QAQ (m:Nat)(hm:fPar f=(m:Int))(hmv:m≤1000000):Ql5 f=some (Qmo m):=by
 have key:∀ (j i:Nat),i+j=m→Qed (Qmo i) f (i:Int)=some (Qmo m):=by
  intro j
  induction j with
  | zero=>
   intro i h
   obtain rfl:i=m:=by omega
   rw [Qi8,Qab (show ¬ (i:Int)<fPar f by omega)]
  | succ j ih=>
   intro i h
   have:=QsD i
   rw [Qi8,Qac (show (i:Int)<fPar f by omega),Qac (by omega),← QtY,Sy.QbA (by omega)]
   exact ih (i+1) (by omega)
 rw [Qsi,show Qed ([]:List Int) f 0=_ from key m 0 (by omega)]
 rfl
structure FewF (f:GFun):Prop where
 code:(Qaw f).length≤60
 vars:(Qae f).length≤60
theorem QtZ (hp:Qbv p)(k:Nat)(hk:p.2[k]?=some f)(ho:QGC p f)(hw:FewF f):∃ s,RInv p f s∧QeY p (k:Int)=some (QaH p f,s,p.1,p.2,f.1,f.2.1,f.2.2.1,f.2.2.2.1,f.2.2.2.2.1,f.2.2.2.2.2.1,f.2.2.2.2.2.2)∧
  QhF p f=some s∧∀ last,Qdg (QaH p f) s p.1 p.2 f.1 f.2.1 f.2.2.1 f.2.2.2.1 f.2.2.2.2.1 f.2.2.2.2.2.1 f.2.2.2.2.2.2 last=some (chkO p f s last)∧QkG p (k:Int) last=some (chkO p f s last):=by
 obtain ⟨s,h1,h2,hs⟩:=QDq p f hp k hk ho
 refine ⟨s,hs,h1,h2,fun last=>?_⟩
 have hf:=hp.all f (List.mem_of_getElem? hk)
 have hcl:=hw.code
 have hvl:=hw.vars
 obtain ⟨p0,p1⟩:=ho.hok.par
 have hm:fPar f=((fPar f).toNat:Int):=by omega
 generalize hmm:(fPar f).toNat=m at hm
 rw [Qlp,Qs2,Qai hk,Qaa,QAP p f s m hm (by omega) (by omega),Qaa,h2,Qaa,QAQ f m hm (by omega),Qaa,Qiq p f hp ho.hok (Qmo m) (by rw [QsD]; omega) (fun v hv=>by rw [QwU] at hv; omega),Qaa]
 unfold chkO
 cases he:fExt f with
 | true=>
  rw [show f.2.2.2.2.2.2=true from he]
  exact ⟨rfl,rfl⟩
 | false=>
  rw [show f.2.2.2.2.2.2=false from he,cond_false,cond_false,if_neg (show ¬ (false=true) by simp),hmm]
  have hbody:=ho.body he
  have hgo:=QE1 p f s last hs hf
  have hkids:∀ n,(Qaw f)[(QbU f).toNat]?=some n→∀ x∈kb n,Ok p f (Qaw f).length (setS true x.2 (parS (Qae f).length (fPar f).toNat)) x.1:=fun n hn x hx=>by
   obtain ⟨_,_,n',hn',_,hkb⟩:=hbody
   rw [hn'] at hn
   obtain rfl:=Option.some.inj hn
   exact hkb x hx
  constructor
  ·by_cases hz:m=0
   ·rw [if_pos hz]
    subst hz
    dsimp only
    have:=QDv p f (G0 f) (B0 p f 0) s last _ hs hf _ _ hbody (QoD f) (Qm3 p f 0) (fun n hn x hx=>hgo _ _ _ _ _ (hkids n hn x hx) (by rw [Qb8]; exact QoD f) (by rw [Qb8]; exact Qm3 p f 0))
    rw [show f.2.2.2.2.2.2=false from he] at this
    rw [show QcY (G0 f) (B0 p f 0) (QaH p f) s p.1 p.2 f.1 f.2.1 f.2.2.1 f.2.2.2.1 f.2.2.2.2.1 f.2.2.2.2.2.1 false last f.2.2.2.2.2.1=_ from this,Qaa]
   ·rw [if_neg hz]
    dsimp only
    have:=Qyr p f (G0 f) (B0 p f m) s last _ hs hf _ _ hbody (QoD f) (Qm3 p f m) (fun n hn x hx=>hgo _ _ _ _ _ (hkids n hn x hx) (by rw [Qb8]; exact QoD f) (by rw [Qb8]; exact Qm3 p f m))
    rw [show f.2.2.2.2.2.2=false from he,Qm3] at this
    rw [show Qcl (G0 f) (B0 p f m) (QaH p f) s p.1 p.2 f.1 f.2.1 f.2.2.1 f.2.2.2.1 f.2.2.2.2.1 f.2.2.2.2.2.1 false last f.2.2.2.2.2.1 (Qae f).length=_ from this,Qaa]
  ·have hscope:SR ((Qmo m).filter (own p f)) (B0 p f m):=by
    have:=SR.QDx p f (QDy f) (Qmo m) (fun v hv=>by rw [QwU] at hv; rw [QoD]; omega)
    rw [List.nil_append] at this
    exact this
   have hfl:((Qmo m).filter (own p f)).length≤m:=Nat.le_trans (List.length_filter_le _ _) (by rw [QsD]; exact Nat.le_refl _)
   have:=QDw p f (G0 f) (B0 p f m) s last ((Qmo m).filter (own p f)) _ hp ho.hok hs hf _ _ hbody (QDy f) trivial hscope (by omega) (by omega) (fun n hn x hx=>by
    obtain ⟨_,hsc,n',hn',hno,_⟩:=hbody
    have hn2:=hn
    rw [hn'] at hn2
    obtain rfl:=Option.some.inj hn2
    have hsm:=hf.nodes n' (List.mem_of_getElem? hn')
    have hc:=hno.cons hsm hsc
    have hcl:=hc.len
    have hxl:x.2.length≤(binds n').length:=QwJ (k:=x.1) (l:=x.2) hx
    have hbl:=hno.len
    have hfl2:(x.2.filter (own p f)).length≤x.2.length:=List.length_filter_le _ _
    have h3:=SR.add (QDy f) (Qaf p f n') (fun v hv=>⟨(hc.rng v hv).1,by rw [QoD]; exact (hc.rng v hv).2.1⟩)
    rw [List.nil_append] at h3
    exact QE2 p f s last hp ho.hok hs hf (by omega) _ _ _ _ _ _ _ (hkids n' hn x hx) (by rw [Qb8]; exact QoD f) (by rw [Qb8]; exact Qm3 p f m) h3
     (SR.QDx p f hscope x.2 fun v hv=>by rw [Qm3]; exact hno.rng v (QgV (k:=x.1) (l:=x.2) hx v hv)) (by omega) (by rw [List.length_append]; omega))
   rw [show Qfk (p,(f,(s,(last,((0:Int),(0:Int)))))) f.2.2.2.2.2.1 ((Qmo m).filter (own p f))=_ from this,Qaa]
end
structure FewP (p:Qad):Prop where
 small:Qbv p
 funs:p.2.length≤5
 few:∀ f∈p.2,FewF f
theorem QAR (p:Qad)(hp:FewP p)(k:Int):∃ r,Qif p k=some r∧Qnw p k=some r:=by
 have hl:=hp.funs
 rw [Qoq,Qs1,Qzs p hp.small,QDk p hp.small,Qaa,Qaa]
 by_cases h0:chk p=0
 ·rw [Qac h0,Qac h0]
  simp only [Qah,Qaa,QaQ]
  by_cases hr:0≤k∧k<(p.2.length:Int)
  ·rw [QaD (show ¬ k<0 by omega),QbC hr.2]
   obtain ⟨f,hf,hf'⟩:=QgJ hr.1 hr.2
   have hko:k=((k.toNat:Nat):Int):=by omega
   obtain ⟨s,hs,a1,a2,a3⟩:=QtZ p f hp.small k.toNat hf' (QHX p _ f (Qzw h0 _ f hf')) (hp.few f (List.mem_of_getElem? hf'))
   obtain ⟨b1,b2⟩:=a3 true
   rw [← hko] at a1 b2
   rw [a1,Qaa,b2,Qaa]
   dsimp only
   rw [b1,Qaa]
   exact ⟨_,rfl,rfl⟩
  ·have:(decide (k<0)||!decide (k<(p.2.length:Int)))=true:=by
    rw [Bool.or_eq_true,Bool.not_eq_true',decide_eq_true_eq,decide_eq_false_iff_not]; omega
   rw [this]
   exact ⟨_,rfl,rfl⟩
 ·rw [Qab h0,Qab h0]
  exact ⟨_,rfl,rfl⟩
theorem Qzy (p:Qad)(hp:FewP p)(h0:chk p=0):∀ (j i:Nat),i+j=p.2.length→
  ∃ z:Unit⊕(Int×Int×Int),Qdt p true (p.2.length:Int) (i:Int)=some z∧(match z with | .inl _=>QbP p (i:Int)=some (.inr ()) | .inr r=>QbP p (i:Int)=some (.inl r))
 | 0,i,h=>by
  rw [Qii,Qhs,Qab (by omega),Qab (by omega)]
  exact ⟨_,rfl,rfl⟩
 | j+1,i,h=>by
  have hl:=hp.funs
  obtain ⟨f,hf,hf'⟩:=QgJ (l:=p.2) (i:=(i:Int)) (by omega) (by omega)
  rw [Int.toNat_natCast] at hf'
  obtain ⟨s,hs,a1,a2,a3⟩:=QtZ p f hp.small i hf' (QHX p _ f (Qzw h0 _ f hf')) (hp.few f (List.mem_of_getElem? hf'))
  obtain ⟨b1,b2⟩:=a3 true
  obtain ⟨z,c1,c2⟩:=Qzy p hp h0 j (i+1) (by omega)
  rw [Qii,Qhs,Qac (by omega),Qac (by omega),a1,b2,Qaa,Qaa]
  dsimp only
  rw [b1,Qaa,Sy.QbA (by omega)]
  cases hc:chkO p f s true with
  | mk a e=>
   dsimp only
   by_cases he:e=0
   ·rw [Qac he,Qac he]
    exact ⟨z,c1,c2⟩
   ·rw [Qab he,Qab he]
    exact ⟨_,rfl,rfl⟩
theorem Qvn (p:Qad)(hp:FewP p):∃ r,Qgc p=some r∧Qjn p=some r:=by
 rw [Qmd,Qqe,Qpo,Qzs p hp.small,QDk p hp.small,Qaa,Qaa]
 by_cases h0:chk p=0
 ·rw [Qac h0,Qac h0]
  obtain ⟨z,c1,c2⟩:=Qzy p hp h0 p.2.length 0 (by omega)
  rw [show Qdt p true (p.2.length:Int) 0=_ from c1,Qaa]
  cases z with
  | inl u=>
   rw [show QbP p 0=_ from c2]
   exact ⟨_,rfl,rfl⟩
  | inr r=>
   rw [show QbP p 0=_ from c2]
   exact ⟨_,rfl,rfl⟩
 ·rw [Qab h0,Qab h0]
  exact ⟨_,rfl,rfl⟩
structure QGH (p:Qad):Prop where
 cons:∀ x∈p.1,∀ c∈x.2,c.1.length≤1048576∧c.2.length≤1048576
 binds:∀ f∈p.2,∀ n∈Qaw f,∀ b∈nBr n,b.1.length≤1048576
 Qou:p.1.length≤1048576
 conl:∀ x∈p.1,x.2.length≤1048576
 funs:p.2.length≤1048576
 code:∀ f∈p.2,(Qaw f).length≤1048576
def fewN (n:Qag):Bool:=decide ((QaJ n).length≤10)&&decide ((Qgm n).length≤10)&&decide ((nBr n).length≤16)
def fewF (f:GFun):Bool:=decide ((Qaw f).length≤60)&&decide ((Qae f).length≤60)&&decide (f.1.length≤70)&&(Qaw f).all fewN
def fewD (x:Qaj):Bool:=decide (x.2.length≤16)&&decide (x.1.length≤60)
theorem few4 (p:Qad)(f:GFun)(i0:Int)(hl:(Qaw f).length≤1048576):Qhb p f i0 0=some (if (Qaw f).all fewN=true then .inr () else .inl ()):=by
 refine Qap (L:=fun i=>Qhb p f i0 i) (l:=Qaw f) (fun i n hv=>?_) ?_
 ·rw [Qmf,show decide ((i:Int)<(f.2.2.2.2.1.length:Int))=true from Qak hv,cond_true,show at' f.2.2.2.2.1 (i:Int)=some n from Qai hv,Qaa,Qal hv (by omega)]
  simp only [Qah,Qaa,QaQ]
  have:(decide (10<((QaJ n).length:Int))||decide (10<((Qgm n).length:Int))||decide (16<((nBr n).length:Int)))=!fewN n:=by
   unfold fewN
   rw [Bool.eq_iff_iff]
   simp only [Bool.or_eq_true,Bool.not_eq_true',Bool.and_eq_false_iff,decide_eq_true_eq,decide_eq_false_iff_not]
   omega
  rw [show (decide (10<(n.2.2.1.length:Int))||decide (10<(n.2.2.2.2.2.2.1.length:Int))||decide (16<(n.2.2.2.2.2.2.2.2.1.length:Int)))=_ from this]
  cases fewN n<;>rfl
 ·rw [Qmf]
  exact QdQ (Qao (Qaw f)) _ _
theorem few2 (p:Qad)(hl:p.2.length≤1048576)(hc:∀ f∈p.2,(Qaw f).length≤1048576):Qha p 0=some (if p.2.all fewF=true then .inr () else .inl ()):=by
 refine Qap (L:=fun i=>Qha p i) (l:=p.2) (fun i f hv=>?_) ?_
 ·rw [Qme,Qak hv,cond_true,Qai hv,Qaa,Qal hv (by omega),few4 p f _ (hc f (List.mem_of_getElem? hv))]
  simp only [Qah,Qaa,QaQ]
  have:(decide (60<((Qaw f).length:Int))||decide (60<((Qae f).length:Int))||decide (70<(f.1.length:Int)))=!(decide ((Qaw f).length≤60)&&decide ((Qae f).length≤60)&&decide (f.1.length≤70)):=by
   rw [Bool.eq_iff_iff]
   simp only [Bool.or_eq_true,Bool.not_eq_true',Bool.and_eq_false_iff,decide_eq_true_eq,decide_eq_false_iff_not]
   omega
  rw [show (decide (60<(f.2.2.2.2.1.length:Int))||decide (60<(f.2.2.2.1.length:Int))||decide (70<(f.1.length:Int)))=_ from this]
  unfold fewF
  cases (decide ((Qaw f).length≤60)&&decide ((Qae f).length≤60)&&decide (f.1.length≤70))<;>cases (Qaw f).all fewN<;>rfl
 ·rw [Qme]
  exact QdQ (Qao p.2) _ _
theorem few0 (p:Qad)(hl:p.1.length≤1048576):Qg9 p 0=some (if p.1.all fewD=true then .inr () else .inl ()):=by
 refine Qap (L:=fun i=>Qg9 p i) (l:=p.1) (fun i x hv=>?_) ?_
 ·rw [Qmc,Qak hv,cond_true,Qai hv,Qaa,Qal hv (by omega)]
  simp only [Qah,Qaa,QaQ]
  have:(decide (16<(x.2.length:Int))||decide (60<(x.1.length:Int)))=!fewD x:=by
   unfold fewD
   rw [Bool.eq_iff_iff]
   simp only [Bool.or_eq_true,Bool.not_eq_true',Bool.and_eq_false_iff,decide_eq_true_eq,decide_eq_false_iff_not]
   omega
  rw [this]
  cases fewD x<;>rfl
 ·rw [Qmc]
  exact QdQ (Qao p.1) _ _
theorem QE3 (p:Qad)(hb:QGH p):∃ b,Qr2 p=some b∧(b=true→FewP p):=by
 rw [Qwx,few0 p hb.Qou,few2 p hb.funs hb.code]
 simp only [Qah,Qaa]
 cases h1:p.1.all fewD with
 | false=>exact ⟨_,rfl,fun h=>by cases h⟩
 | true=>
  cases h2:p.2.all fewF with
  | false=>exact ⟨_,rfl,fun h=>by cases h⟩
  | true=>
   refine ⟨_,rfl,fun h=>?_⟩
   have h3:p.2.length≤5∧p.1.length≤10:=by
    by_cases h5:5<(p.2.length:Int)
    ·rw [QbC h5] at h; cases h
    ·rw [QaD h5,cond_false,Bool.not_eq_true',decide_eq_false_iff_not] at h
     omega
   have hD:∀ x∈p.1,x.2.length≤16∧x.1.length≤60:=fun x hx=>by
    have:=List.all_eq_true.1 h1 x hx
    unfold fewD at this
    simpa using this
   have hF:∀ f∈p.2,(Qaw f).length≤60∧(Qae f).length≤60∧f.1.length≤70∧∀ n∈Qaw f,(QaJ n).length≤10∧(Qgm n).length≤10∧(nBr n).length≤16:=fun f hf=>by
    have:=List.all_eq_true.1 h2 f hf
    unfold fewF at this
    rw [Bool.and_eq_true,Bool.and_eq_true,Bool.and_eq_true,decide_eq_true_eq,decide_eq_true_eq,decide_eq_true_eq] at this
    refine ⟨this.1.1.1,this.1.1.2,this.1.2,fun n hn=>?_⟩
    have:=List.all_eq_true.1 this.2 n hn
    unfold fewN at this
    rw [Bool.and_eq_true,Bool.and_eq_true,decide_eq_true_eq,decide_eq_true_eq,decide_eq_true_eq] at this
    exact ⟨this.1.1,this.1.2,this.2⟩
   refine ⟨⟨⟨by omega,fun x hx=>by have:=hD x hx; omega,fun x hx=>by have:=hD x hx; omega,fun x hx c hc=>by have:=(hb.cons x hx c hc).1; omega,fun x hx c hc=>by have:=(hb.cons x hx c hc).2; omega⟩,by omega,fun f hf=>?_⟩,h3.1,fun f hf=>⟨(hF f hf).1,(hF f hf).2.1⟩⟩
   obtain ⟨a1,a2,a3,a4⟩:=hF f hf
   exact ⟨by omega,by show (Qae f).length≤_; omega,by show (Qaw f).length≤_; omega,fun n hn=>⟨by have:=a4 n hn; omega,by have:=a4 n hn; omega,by have:=a4 n hn; omega,fun b hbr=>by have:=hb.binds f hf n hn b hbr; omega⟩⟩
theorem QH6 (hawake:Qnv=some true)(p:Qad)(hb:QGH p)(k:Int):Qec p k=some true:=by
 rw [Qj5,hawake,Qaa,cond_true]
 obtain ⟨b,h1,h2⟩:=QE3 p hb
 rw [h1,Qaa]
 cases b with
 | false=>rfl
 | true=>
  obtain ⟨r,a1,a2⟩:=QAR p (h2 rfl) k
  obtain ⟨q,b1,b2⟩:=Qvn p (h2 rfl)
  rw [cond_true,a1,a2,b1,b2]
  obtain ⟨r1,r2⟩:=r
  obtain ⟨q1,q2,q3⟩:=q
  simp [Qaa]
end Go.Proofs.YtkecfadnfnnfaaaGreatDoor.LabB.O
