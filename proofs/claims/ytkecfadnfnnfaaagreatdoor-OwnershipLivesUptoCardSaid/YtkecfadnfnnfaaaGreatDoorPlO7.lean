/- Of the models of the ownership statements: the checks. -/
import Derived.Test.YtkecfadnfnnfaaaGreatDoorPlO6
set_option linter.unusedVariables false
set_option linter.unusedSimpArgs false
namespace Go.Proofs.YtkecfadnfnnfaaaGreatDoor.LabB.O
open Go Go.Ev Go.Sy Go.Proofs.YtkecfadnfnnfaaaGreatDoor.LabB
def Qfm (m:Nat):List Int:=(List.range m).map fun i:Nat=>(i:Int)
theorem QgN (m:Nat):Qfm (m+1)=Qfm m++[(m:Int)]:=by unfold Qfm; rw [List.range_succ,List.map_append]; rfl
theorem QvX (m:Nat)(v:Int):v∈Qfm m↔0≤v∧v<(m:Int):=by
 unfold Qfm
 rw [List.mem_map]
 constructor
 ·rintro ⟨i,hi,rfl⟩
  rw [List.mem_range] at hi
  omega
 ·rintro ⟨h0,h1⟩
  exact ⟨v.toNat,by rw [List.mem_range]; omega,by omega⟩
theorem Qgd (m:Nat):(Qfm m).length=m:=by unfold Qfm; simp
def G0 (f:GFun):List Bool:=List.replicate (Qad f).length false
def B0 (p:Qae)(f:GFun)(m:Nat):List Bool:=setS true ((Qfm m).filter (own p f)) (G0 f)
theorem Qo7 (f:GFun):(G0 f).length=(Qad f).length:=by unfold G0; simp
theorem Qnz (p:Qae)(f:GFun)(m:Nat):(B0 p f m).length=(Qad f).length:=by unfold B0; rw [Qbv,Qo7]
section
variable (p:Qae) (f:GFun) (s:List Int) (last:Bool)
theorem QCt (m:Nat):setS true ([(m:Int)].filter (own p f)) (B0 p f m)=B0 p f (m+1):=by
 unfold B0
 rw [QgN,List.filter_append,Quq]
theorem QEr (m:Nat)(hm:fPar f=(m:Int))(hmv:m≤(Qad f).length)(hv:(Qad f).length≤1000000)(G:List Bool):∀ (j i:Nat),i+j=m→
  QbD (Qbp p f) s ([]:List Bool) ([]:List Bool) G (B0 p f i) p.1 p.2 f.1 f.2.1 f.2.2.1 f.2.2.2.1 f.2.2.2.2.1 f.2.2.2.2.2.1 f.2.2.2.2.2.2 (Qad f).length f.2.1 (i:Int)=some (B0 p f m)
 | 0,i,h=>by
  have hm':f.2.1=(m:Int):=hm
  rw [QdE,Qab (by omega)]
  obtain rfl:i=m:=by omega
  rfl
 | j+1,i,h=>by
  have hm':f.2.1=(m:Int):=hm
  have hb:=QzO p f G (B0 p f i) s (Qnz p f i) [(i:Int)] (by simp) (fun v hv=>by simp at hv; omega)
  rw [Qnz] at hb
  rw [QdE,Qac (by omega),hb,Qaa,QCt,Sy.QaZ (by omega),QEr m hm hmv hv G j (i+1) (by omega)]
theorem QzR (m:Nat)(hm:fPar f=(m:Int))(hmv:m≤(Qad f).length)(hv:(Qad f).length≤1000000):QeB (Qbp p f) s p.1 p.2 f.1 f.2.1 f.2.2.1 f.2.2.2.1 f.2.2.2.2.1 f.2.2.2.2.2.1 f.2.2.2.2.2.2=some (if m=0 then .inl (G0 f,B0 p f 0) else .inr (G0 f,B0 p f m,(Qad f).length)):=by
 have e0:(List.replicate (((f.2.2.2.1).length:Int)).toNat false)=G0 f:=by rw [Int.toNat_natCast]; rfl
 have eb:B0 p f 0=G0 f:=rfl
 rw [Qks,Qab (by omega),Qac (by rw [Int.toNat_natCast]; show (Qad f).length * 1≤140737488355328; omega),e0,Qiw]
 have hm':f.2.1=(m:Int):=hm
 cases m with
 | zero=>rw [Qab (by omega),Qaa,if_pos rfl,eb]
 | succ m=>
  have hb:=QDV p f (G0 f) (B0 p f 0) s (Qnz p f 0) [((0:Nat):Int)] (by simp) (fun v hv=>by simp at hv; omega)
  rw [QCt,eb] at hb
  have hs:=QEr p f s (m+1) hm hmv hv (G0 f) m 1 (by omega)
  rw [Qac (by omega),show ((0:Int)::([]:List Int))=[((0:Nat):Int)] from rfl,hb,Qaa,show Ev.wr .i64 ((0:Int)+1)=((1:Nat):Int) from rfl,Qo7,hs,Qaa,Qaa,if_neg (by omega)]
theorem QzS (m:Nat)(hm:fPar f=(m:Int))(hmv:m≤1000000):Qk6 f=some (Qfm m):=by
 have key:∀ (j i:Nat),i+j=m→Qdy (Qfm i) f (i:Int)=some (Qfm m):=by
  intro j
  induction j with
  | zero=>
   intro i h
   obtain rfl:i=m:=by omega
   rw [Qh4,Qab (show ¬ (i:Int)<fPar f by omega)]
  | succ j ih=>
   intro i h
   have:=Qgd i
   rw [Qh4,Qac (show (i:Int)<fPar f by omega),Qac (by omega),← QgN,Sy.QaZ (by omega)]
   exact ih (i+1) (by omega)
 rw [Qrf,show Qdy ([]:List Int) f 0=_ from key m 0 (by omega)]
 rfl
structure FewF (f:GFun):Prop where
 code:(Qap f).length≤60
 vars:(Qad f).length≤60
end
structure FewP (p:Qae):Prop where
 small:QbS p
 funs:p.2.length≤5
 few:∀ f∈p.2,FewF f
structure QFB (p:Qae):Prop where
 cons:∀ x∈p.1,∀ c∈x.2,c.1.length≤1048576∧c.2.length≤1048576
 binds:∀ f∈p.2,∀ n∈Qap f,∀ b∈nBr n,b.1.length≤1048576
 Qnr:p.1.length≤1048576
 conl:∀ x∈p.1,x.2.length≤1048576
 funs:p.2.length≤1048576
 code:∀ f∈p.2,(Qap f).length≤1048576
def fewN (n:Qaf):Bool:=decide ((QaG n).length≤10)&&decide ((Qfq n).length≤10)&&decide ((nBr n).length≤16)
def fewF (f:GFun):Bool:=decide ((Qap f).length≤60)&&decide ((Qad f).length≤60)&&decide (f.1.length≤70)&&(Qap f).all fewN
def fewD (x:Qah):Bool:=decide (x.2.length≤16)&&decide (x.1.length≤60)
theorem few4 (p:Qae)(f:GFun)(i0:Int)(hl:(Qap f).length≤1048576):Qgb p f i0 0=some (if (Qap f).all fewN=true then .inr () else .inl ()):=by
 refine QaF (L:=fun i=>Qgb p f i0 i) (l:=Qap f) (fun i n hv=>?_) ?_
 ·rw [Qle,show decide ((i:Int)<(f.2.2.2.2.1.length:Int))=true from Qal hv,cond_true,show at' f.2.2.2.2.1 (i:Int)=some n from Qag hv,Qaa,Qam hv (by omega)]
  simp only [Qai,Qaa,QaQ]
  have:(decide (10<((QaG n).length:Int))||decide (10<((Qfq n).length:Int))||decide (16<((nBr n).length:Int)))=!fewN n:=by
   unfold fewN
   rw [Bool.eq_iff_iff]
   simp only [Bool.or_eq_true,Bool.not_eq_true',Bool.and_eq_false_iff,decide_eq_true_eq,decide_eq_false_iff_not]
   omega
  rw [show (decide (10<(n.2.2.1.length:Int))||decide (10<(n.2.2.2.2.2.2.1.length:Int))||decide (16<(n.2.2.2.2.2.2.2.2.1.length:Int)))=_ from this]
  cases fewN n<;>rfl
 ·rw [Qle]
  exact Qdd (Qar (Qap f)) _ _
theorem few2 (p:Qae)(hl:p.2.length≤1048576)(hc:∀ f∈p.2,(Qap f).length≤1048576):Qga p 0=some (if p.2.all fewF=true then .inr () else .inl ()):=by
 refine QaF (L:=fun i=>Qga p i) (l:=p.2) (fun i f hv=>?_) ?_
 ·rw [Qld,Qal hv,cond_true,Qag hv,Qaa,Qam hv (by omega),few4 p f _ (hc f (List.mem_of_getElem? hv))]
  simp only [Qai,Qaa,QaQ]
  have:(decide (60<((Qap f).length:Int))||decide (60<((Qad f).length:Int))||decide (70<(f.1.length:Int)))=!(decide ((Qap f).length≤60)&&decide ((Qad f).length≤60)&&decide (f.1.length≤70)):=by
   rw [Bool.eq_iff_iff]
   simp only [Bool.or_eq_true,Bool.not_eq_true',Bool.and_eq_false_iff,decide_eq_true_eq,decide_eq_false_iff_not]
   omega
  rw [show (decide (60<(f.2.2.2.2.1.length:Int))||decide (60<(f.2.2.2.1.length:Int))||decide (70<(f.1.length:Int)))=_ from this]
  unfold fewF
  cases (decide ((Qap f).length≤60)&&decide ((Qad f).length≤60)&&decide (f.1.length≤70))<;>cases (Qap f).all fewN<;>rfl
 ·rw [Qld]
  exact Qdd (Qar p.2) _ _
theorem few0 (p:Qae)(hl:p.1.length≤1048576):Qf9 p 0=some (if p.1.all fewD=true then .inr () else .inl ()):=by
 refine QaF (L:=fun i=>Qf9 p i) (l:=p.1) (fun i x hv=>?_) ?_
 ·rw [Qlc,Qal hv,cond_true,Qag hv,Qaa,Qam hv (by omega)]
  simp only [Qai,Qaa,QaQ]
  have:(decide (16<(x.2.length:Int))||decide (60<(x.1.length:Int)))=!fewD x:=by
   unfold fewD
   rw [Bool.eq_iff_iff]
   simp only [Bool.or_eq_true,Bool.not_eq_true',Bool.and_eq_false_iff,decide_eq_true_eq,decide_eq_false_iff_not]
   omega
  rw [this]
  cases fewD x<;>rfl
 ·rw [Qlc]
  exact Qdd (Qar p.1) _ _
theorem QDW (p:Qae)(hb:QFB p):∃ b,QqZ p=some b∧(b=true→FewP p):=by
 rw [QvB,few0 p hb.Qnr,few2 p hb.funs hb.code]
 simp only [Qai,Qaa]
 cases h1:p.1.all fewD with
 | false=>exact ⟨_,rfl,fun h=>by cases h⟩
 | true=>
  cases h2:p.2.all fewF with
  | false=>exact ⟨_,rfl,fun h=>by cases h⟩
  | true=>
   refine ⟨_,rfl,fun h=>?_⟩
   have h3:p.2.length≤5∧p.1.length≤10:=by
    by_cases h5:5<(p.2.length:Int)
    ·rw [QbE h5] at h; cases h
    ·rw [QaP h5,cond_false,Bool.not_eq_true',decide_eq_false_iff_not] at h
     omega
   have hD:∀ x∈p.1,x.2.length≤16∧x.1.length≤60:=fun x hx=>by
    have:=List.all_eq_true.1 h1 x hx
    unfold fewD at this
    simpa using this
   have hF:∀ f∈p.2,(Qap f).length≤60∧(Qad f).length≤60∧f.1.length≤70∧∀ n∈Qap f,(QaG n).length≤10∧(Qfq n).length≤10∧(nBr n).length≤16:=fun f hf=>by
    have:=List.all_eq_true.1 h2 f hf
    unfold fewF at this
    rw [Bool.and_eq_true,Bool.and_eq_true,Bool.and_eq_true,decide_eq_true_eq,decide_eq_true_eq,decide_eq_true_eq] at this
    refine ⟨this.1.1.1,this.1.1.2,this.1.2,fun n hn=>?_⟩
    have:=List.all_eq_true.1 this.2 n hn
    unfold fewN at this
    rw [Bool.and_eq_true,Bool.and_eq_true,decide_eq_true_eq,decide_eq_true_eq,decide_eq_true_eq] at this
    exact ⟨this.1.1,this.1.2,this.2⟩
   refine ⟨⟨⟨by omega,fun x hx=>by have:=hD x hx; omega,fun x hx=>by have:=hD x hx; omega,fun x hx c hc=>by have:=(hb.cons x hx c hc).1; omega,fun x hx c hc=>by have:=(hb.cons x hx c hc).2; omega⟩,by omega,fun f hf=>?_⟩,h3.1,fun f hf=>⟨(hF f hf).1,(hF f hf).2.1⟩⟩
   obtain ⟨a1,a2,a3,a4⟩:=hF f hf
   exact ⟨by omega,by show (Qad f).length≤_; omega,by show (Qap f).length≤_; omega,fun n hn=>⟨by have:=a4 n hn; omega,by have:=a4 n hn; omega,by have:=a4 n hn; omega,fun b hbr=>by have:=hb.binds f hf n hn b hbr; omega⟩⟩
end Go.Proofs.YtkecfadnfnnfaaaGreatDoor.LabB.O
