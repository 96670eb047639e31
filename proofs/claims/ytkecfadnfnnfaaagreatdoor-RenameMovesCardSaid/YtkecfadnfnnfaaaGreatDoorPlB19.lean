/- Of the models: likeness of programs, both sides; RenameCompares. -/
import Derived.Test.YtkecfadnfnnfaaaGreatDoorPlB18
set_option linter.unusedVariables false
set_option linter.unusedSimpArgs false
namespace Go.Proofs.YtkecfadnfnnfaaaGreatDoor.LabB.V
open Go Go.Ev Go.Sy Go.Proofs.YtkecfadnfnnfaaaGreatDoor.LabB
theorem QBr {α:Type}[DecidableEq α]:∀ (l m:List α) (i:Nat) (pre:List α),i=pre.length→l.length=m.length→allI (fun (i:Nat) (x:α)=>decide ((pre++m)[i]?=some x)) i l=decide (l=m)
 | [],m,i,pre,hi,h=>by
  have:m=[]:=List.eq_nil_of_length_eq_zero (by simpa using h.symm)
  subst this
  simp [allI]
 | x::l,[],i,pre,hi,h=>by simp at h
 | x::l,y::m,i,pre,hi,h=>by
  have ih:=QBr l m (i+1) (pre++[y]) (by simp [hi]) (by simpa using h)
  have e:(fun (i:Nat) (x:α)=>decide ((pre++y::m)[i]?=some x))=fun (i:Nat) (x:α)=>decide (((pre++[y])++m)[i]?=some x):=by simp
  rw [allI,e,ih]
  have e2:(pre++y::m)[i]?=some y:=by rw [hi]; simp
  rw [e2,Bool.eq_iff_iff]
  simp only [Bool.and_eq_true,decide_eq_true_eq,Option.some.injEq,List.cons.injEq]
  exact ⟨fun ⟨a,b⟩=>⟨a.symm,b⟩,fun ⟨a,b⟩=>⟨a.symm,b⟩⟩
theorem QDm {α:Type}[DecidableEq α](l m:List α)(h:l.length=m.length):allI (fun (i:Nat) (x:α)=>decide (m[i]?=some x)) 0 l=decide (l=m):=QBr l m 0 [] rfl h
theorem Qqi {α:Type}[DecidableEq α]{l m:List α}(h:¬ l.length=m.length):decide (l=m)=false:=decide_eq_false (fun e=>h (by rw [e]))
theorem QBs {α:Type}{l m:List α}{i:Nat}{x:α}(h:l.length=m.length)(hx:l[i]?=some x):∃ y,m[i]?=some y:=⟨m[i]'(by have:=Qat hx; omega),List.getElem?_eq_getElem _⟩
theorem Qlt {α R:Type}[DecidableEq α]{L:Int→Option R}{l m:List α}{A B:R}(hl:l.length=m.length)
  (h:∀ (i:Nat) x y,l[i]?=some x→m[i]?=some y→L i=if decide (x=y)=true then L ((i+1:Nat):Int) else some A) (he:L (l.length:Int)=some B):
  L 0=some (if decide (l=m)=true then B else A):=by
 rw [← QDm l m hl]
 refine QjG (fun i x hx=>?_) he
 obtain ⟨y,hy⟩:=QBs hl hx
 rw [h i x y hx hy,hy]
 have:decide (some y=some x)=decide (x=y):=by rw [Bool.eq_iff_iff]; simp [eq_comm]
 rw [this]
theorem QiH {α β:Type}(l:List α)(m:List β):decide ((l.length:Int)=(m.length:Int))=decide (l.length=m.length):=by
 rw [Bool.eq_iff_iff,decide_eq_true_eq,decide_eq_true_eq]
 omega
theorem Qnf (l m:List Int)(hl:l.length≤1000000):QcQ l m=some (decide (l=m)):=by
 rw [Qmh,QiH]
 by_cases h:l.length=m.length
 ·rw [Qad h,Qlt (L:=fun i=>QcG l m (l.length:Int) i) (A:=.inl ()) (B:=.inr ()) h (fun i x y hx hy=>by
   rw [Qfo,Qaz hx,cond_true,Qao hx,Qaa,Qao hy,Qaa,QaC hx (by omega),Qan]) (by rw [Qfo,QaF,cond_false]),Qaa]
  cases decide (l=m)<;>rfl
 ·rw [Qaf h,Qqi h]
theorem QBt (l m:List Int)(hl:l.length≤1000000):Qir l m=some (decide (l=m)):=by
 rw [Qn0,QiH]
 by_cases h:l.length=m.length
 ·rw [Qad h,Qlt (L:=fun i=>Qdy l m (l.length:Int) i) (A:=.inl ()) (B:=.inr ()) h (fun i x y hx hy=>by
   rw [QgC,Qaz hx,cond_true,Qao hx,Qaa,Qao hy,Qaa,QaC hx (by omega),Qan]) (by rw [QgC,QaF,cond_false]),Qaa]
  cases decide (l=m)<;>rfl
 ·rw [Qaf h,Qqi h]
theorem var_eq (x y:GVar):(decide (x.1=y.1)&&(x.2==y.2))=decide (x=y):=by
 rw [Bool.eq_iff_iff]
 simp [Prod.ext_iff]
theorem QBu (l m:List GVar)(hl:l.length≤1000000):Qgo l m=some (decide (l=m)):=by
 rw [Qmd,QiH]
 by_cases h:l.length=m.length
 ·rw [Qad h,Qlt (L:=fun i=>QcF l m (l.length:Int) i) (A:=.inl ()) (B:=.inr ()) h (fun i x y hx hy=>by
   rw [Qfl,Qaz hx,cond_true,Qao hx,Qaa,Qao hy,Qaa,var_eq,QaC hx (by omega),Qan]) (by rw [Qfl,QaF,cond_false]),Qaa]
  cases decide (l=m)<;>rfl
 ·rw [Qaf h,Qqi h]
instance dn1:DecidableEq (List Qak×Int):=inferInstance
instance dn2:DecidableEq (Bool×(List Qak×Int)):=inferInstance
instance dn3:DecidableEq (List Int×(Bool×(List Qak×Int))):=inferInstance
instance dn4:DecidableEq (Int×(List Int×(Bool×(List Qak×Int)))):=inferInstance
instance dn5:DecidableEq (Int×(Int×(List Int×(Bool×(List Qak×Int))))):=inferInstance
instance dn6:DecidableEq (Int×(Int×(Int×(List Int×(Bool×(List Qak×Int)))))):=inferInstance
instance dn7:DecidableEq (List Int×(Int×(Int×(Int×(List Int×(Bool×(List Qak×Int))))))):=inferInstance
instance dn8:DecidableEq (Int×(List Int×(Int×(Int×(Int×(List Int×(Bool×(List Qak×Int)))))))):=inferInstance
instance dn9:DecidableEq Qab:=inferInstance
instance dn10:DecidableEq (List Qab):=inferInstance
instance df1:DecidableEq (List Qab×GVar):=inferInstance
instance df2:DecidableEq (List GVar×(List Qab×GVar)):=inferInstance
instance df3:DecidableEq (Int×(List GVar×(List Qab×GVar))):=inferInstance
instance df4:DecidableEq (Int×(Int×(List GVar×(List Qab×GVar)))):=inferInstance
instance df5:DecidableEq GFun:=inferInstance
theorem QG7 (x y:Qak):(decide (x.2=y.2)&&decide (x.1=y.1))=decide (x=y):=by
 rw [Bool.eq_iff_iff]
 simp [Prod.ext_iff]
 exact and_comm
theorem QDn (l m:List Qak)(hl:l.length≤1000000)(hb:∀ b∈l,b.1.length≤1000000):QdK l m=some (decide (l=m)):=by
 rw [Qi8,QiH]
 by_cases h:l.length=m.length
 ·rw [Qad h,Qlt (L:=fun i=>QbH m l (l.length:Int) i) (A:=.inr ()) (B:=.inl ()) h (fun i x y hx hy=>by
   rw [Qdr,Qaz hx,cond_true,Qao hx,Qaa,Qao hy,Qaa,Qmk,Qnf _ _ (hb x (List.mem_of_getElem? hx))]
   simp only [Qaa,Qaj,Qdx]
   rw [QG7,QaC hx (by omega),Qan]) (by rw [Qdr,QaF,cond_false]),Qaa]
  cases decide (l=m)<;>rfl
 ·rw [Qaf h,Qqi h]
theorem QE2 (a b:Qab):decide (a=b)=(decide (nOp a=nOp b)&&decide (nVar a=nVar b)&&decide (nCon a=nCon b)&&decide (nNum a=nNum b)&&decide (nFun a=nFun b)&&(Qlq a==Qlq b)&&decide (Qbg a=Qbg b)&&decide (QaG a=QaG b)&&decide (Qbf a=Qbf b)&&decide (nBr a=nBr b)):=by
 rw [Bool.eq_iff_iff]
 obtain ⟨a1,a2,a3,a4,a5,a6,a7,a8,a9,a10⟩:=a
 obtain ⟨b1,b2,b3,b4,b5,b6,b7,b8,b9,b10⟩:=b
 simp only [decide_eq_true_eq,Bool.and_eq_true,beq_iff_eq,Prod.mk.injEq]
 constructor
 ·rintro ⟨h1,h2,h3,h4,h5,h6,h7,h8,h9,h10⟩
  exact ⟨⟨⟨⟨⟨⟨⟨⟨⟨h1,h2⟩,h4⟩,h5⟩,h6⟩,h8⟩,h10⟩,h3⟩,h7⟩,h9⟩
 ·rintro ⟨⟨⟨⟨⟨⟨⟨⟨⟨h1,h2⟩,h4⟩,h5⟩,h6⟩,h8⟩,h10⟩,h3⟩,h7⟩,h9⟩
  exact ⟨h1,h2,h3,h4,h5,h6,h7,h8,h9,h10⟩
theorem QyG (a b:Qab)(ha:QaQ a):Qiu a b=some (decide (a=b)):=by
 have h1:a.2.2.1.length≤12:=ha.args
 have h2:a.2.2.2.2.2.2.1.length≤12:=ha.more
 have h3:(nBr a).length≤20:=ha.br
 rw [Qn4,Qnf _ _ (by omega),Qnf _ _ (by omega),QDn a.2.2.2.2.2.2.2.2.1 _ (by show (nBr a).length≤_; omega) (fun b hb=>Nat.le_trans (ha.bs b hb) (by decide))]
 simp only [Qaa,Qaj,Qdx]
 rw [QE2]
theorem QGn (x y:GFun):decide (x=y)=(decide (x.1=y.1)&&decide (fPar x=fPar y)&&decide (fRes x=fRes y)&&(fExt x==fExt y)&&decide (QaM x=QaM y)&&decide (Qac x=Qac y)&&decide (Qag x=Qag y)):=by
 rw [Bool.eq_iff_iff]
 obtain ⟨a1,a2,a3,a4,a5,a6,a7⟩:=x
 obtain ⟨b1,b2,b3,b4,b5,b6,b7⟩:=y
 simp only [decide_eq_true_eq,Bool.and_eq_true,beq_iff_eq,Prod.mk.injEq]
 constructor
 ·rintro ⟨h1,h2,h3,h4,h5,h6,h7⟩
  exact ⟨⟨⟨⟨⟨⟨h1,h2⟩,h3⟩,h7⟩,h6⟩,h4⟩,h5⟩
 ·rintro ⟨⟨⟨⟨⟨⟨h1,h2⟩,h3⟩,h7⟩,h6⟩,h4⟩,h5⟩
  exact ⟨h1,h2,h3,h4,h5,h6,h7⟩
theorem QBv (x y:GFun)(hc:(Qag x).length≤80)(hv:(Qac x).length≤120)(hn:∀ n∈Qag x,QaQ n):Qll x y=some (decide (x=y)):=by
 have hcode:QdH x.2.2.2.2.1 y.2.2.2.2.1=some (decide (Qag x=Qag y)):=by
  rw [Qi5,QiH]
  by_cases h:(Qag x).length=(Qag y).length
  ·rw [show decide (x.2.2.2.2.1.length=y.2.2.2.2.1.length)=true from Qc1 h,cond_true,Qlt (L:=fun i=>QbE (Qag y) (Qag x) ((Qag x).length:Int) i) (A:=.inr ()) (B:=.inl ()) h (fun i n m hx hy=>by
    rw [Qdo,Qaz hx,cond_true,Qao hx,Qaa,Qao hy,Qaa,QyG n m (hn n (List.mem_of_getElem? hx)),Qaa,QaC hx (by omega),Qan]) (by rw [Qdo,QaF,cond_false]),Qaa]
   cases decide (Qag x=Qag y)<;>rfl
  ·rw [show decide (x.2.2.2.2.1.length=y.2.2.2.2.1.length)=false from Qa7 h,cond_false,Qqi h]
 rw [Qqy,QBu x.2.2.2.1 y.2.2.2.1 (by have:x.2.2.2.1.length≤120:=hv; omega),hcode]
 simp only [Qaa,Qaj,Qdx]
 rw [QGn]
theorem QGo (x y:GCon):decide (x=y)=(decide (x.1=y.1)&&decide (x.2=y.2)):=by
 rw [Bool.eq_iff_iff]; simp [Prod.ext_iff]
theorem QE3 (x y:Qai):decide (x=y)=(decide (x.1=y.1)&&decide (x.2=y.2)):=by
 rw [Bool.eq_iff_iff]; simp [Prod.ext_iff]
structure SmD (d:List Qai):Prop where
 len:d.length≤1000
 cons:∀ x∈d,x.2.length≤1000
 fields:∀ x∈d,∀ c∈x.2,c.2.length≤1000
theorem QvZ (d e:List Qai)(h:SmD d):QeS d e=some (decide (d=e)):=by
 have hl:=h.len
 have hcons:∀ x∈d,∀ m:List GCon,QdF x.2 m=some (decide (x.2=m)):=fun x hx m=>by
  have hc:=h.cons x hx
  rw [Qi1,QiH]
  by_cases hlen:x.2.length=m.length
  ·rw [Qad hlen,Qlt (L:=fun i=>QbB m x.2 (x.2.length:Int) i) (A:=.inr ()) (B:=.inl ()) hlen (fun i a b ha hb=>by
    rw [Qdj,Qaz ha,cond_true,Qao ha,Qaa,Qao hb,Qaa,Qmc,QBt _ _ (by have:=h.fields x hx a (List.mem_of_getElem? ha); omega)]
    simp only [Qaa,Qaj,Qdx]
    rw [QGo,QaC ha (by omega),Qan]) (by rw [Qdj,QaF,cond_false]),Qaa]
   cases decide (x.2=m)<;>rfl
  ·rw [Qaf hlen,Qqi hlen]
 rw [QkB,QiH]
 by_cases hlen:d.length=e.length
 ·rw [Qad hlen,Qlt (L:=fun i=>Qb0 e d (d.length:Int) i) (A:=.inr ()) (B:=.inl ()) hlen (fun i a b ha hb=>by
   rw [Qeu,Qaz ha,cond_true,Qao ha,Qaa,Qao hb,Qaa,QnY,hcons a (List.mem_of_getElem? ha)]
   simp only [Qaa,Qaj,Qdx]
   rw [QE3,QaC ha (by omega),Qan]) (by rw [Qeu,QaF,cond_false]),Qaa]
  cases decide (d=e)<;>rfl
 ·rw [Qaf hlen,Qqi hlen]
structure FewP (p:Qae):Prop where
 Qj4:p.1.length≤12
 names:∀ x∈p.1,x.1.length≤60∧x.2.length≤20
 cons:∀ x∈p.1,∀ c∈x.2,c.1.length≤60∧c.2.length≤10
 len:p.2.length≤6
 funs:∀ f∈p.2,f.1.length≤100∧Small f
theorem FewP.small {p:Qae}(h:FewP p):Qj3 p:=⟨⟨by have:=h.Qj4; omega,fun x hx=>by have:=(h.names x hx).1; omega,fun x hx=>by have:=(h.names x hx).2; omega,fun x hx c hc=>by have:=(h.cons x hx c hc).1; omega,fun x hx c hc=>by have:=(h.cons x hx c hc).2; omega⟩,by have:=h.len; omega,fun f hf=>by
 obtain ⟨h1,h2⟩:=h.funs f hf
 have h3:=h2.vars
 have h4:=h2.code
 exact ⟨by omega,by show (Qac f).length≤_; omega,by show (Qag f).length≤_; omega,fun n hn=>(h2.nodes n hn).big⟩⟩
theorem FewP.smD {p:Qae}(h:FewP p):SmD p.1:=⟨by have:=h.Qj4; omega,fun x hx=>by have:=(h.names x hx).2; omega,fun x hx c hc=>by have:=(h.cons x hx c hc).2; omega⟩
theorem QG8 (v0:List GFun)(v1 v2:Int)(v3:List Qab)(v4 v5:Int)(l:List Qak)(hl:l.length≤1000):Qfh v0 v1 v2 v3 v4 v5 l (l.length:Int) 0=some (if (l.all fun b=>!decide (12<(b.1.length:Int)))=true then .inr () else .inl ()):=by
 refine Qcf (L:=fun i=>Qfh v0 v1 v2 v3 v4 v5 l (l.length:Int) i) (p:=fun (b:Qak)=>!decide (12<(b.1.length:Int))) (fun i x hx=>?_) ?_
 ·rw [QjW,Qaz hx,cond_true,Qao hx,Qaa,QaC hx (by omega)]
  cases decide (12<(x.1.length:Int))<;>rfl
 ·rw [QjW,QaF,cond_false]
def fewN (n:Qab):Bool:=!(decide (12<((QaG n).length:Int))||decide (12<((Qbf n).length:Int))||decide (20<((nBr n).length:Int)))&&(nBr n).all fun b=>!decide (12<(b.1.length:Int))
theorem QG9 (v0:List GFun)(v1 v2:Int)(l:List Qab)(hl:l.length≤1000):Qfg v0 v1 v2 l (l.length:Int) 0=some (if l.all fewN=true then .inr () else .inl ()):=by
 refine Qcf (L:=fun i=>Qfg v0 v1 v2 l (l.length:Int) i) (p:=fewN) (fun i x hx=>?_) ?_
 ·rw [QjV,Qaz hx,cond_true,Qao hx,Qaa,QaC hx (by omega)]
  simp only [Qaa,Qaj,Qbq]
  unfold fewN
  by_cases h20:20<((nBr x).length:Int)
  ·rw [show decide (20<(x.2.2.2.2.2.2.2.2.1.length:Int))=true from Qc1 h20]
   simp
  ·rw [QG8 _ _ _ _ _ _ x.2.2.2.2.2.2.2.2.1 (by show (nBr x).length≤1000; omega)]
   show (bif (decide (12<((QaG x).length:Int))||decide (12<((Qbf x).length:Int))||decide (20<((nBr x).length:Int))) then _ else _)=_
   cases (decide (12<((QaG x).length:Int))||decide (12<((Qbf x).length:Int))||decide (20<((nBr x).length:Int)))<;>cases (nBr x).all (fun b=>!decide (12<(b.1.length:Int)))<;>rfl
 ·rw [QjV,QaF,cond_false]
def fewF (f:GFun):Bool:=!(decide (100<(f.1.length:Int))||decide (120<((Qac f).length:Int))||decide (80<((Qag f).length:Int))||decide (200<fPar f))&&(Qag f).all fewN
theorem QHa (l:List GFun)(hl:l.length≤1000):Qff l (l.length:Int) 0=some (if l.all fewF=true then .inr () else .inl ()):=by
 refine Qcf (L:=fun i=>Qff l (l.length:Int) i) (p:=fewF) (fun i x hx=>?_) ?_
 ·rw [QjU,Qaz hx,cond_true,Qao hx,Qaa,QaC hx (by omega)]
  simp only [Qaa,Qaj,Qbq]
  unfold fewF
  by_cases h80:80<((Qag x).length:Int)
  ·rw [show decide (80<(x.2.2.2.2.1.length:Int))=true from Qc1 h80]
   simp
  ·rw [QG9 _ _ _ x.2.2.2.2.1 (by show (Qag x).length≤1000; omega)]
   show (bif (decide (100<(x.1.length:Int))||decide (120<((Qac x).length:Int))||decide (80<((Qag x).length:Int))||decide (200<fPar x)) then _ else _)=_
   cases (decide (100<(x.1.length:Int))||decide (120<((Qac x).length:Int))||decide (80<((Qag x).length:Int))||decide (200<fPar x))<;>cases (Qag x).all fewN<;>rfl
 ·rw [QjU,QaF,cond_false]
def fewC (c:GCon):Bool:=!(decide (60<(c.1.length:Int))||decide (10<(c.2.length:Int)))
theorem QHb (p:Qae)(d:List Qai)(m i0:Int)(l:List GCon)(hl:l.length≤1000):Qfe p d m i0 l (l.length:Int) 0=some (if l.all fewC=true then .inr () else .inl ()):=by
 refine Qcf (L:=fun i=>Qfe p d m i0 l (l.length:Int) i) (p:=fewC) (fun i x hx=>?_) ?_
 ·rw [QjT,Qaz hx,cond_true,Qao hx,Qaa,QaC hx (by omega)]
  simp only [Qaa,Qaj,Qbq]
  unfold fewC
  cases (decide (60<(x.1.length:Int))||decide (10<(x.2.length:Int)))<;>rfl
 ·rw [QjT,QaF,cond_false]
def fewD (x:Qai):Bool:=!(decide (60<(x.1.length:Int))||decide (20<(x.2.length:Int)))&&x.2.all fewC
theorem QHc (p:Qae)(l:List Qai)(hl:l.length≤1000):Qfd p l (l.length:Int) 0=some (if l.all fewD=true then .inr () else .inl ()):=by
 refine Qcf (L:=fun i=>Qfd p l (l.length:Int) i) (p:=fewD) (fun i x hx=>?_) ?_
 ·rw [QjS,Qaz hx,cond_true,Qao hx,Qaa,QaC hx (by omega)]
  simp only [Qaa,Qaj,Qbq]
  unfold fewD
  by_cases h20:20<(x.2.length:Int)
  ·rw [Qc1 h20]
   simp
  ·rw [QHb _ _ _ _ x.2 (by omega)]
   cases (decide (60<(x.1.length:Int))||decide (20<(x.2.length:Int)))<;>cases x.2.all fewC<;>rfl
 ·rw [QjS,QaF,cond_false]
theorem QDo (p:Qae):∃ b,QjH p=some b∧(b=true→FewP p):=by
 rw [Qt4]
 simp only [Qaa,Qaj,Qbq]
 by_cases h1:12<(p.1.length:Int)
 ·rw [Qc1 h1]; exact ⟨_,rfl,fun h=>by cases h⟩
 ·by_cases h2:6<(p.2.length:Int)
  ·rw [Qa7 h1,Qc1 h2]; exact ⟨_,rfl,fun h=>by cases h⟩
  ·rw [Qa7 h1,Qa7 h2,QHc p p.1 (by omega),QHa p.2 (by omega)]
   cases hd:p.1.all fewD with
   | false=>exact ⟨_,rfl,fun h=>by cases h⟩
   | true=>
    cases hf:p.2.all fewF with
    | false=>exact ⟨_,rfl,fun h=>by cases h⟩
    | true=>
     refine ⟨_,rfl,fun _=>⟨by omega,fun x hx=>?_,fun x hx c hc=>?_,by omega,fun f hff=>?_⟩⟩
     ·have:=List.all_eq_true.1 hd x hx
      unfold fewD at this
      simp only [Bool.and_eq_true,Bool.not_eq_true',Bool.or_eq_false_iff,decide_eq_false_iff_not] at this
      omega
     ·have:=List.all_eq_true.1 hd x hx
      unfold fewD at this
      rw [Bool.and_eq_true] at this
      have:=List.all_eq_true.1 this.2 c hc
      unfold fewC at this
      simp only [Bool.not_eq_true',Bool.or_eq_false_iff,decide_eq_false_iff_not] at this
      omega
     ·have:=List.all_eq_true.1 hf f hff
      unfold fewF at this
      simp only [Bool.and_eq_true,Bool.not_eq_true',Bool.or_eq_false_iff,decide_eq_false_iff_not] at this
      obtain ⟨⟨⟨⟨h3,h4⟩,h5⟩,h6⟩,h7⟩:=this
      refine ⟨by omega,by omega,by omega,fun n hn=>?_⟩
      have:=List.all_eq_true.1 h7 n hn
      unfold fewN at this
      simp only [Bool.and_eq_true,Bool.not_eq_true',Bool.or_eq_false_iff,decide_eq_false_iff_not] at this
      obtain ⟨⟨⟨h8,h9⟩,h10⟩,h11⟩:=this
      refine ⟨by omega,by omega,by omega,fun b hb=>?_⟩
      have:=List.all_eq_true.1 h11 b hb
      simp only [Bool.not_eq_true',decide_eq_false_iff_not] at this
      omega
theorem Qxi (p:Qae):∀ (fs:List GFun) (i:Nat),chkL p i fs=0→∀ (j:Nat) f,fs[j]?=some f→chkF p (i+j) f=0
 | [],i,h,j,f,hf=>by simp at hf
 | g::fs,i,h,j,f,hf=>by
  rw [chkL] at h
  split at h
  ·rename_i hg
   cases j with
   | zero=>simp at hf; subst hf; exact hg
   | succ j=>
    have:=Qxi p fs (i+1) h j f (by simpa using hf)
    rw [show i+(j+1)=i+1+j by omega]
    exact this
  ·rename_i hg; exact absurd h hg
theorem Qxj {p:Qae}(h:chk p=0):∀ (j:Nat) f,p.2[j]?=some f→chkF p j f=0:=by
 unfold chk at h
 split at h
 ·rename_i h1; exact absurd h h1
 ·split at h
  ·cases h
  ·intro j f hf
   have:=Qxi p p.2 0 h j f hf
   rwa [Nat.zero_add] at this
noncomputable def norm (f:GFun):GFun:=match Qbb f with |some x=>x.1 |none=>f
noncomputable def QyH (b:Qae)(i:Nat)(f:GFun):Bool:=match b.2[i]? with |some g=>decide (norm f=norm g) |none=>false
theorem QDp {b:Qae}{i:Nat}{f g x y:GFun}(hg:b.2[i]?=some g)(h3:norm f=x)(h4:norm g=y):QyH b i f=decide (x=y):=by
 unfold QyH
 rw [hg]
 simp only [h3,h4]
end Go.Proofs.YtkecfadnfnnfaaaGreatDoor.LabB.V
