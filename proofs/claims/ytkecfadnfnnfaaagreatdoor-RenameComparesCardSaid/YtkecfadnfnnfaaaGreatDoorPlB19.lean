/- Of the models: likeness of programs, both sides; RenameCompares. -/
import Derived.Test.YtkecfadnfnnfaaaGreatDoorPlB18
set_option linter.unusedVariables false
set_option linter.unusedSimpArgs false
namespace Go.Proofs.YtkecfadnfnnfaaaGreatDoor.LabB.V
open Go Go.Ev Go.Sy Go.Proofs.YtkecfadnfnnfaaaGreatDoor.LabB
theorem QBO {α:Type}[DecidableEq α]:∀ (l m:List α) (i:Nat) (pre:List α),i=pre.length→l.length=m.length→allI (fun (i:Nat) (x:α)=>decide ((pre++m)[i]?=some x)) i l=decide (l=m)
 | [],m,i,pre,hi,h=>by
  have:m=[]:=List.eq_nil_of_length_eq_zero (by simpa using h.symm)
  subst this
  simp [allI]
 | x::l,[],i,pre,hi,h=>by simp at h
 | x::l,y::m,i,pre,hi,h=>by
  have ih:=QBO l m (i+1) (pre++[y]) (by simp [hi]) (by simpa using h)
  have e:(fun (i:Nat) (x:α)=>decide ((pre++y::m)[i]?=some x))=fun (i:Nat) (x:α)=>decide (((pre++[y])++m)[i]?=some x):=by simp
  rw [allI,e,ih]
  have e2:(pre++y::m)[i]?=some y:=by rw [hi]; simp
  rw [e2,Bool.eq_iff_iff]
  simp only [Bool.and_eq_true,decide_eq_true_eq,Option.some.injEq,List.cons.injEq]
  exact ⟨fun ⟨a,b⟩=>⟨a.symm,b⟩,fun ⟨a,b⟩=>⟨a.symm,b⟩⟩
theorem QDq {α:Type}[DecidableEq α](l m:List α)(h:l.length=m.length):allI (fun (i:Nat) (x:α)=>decide (m[i]?=some x)) 0 l=decide (l=m):=QBO l m 0 [] rfl h
theorem QhY {α:Type}[DecidableEq α]{l m:List α}(h:¬ l.length=m.length):decide (l=m)=false:=decide_eq_false (fun e=>h (by rw [e]))
theorem QBP {α:Type}{l m:List α}{i:Nat}{x:α}(h:l.length=m.length)(hx:l[i]?=some x):∃ y,m[i]?=some y:=⟨m[i]'(by have:=Qau hx; omega),List.getElem?_eq_getElem _⟩
theorem Qe5 {α R:Type}[DecidableEq α]{L:Int→Option R}{l m:List α}{A B:R}(hl:l.length=m.length)
  (h:∀ (i:Nat) x y,l[i]?=some x→m[i]?=some y→L i=if decide (x=y)=true then L ((i+1:Nat):Int) else some A) (he:L (l.length:Int)=some B):
  L 0=some (if decide (l=m)=true then B else A):=by
 rw [← QDq l m hl]
 refine QdE (fun i x hx=>?_) he
 obtain ⟨y,hy⟩:=QBP hl hx
 rw [h i x y hx hy,hy]
 have:decide (some y=some x)=decide (x=y):=by rw [Bool.eq_iff_iff]; simp [eq_comm]
 rw [this]
theorem QcV {α β:Type}(l:List α)(m:List β):decide ((l.length:Int)=(m.length:Int))=decide (l.length=m.length):=by
 rw [Bool.eq_iff_iff,decide_eq_true_eq,decide_eq_true_eq]
 omega
theorem Qos (l m:List Int)(hl:l.length≤1000000):Qdj l m=some (decide (l=m)):=by
 rw [Qng,QcV]
 by_cases h:l.length=m.length
 ·rw [Qab h,Qe5 (L:=fun i=>QcT l m (l.length:Int) i) (A:=.inl ()) (B:=.inr ()) h (fun i x y hx hy=>by
   rw [QfS,Qam hx,cond_true,Qah hx,Qaa,Qah hy,Qaa,Qan hx (by omega),Qai]) (by rw [QfS,Qap,cond_false]),Qaa]
  cases decide (l=m)<;>rfl
 ·rw [Qac h,QhY h]
theorem QBQ (l m:List Int)(hl:l.length≤1000000):Qjg l m=some (decide (l=m)):=by
 rw [Qo6,QcV]
 by_cases h:l.length=m.length
 ·rw [Qab h,Qe5 (L:=fun i=>Qd8 l m (l.length:Int) i) (A:=.inl ()) (B:=.inr ()) h (fun i x y hx hy=>by
   rw [Qg8,Qam hx,cond_true,Qah hx,Qaa,Qah hy,Qaa,Qan hx (by omega),Qai]) (by rw [Qg8,Qap,cond_false]),Qaa]
  cases decide (l=m)<;>rfl
 ·rw [Qac h,QhY h]
theorem var_eq (x y:GVar):(decide (x.1=y.1)&&(x.2==y.2))=decide (x=y):=by
 rw [Bool.eq_iff_iff]
 simp [Prod.ext_iff]
theorem QBR (l m:List GVar)(hl:l.length≤1000000):QgV l m=some (decide (l=m)):=by
 rw [Qnb,QcV]
 by_cases h:l.length=m.length
 ·rw [Qab h,Qe5 (L:=fun i=>QcS l m (l.length:Int) i) (A:=.inl ()) (B:=.inr ()) h (fun i x y hx hy=>by
   rw [QfP,Qam hx,cond_true,Qah hx,Qaa,Qah hy,Qaa,var_eq,Qan hx (by omega),Qai]) (by rw [QfP,Qap,cond_false]),Qaa]
  cases decide (l=m)<;>rfl
 ·rw [Qac h,QhY h]
theorem Qrt (l m:List Int)(hl:l.length≤1000000):QdM l m=some (decide (l=m)):=by
 rw [Qof,QcV]
 by_cases h:l.length=m.length
 ·rw [Qab h,Qe5 (L:=fun i=>Qds l m i) (A:=.inl ()) (B:=.inr ()) h (fun i x y hx hy=>by
   rw [Qf9,Qam hx,cond_true,Qah hx,Qaa,Qah hy,Qaa,Qan hx (by omega),Qai]) (by rw [Qf9,Qap,cond_false]),Qaa]
  cases decide (l=m)<;>rfl
 ·rw [Qac h,QhY h]
instance dn1:DecidableEq (List Qas×Int):=inferInstance
instance dn2:DecidableEq (Bool×(List Qas×Int)):=inferInstance
instance dn3:DecidableEq (List Int×(Bool×(List Qas×Int))):=inferInstance
instance dn4:DecidableEq (Int×(List Int×(Bool×(List Qas×Int)))):=inferInstance
instance dn5:DecidableEq (Int×(Int×(List Int×(Bool×(List Qas×Int))))):=inferInstance
instance dn6:DecidableEq (Int×(Int×(Int×(List Int×(Bool×(List Qas×Int)))))):=inferInstance
instance dn7:DecidableEq (List Int×(Int×(Int×(Int×(List Int×(Bool×(List Qas×Int))))))):=inferInstance
instance dn8:DecidableEq (Int×(List Int×(Int×(Int×(Int×(List Int×(Bool×(List Qas×Int)))))))):=inferInstance
instance dn9:DecidableEq Qae:=inferInstance
instance dn10:DecidableEq (List Qae):=inferInstance
instance df1:DecidableEq (List Qae×GVar):=inferInstance
instance df2:DecidableEq (List GVar×(List Qae×GVar)):=inferInstance
instance df3:DecidableEq (Int×(List GVar×(List Qae×GVar))):=inferInstance
instance df4:DecidableEq (Int×(Int×(List GVar×(List Qae×GVar)))):=inferInstance
instance df5:DecidableEq GFun:=inferInstance
theorem QGv (x y:Qas):(decide (x.2=y.2)&&decide (x.1=y.1))=decide (x=y):=by
 rw [Bool.eq_iff_iff]
 simp [Prod.ext_iff]
 exact and_comm
theorem QDr (l m:List Qas)(hl:l.length≤1000000)(hb:∀ b∈l,b.1.length≤1000000):Qei l m=some (decide (l=m)):=by
 rw [Qj3,QcV]
 by_cases h:l.length=m.length
 ·rw [Qab h,Qe5 (L:=fun i=>QbM m l (l.length:Int) i) (A:=.inr ()) (B:=.inl ()) h (fun i x y hx hy=>by
   rw [QdZ,Qam hx,cond_true,Qah hx,Qaa,Qah hy,Qaa,Qnj,Qos _ _ (hb x (List.mem_of_getElem? hx))]
   simp only [Qaa,Qaf,QbF]
   rw [QGv,Qan hx (by omega),Qai]) (by rw [QdZ,Qap,cond_false]),Qaa]
  cases decide (l=m)<;>rfl
 ·rw [Qac h,QhY h]
theorem QE9 (a b:Qae)(h:(nBr a).length=(nBr b).length)(hl:(nBr a).length≤1000000)(hb:∀ x∈nBr a,x.1.length≤1000000):Qci a b 0=some (if decide (nBr a=nBr b)=true then .inr () else .inl ()):=by
 refine Qe5 (L:=fun i=>Qci a b i) h (fun i x y hx hy=>?_) ?_
 ·rw [Qf8,Qam hx,cond_true,Qah hx,Qaa,Qah hy,Qaa,Qrt _ _ (hb x (List.mem_of_getElem? hx)),Qaa,Qan hx (by omega),← QGv x y]
  cases decide (x.2=y.2)<;>cases decide (x.1=y.1)<;>rfl
 ·rw [Qf8,Qap,cond_false]
theorem QBS (a b:Qae):decide (a=b)=(decide (nOp a=nOp b)&&decide (nVar a=nVar b)&&decide (nCon a=nCon b)&&decide (nNum a=nNum b)&&decide (nFun a=nFun b)&&(Qj9 a==Qj9 b)&&decide (Qf2 a=Qf2 b)&&decide (QaO a=QaO b)&&decide (QbS a=QbS b)&&decide (nBr a=nBr b)):=by
 rw [Bool.eq_iff_iff]
 obtain ⟨a1,a2,a3,a4,a5,a6,a7,a8,a9,a10⟩:=a
 obtain ⟨b1,b2,b3,b4,b5,b6,b7,b8,b9,b10⟩:=b
 simp only [decide_eq_true_eq,Bool.and_eq_true,beq_iff_eq,Prod.mk.injEq]
 constructor
 ·rintro ⟨h1,h2,h3,h4,h5,h6,h7,h8,h9,h10⟩
  exact ⟨⟨⟨⟨⟨⟨⟨⟨⟨h1,h2⟩,h4⟩,h5⟩,h6⟩,h8⟩,h10⟩,h3⟩,h7⟩,h9⟩
 ·rintro ⟨⟨⟨⟨⟨⟨⟨⟨⟨h1,h2⟩,h4⟩,h5⟩,h6⟩,h8⟩,h10⟩,h3⟩,h7⟩,h9⟩
  exact ⟨h1,h2,h3,h4,h5,h6,h7,h8,h9,h10⟩
theorem Qze (a b:Qae)(ha:QaL a):Qjk a b=some (decide (a=b)):=by
 have h1:a.2.2.1.length≤12:=ha.args
 have h2:a.2.2.2.2.2.2.1.length≤12:=ha.more
 have h3:(nBr a).length≤20:=ha.br
 rw [Qpa,Qos _ _ (by omega),Qos _ _ (by omega),QDr a.2.2.2.2.2.2.2.2.1 _ (by show (nBr a).length≤_; omega) (fun b hb=>Nat.le_trans (ha.bs b hb) (by decide))]
 simp only [Qaa,Qaf,QbF]
 rw [QBS]
theorem QBT (a b:Qae)(ha:QaL a):Qh5 a b=some (decide (a=b)):=by
 have h1:a.2.2.1.length≤12:=ha.args
 have h2:a.2.2.2.2.2.2.1.length≤12:=ha.more
 have h3:(nBr a).length≤20:=ha.br
 rw [Qod,Qrt _ _ (by omega),Qrt _ _ (by omega)]
 simp only [Qaa,Qaf,QaG,Qll,QcV]
 rw [QBS]
 by_cases hl:(nBr a).length=(nBr b).length
 ·rw [QE9 a b hl (by omega) (fun b hb=>Nat.le_trans (ha.bs b hb) (by decide)),show decide (a.2.2.2.2.2.2.2.2.1.length=b.2.2.2.2.2.2.2.2.1.length)=true from QaY hl]
  show (bif _ then _ else _)=some (decide (a.1=b.1)&&decide (a.2.1=b.2.1)&&decide (a.2.2.2.1=b.2.2.2.1)&&decide (a.2.2.2.2.1=b.2.2.2.2.1)&&decide (a.2.2.2.2.2.1=b.2.2.2.2.2.1)&&(a.2.2.2.2.2.2.2.1==b.2.2.2.2.2.2.2.1)&&decide (a.2.2.2.2.2.2.2.2.2=b.2.2.2.2.2.2.2.2.2)&&decide (a.2.2.1=b.2.2.1)&&decide (a.2.2.2.2.2.2.1=b.2.2.2.2.2.2.1)&&decide (nBr a=nBr b))
  cases decide (a.1=b.1)<;>cases decide (a.2.1=b.2.1)<;>cases decide (a.2.2.2.1=b.2.2.2.1)<;>cases decide (a.2.2.2.2.1=b.2.2.2.2.1)<;>cases decide (a.2.2.2.2.2.1=b.2.2.2.2.2.1)<;>cases (a.2.2.2.2.2.2.2.1==b.2.2.2.2.2.2.2.1)<;>cases decide (a.2.2.2.2.2.2.2.2.2=b.2.2.2.2.2.2.2.2.2)<;>try rfl
  cases decide (a.2.2.1=b.2.2.1)<;>cases decide (a.2.2.2.2.2.2.1=b.2.2.2.2.2.2.1)<;>cases decide (nBr a=nBr b)<;>rfl
 ·rw [show decide (a.2.2.2.2.2.2.2.2.1.length=b.2.2.2.2.2.2.2.2.1.length)=false from QaD hl,show decide (nBr a=nBr b)=false from QhY hl,Bool.and_false]
  simp
theorem QDW (x y:GFun):decide (x=y)=(decide (x.1=y.1)&&decide (fPar x=fPar y)&&decide (fRes x=fRes y)&&(fExt x==fExt y)&&decide (QaM x=QaM y)&&decide (Qad x=Qad y)&&decide (Qaj x=Qaj y)):=by
 rw [Bool.eq_iff_iff]
 obtain ⟨a1,a2,a3,a4,a5,a6,a7⟩:=x
 obtain ⟨b1,b2,b3,b4,b5,b6,b7⟩:=y
 simp only [decide_eq_true_eq,Bool.and_eq_true,beq_iff_eq,Prod.mk.injEq]
 constructor
 ·rintro ⟨h1,h2,h3,h4,h5,h6,h7⟩
  exact ⟨⟨⟨⟨⟨⟨h1,h2⟩,h3⟩,h7⟩,h6⟩,h4⟩,h5⟩
 ·rintro ⟨⟨⟨⟨⟨⟨h1,h2⟩,h3⟩,h7⟩,h6⟩,h4⟩,h5⟩
  exact ⟨h1,h2,h3,h4,h5,h6,h7⟩
theorem QBU (x y:GFun)(hc:(Qaj x).length≤80)(hv:(Qad x).length≤120)(hn:∀ n∈Qaj x,QaL n):Qji x y=some (decide (x=y)):=by
 have hcode:Qeg x.2.2.2.2.1 y.2.2.2.2.1=some (decide (Qaj x=Qaj y)):=by
  rw [Qj0,QcV]
  by_cases h:(Qaj x).length=(Qaj y).length
  ·rw [show decide (x.2.2.2.2.1.length=y.2.2.2.2.1.length)=true from QaY h,cond_true,Qe5 (L:=fun i=>QbJ (Qaj y) (Qaj x) ((Qaj x).length:Int) i) (A:=.inr ()) (B:=.inl ()) h (fun i n m hx hy=>by
    rw [QdW,Qam hx,cond_true,Qah hx,Qaa,Qah hy,Qaa,Qze n m (hn n (List.mem_of_getElem? hx)),Qaa,Qan hx (by omega),Qai]) (by rw [QdW,Qap,cond_false]),Qaa]
   cases decide (Qaj x=Qaj y)<;>rfl
  ·rw [show decide (x.2.2.2.2.1.length=y.2.2.2.2.1.length)=false from QaD h,cond_false,QhY h]
 rw [QrL,QBR x.2.2.2.1 y.2.2.2.1 (by have:x.2.2.2.1.length≤120:=hv; omega),hcode]
 simp only [Qaa,Qaf,QbF]
 rw [QDW]
theorem QDs (x y:GFun)(hc:(Qaj x).length≤80)(hv:(Qad x).length≤120)(hn:∀ n∈Qaj x,QaL n):Qgk x y=some (decide (x=y)):=by
 rw [Qo4]
 simp only [Qaa,Qaf,QaG,Qll,QcV]
 rw [QDW]
 show (bif (!decide (x.1=y.1)||!decide (fPar x=fPar y)||!decide (fRes x=fRes y)||!decide (QaM x=QaM y)||!(fExt x==fExt y)||!decide ((Qad x).length=(Qad y).length)||!decide ((Qaj x).length=(Qaj y).length)) then _ else _)=_
 by_cases hlv:(Qad x).length=(Qad y).length
 ·by_cases hlc:(Qaj x).length=(Qaj y).length
  ·rw [QaY hlv,QaY hlc,Qe5 (L:=fun i=>Qd6 x y i) (A:=.inl ()) (B:=.inr ()) hlv (fun i n m hx hy=>by
    rw [Qg6,Qam hx,cond_true,Qah hx,Qaa,Qah hy,Qaa,var_eq,Qan hx (by omega),Qai]) (by rw [Qg6,Qap,cond_false]),
    Qe5 (L:=fun i=>Qd7 x y i) (A:=.inr ()) (B:=.inl ()) hlc (fun i n m hx hy=>by
    rw [Qg7,Qam hx,cond_true,Qah hx,Qaa,Qah hy,Qaa,QBT n m (hn n (List.mem_of_getElem? hx)),Qaa,Qan hx (by omega),Qai]) (by rw [Qg7,Qap,cond_false])]
   cases decide (x.1=y.1)<;>cases decide (fPar x=fPar y)<;>cases decide (fRes x=fRes y)<;>cases decide (QaM x=QaM y)<;>cases (fExt x==fExt y)<;>try rfl
   cases decide (Qad x=Qad y)<;>cases decide (Qaj x=Qaj y)<;>rfl
  ·rw [QaD hlc,QhY hlc]
   simp
 ·rw [QaD hlv,QhY hlv]
  simp
theorem QDX (x y:GCon):decide (x=y)=(decide (x.1=y.1)&&decide (x.2=y.2)):=by
 rw [Bool.eq_iff_iff]; simp [Prod.ext_iff]
theorem QBV (x y:Qak):decide (x=y)=(decide (x.1=y.1)&&decide (x.2=y.2)):=by
 rw [Bool.eq_iff_iff]; simp [Prod.ext_iff]
structure SmD (d:List Qak):Prop where
 len:d.length≤1000
 cons:∀ x∈d,x.2.length≤1000
 fields:∀ x∈d,∀ c∈x.2,c.2.length≤1000
theorem Qw4 (d e:List Qak)(h:SmD d):Qfn d e=some (decide (d=e)):=by
 have hl:=h.len
 have hcons:∀ x∈d,∀ m:List GCon,Qee x.2 m=some (decide (x.2=m)):=fun x hx m=>by
  have hc:=h.cons x hx
  rw [QjW,QcV]
  by_cases hlen:x.2.length=m.length
  ·rw [Qab hlen,Qe5 (L:=fun i=>QbG m x.2 (x.2.length:Int) i) (A:=.inr ()) (B:=.inl ()) hlen (fun i a b ha hb=>by
    rw [QdR,Qam ha,cond_true,Qah ha,Qaa,Qah hb,Qaa,Qm9,QBQ _ _ (by have:=h.fields x hx a (List.mem_of_getElem? ha); omega)]
    simp only [Qaa,Qaf,QbF]
    rw [QDX,Qan ha (by omega),Qai]) (by rw [QdR,Qap,cond_false]),Qaa]
   cases decide (x.2=m)<;>rfl
  ·rw [Qac hlen,QhY hlen]
 rw [Qlv,QcV]
 by_cases hlen:d.length=e.length
 ·rw [Qab hlen,Qe5 (L:=fun i=>Qb9 e d (d.length:Int) i) (A:=.inr ()) (B:=.inl ()) hlen (fun i a b ha hb=>by
   rw [Qe0,Qam ha,cond_true,Qah ha,Qaa,Qah hb,Qaa,Qo3,hcons a (List.mem_of_getElem? ha)]
   simp only [Qaa,Qaf,QbF]
   rw [QBV,Qan ha (by omega),Qai]) (by rw [Qe0,Qap,cond_false]),Qaa]
  cases decide (d=e)<;>rfl
 ·rw [Qac hlen,QhY hlen]
theorem Qzf (d e:List Qak)(h:SmD d):QgQ d e=some (decide (d=e)):=by
 have hl:=h.len
 rw [Qm8,QcV]
 by_cases hlen:d.length=e.length
 ·rw [Qab hlen,Qe5 (L:=fun i=>QcP d e i) (A:=.inl ()) (B:=.inr ()) hlen (fun i x y hx hy=>by
   have hxm:=List.mem_of_getElem? hx
   have hc:=h.cons x hxm
   rw [QfM,Qam hx,cond_true,Qah hx,Qaa,Qah hy,Qaa,QBV,QcV]
   by_cases hn:x.1=y.1
   ·rw [Qab hn,QaY hn,Bool.true_and]
    by_cases hcl:x.2.length=y.2.length
    ·rw [Qab hcl,Qe5 (L:=fun j=>QcQ d e (i:Int) j) (A:=.inl ()) (B:=.inr ()) hcl (fun j a b ha hb=>by
      have hf:=h.fields x hxm a (List.mem_of_getElem? ha)
      rw [QfN,Qah hx,Qaa,Qam ha,cond_true,Qah ha,Qaa,Qah hy,Qaa,Qah hb,Qaa,QDX,QcV]
      simp only [Qaa,Qaf,Qll]
      by_cases hn2:a.1=b.1
      ·rw [QaY hn2,Bool.not_true,Bool.false_or,Bool.true_and]
       by_cases hfl:a.2.length=b.2.length
       ·rw [QaY hfl,Bool.not_true,cond_false,Qe5 (L:=fun k=>QcR a b d e (i:Int) (j:Int) k) (A:=.inl ()) (B:=.inr ()) hfl (fun k s t hs ht=>by
         rw [QfO,Qam hs,cond_true,Qah hs,Qaa,Qah ht,Qaa,Qan hs (by omega),Qai]) (by rw [QfO,Qap,cond_false]),Qaa,Qan ha (by omega)]
        cases decide (a.2=b.2)<;>rfl
       ·rw [QaD hfl,QhY hfl]; rfl
      ·rw [QaD hn2]; rfl) (by rw [QfN,Qah hx,Qaa,Qap,cond_false]),Qaa,Qan hx (by omega)]
     cases decide (x.2=y.2)<;>rfl
    ·rw [Qac hcl,QhY hcl]; rfl
   ·rw [Qac hn,QaD hn]; rfl) (by rw [QfM,Qap,cond_false]),Qaa]
  cases decide (d=e)<;>rfl
 ·rw [Qac hlen,QhY hlen]
structure FewP (p:Qag):Prop where
 Qol:p.1.length≤12
 names:∀ x∈p.1,x.1.length≤60∧x.2.length≤20
 cons:∀ x∈p.1,∀ c∈x.2,c.1.length≤60∧c.2.length≤10
 len:p.2.length≤6
 funs:∀ f∈p.2,f.1.length≤100∧Small f
theorem FewP.small {p:Qag}(h:FewP p):QeA p:=⟨⟨by have:=h.Qol; omega,fun x hx=>by have:=(h.names x hx).1; omega,fun x hx=>by have:=(h.names x hx).2; omega,fun x hx c hc=>by have:=(h.cons x hx c hc).1; omega,fun x hx c hc=>by have:=(h.cons x hx c hc).2; omega⟩,by have:=h.len; omega,fun f hf=>by
 obtain ⟨h1,h2⟩:=h.funs f hf
 have h3:=h2.vars
 have h4:=h2.code
 exact ⟨by omega,by show (Qad f).length≤_; omega,by show (Qaj f).length≤_; omega,fun n hn=>(h2.nodes n hn).big⟩⟩
theorem FewP.smD {p:Qag}(h:FewP p):SmD p.1:=⟨by have:=h.Qol; omega,fun x hx=>by have:=(h.names x hx).2; omega,fun x hx c hc=>by have:=(h.cons x hx c hc).2; omega⟩
theorem QG8 (v0:List GFun)(v1 v2:Int)(v3:List Qae)(v4 v5:Int)(l:List Qas)(hl:l.length≤1000):QfG v0 v1 v2 v3 v4 v5 l (l.length:Int) 0=some (if (l.all fun b=>!decide (12<(b.1.length:Int)))=true then .inr () else .inl ()):=by
 refine QaF (L:=fun i=>QfG v0 v1 v2 v3 v4 v5 l (l.length:Int) i) (p:=fun (b:Qas)=>!decide (12<(b.1.length:Int))) (fun i x hx=>?_) ?_
 ·rw [QkQ,Qam hx,cond_true,Qah hx,Qaa,Qan hx (by omega)]
  cases decide (12<(x.1.length:Int))<;>rfl
 ·rw [QkQ,Qap,cond_false]
def fewN (n:Qae):Bool:=!(decide (12<((QaO n).length:Int))||decide (12<((QbS n).length:Int))||decide (20<((nBr n).length:Int)))&&(nBr n).all fun b=>!decide (12<(b.1.length:Int))
theorem QG9 (v0:List GFun)(v1 v2:Int)(l:List Qae)(hl:l.length≤1000):QfF v0 v1 v2 l (l.length:Int) 0=some (if l.all fewN=true then .inr () else .inl ()):=by
 refine QaF (L:=fun i=>QfF v0 v1 v2 l (l.length:Int) i) (p:=fewN) (fun i x hx=>?_) ?_
 ·rw [QkP,Qam hx,cond_true,Qah hx,Qaa,Qan hx (by omega)]
  simp only [Qaa,Qaf,QaG]
  unfold fewN
  by_cases h20:20<((nBr x).length:Int)
  ·rw [show decide (20<(x.2.2.2.2.2.2.2.2.1.length:Int))=true from QaY h20]
   simp
  ·rw [QG8 _ _ _ _ _ _ x.2.2.2.2.2.2.2.2.1 (by show (nBr x).length≤1000; omega)]
   show (bif (decide (12<((QaO x).length:Int))||decide (12<((QbS x).length:Int))||decide (20<((nBr x).length:Int))) then _ else _)=_
   cases (decide (12<((QaO x).length:Int))||decide (12<((QbS x).length:Int))||decide (20<((nBr x).length:Int)))<;>cases (nBr x).all (fun b=>!decide (12<(b.1.length:Int)))<;>rfl
 ·rw [QkP,Qap,cond_false]
def fewF (f:GFun):Bool:=!(decide (100<(f.1.length:Int))||decide (120<((Qad f).length:Int))||decide (80<((Qaj f).length:Int))||decide (200<fPar f))&&(Qaj f).all fewN
theorem QHa (l:List GFun)(hl:l.length≤1000):QfE l (l.length:Int) 0=some (if l.all fewF=true then .inr () else .inl ()):=by
 refine QaF (L:=fun i=>QfE l (l.length:Int) i) (p:=fewF) (fun i x hx=>?_) ?_
 ·rw [QkO,Qam hx,cond_true,Qah hx,Qaa,Qan hx (by omega)]
  simp only [Qaa,Qaf,QaG]
  unfold fewF
  by_cases h80:80<((Qaj x).length:Int)
  ·rw [show decide (80<(x.2.2.2.2.1.length:Int))=true from QaY h80]
   simp
  ·rw [QG9 _ _ _ x.2.2.2.2.1 (by show (Qaj x).length≤1000; omega)]
   show (bif (decide (100<(x.1.length:Int))||decide (120<((Qad x).length:Int))||decide (80<((Qaj x).length:Int))||decide (200<fPar x)) then _ else _)=_
   cases (decide (100<(x.1.length:Int))||decide (120<((Qad x).length:Int))||decide (80<((Qaj x).length:Int))||decide (200<fPar x))<;>cases (Qaj x).all fewN<;>rfl
 ·rw [QkO,Qap,cond_false]
def fewC (c:GCon):Bool:=!(decide (60<(c.1.length:Int))||decide (10<(c.2.length:Int)))
theorem QHb (p:Qag)(d:List Qak)(m i0:Int)(l:List GCon)(hl:l.length≤1000):QfD p d m i0 l (l.length:Int) 0=some (if l.all fewC=true then .inr () else .inl ()):=by
 refine QaF (L:=fun i=>QfD p d m i0 l (l.length:Int) i) (p:=fewC) (fun i x hx=>?_) ?_
 ·rw [QkN,Qam hx,cond_true,Qah hx,Qaa,Qan hx (by omega)]
  simp only [Qaa,Qaf,QaG]
  unfold fewC
  cases (decide (60<(x.1.length:Int))||decide (10<(x.2.length:Int)))<;>rfl
 ·rw [QkN,Qap,cond_false]
def fewD (x:Qak):Bool:=!(decide (60<(x.1.length:Int))||decide (20<(x.2.length:Int)))&&x.2.all fewC
theorem QHc (p:Qag)(l:List Qak)(hl:l.length≤1000):QfC p l (l.length:Int) 0=some (if l.all fewD=true then .inr () else .inl ()):=by
 refine QaF (L:=fun i=>QfC p l (l.length:Int) i) (p:=fewD) (fun i x hx=>?_) ?_
 ·rw [QkM,Qam hx,cond_true,Qah hx,Qaa,Qan hx (by omega)]
  simp only [Qaa,Qaf,QaG]
  unfold fewD
  by_cases h20:20<(x.2.length:Int)
  ·rw [QaY h20]
   simp
  ·rw [QHb _ _ _ _ x.2 (by omega)]
   cases (decide (60<(x.1.length:Int))||decide (20<(x.2.length:Int)))<;>cases x.2.all fewC<;>rfl
 ·rw [QkM,Qap,cond_false]
theorem Qx7 (p:Qag):∃ b,Qm3 p=some b∧(b=true→FewP p):=by
 rw [Qvf]
 simp only [Qaa,Qaf,QaG]
 by_cases h1:12<(p.1.length:Int)
 ·rw [QaY h1]; exact ⟨_,rfl,fun h=>by cases h⟩
 ·by_cases h2:6<(p.2.length:Int)
  ·rw [QaD h1,QaY h2]; exact ⟨_,rfl,fun h=>by cases h⟩
  ·rw [QaD h1,QaD h2,QHc p p.1 (by omega),QHa p.2 (by omega)]
   cases hd:p.1.all fewD with
   | false=>exact ⟨_,rfl,fun h=>by cases h⟩
   | true=>
    cases hf:p.2.all fewF with
    | false=>exact ⟨_,rfl,fun h=>by cases h⟩
    | true=>
     refine ⟨_,rfl,fun _=>⟨by omega,fun x hx=>?_,fun x hx c hc=>?_,by omega,fun f hff=>?_⟩⟩
     ·have:=List.all_eq_true.1 hd x hx
      unfold fewD at this
      simp only [Bool.and_eq_true,Bool.not_eq_true',Bool.or_eq_false_iff,decide_eq_false_iff_not] at this
      omega
     ·have:=List.all_eq_true.1 hd x hx
      unfold fewD at this
      rw [Bool.and_eq_true] at this
      have:=List.all_eq_true.1 this.2 c hc
      unfold fewC at this
      simp only [Bool.not_eq_true',Bool.or_eq_false_iff,decide_eq_false_iff_not] at this
      omega
     ·have:=List.all_eq_true.1 hf f hff
      unfold fewF at this
      simp only [Bool.and_eq_true,Bool.not_eq_true',Bool.or_eq_false_iff,decide_eq_false_iff_not] at this
      obtain ⟨⟨⟨⟨h3,h4⟩,h5⟩,h6⟩,h7⟩:=this
      refine ⟨by omega,by omega,by omega,fun n hn=>?_⟩
      have:=List.all_eq_true.1 h7 n hn
      unfold fewN at this
      simp only [Bool.and_eq_true,Bool.not_eq_true',Bool.or_eq_false_iff,decide_eq_false_iff_not] at this
      obtain ⟨⟨⟨h8,h9⟩,h10⟩,h11⟩:=this
      refine ⟨by omega,by omega,by omega,fun b hb=>?_⟩
      have:=List.all_eq_true.1 h11 b hb
      simp only [Bool.not_eq_true',decide_eq_false_iff_not] at this
      omega
theorem Qx8 (p:Qag):∀ (fs:List GFun) (i:Nat),chkL p i fs=0→∀ (j:Nat) f,fs[j]?=some f→chkF p (i+j) f=0
 | [],i,h,j,f,hf=>by simp at hf
 | g::fs,i,h,j,f,hf=>by
  rw [chkL] at h
  split at h
  ·rename_i hg
   cases j with
   | zero=>simp at hf; subst hf; exact hg
   | succ j=>
    have:=Qx8 p fs (i+1) h j f (by simpa using hf)
    rw [show i+(j+1)=i+1+j by omega]
    exact this
  ·rename_i hg; exact absurd h hg
theorem QDt {p:Qag}(h:chk p=0):∀ (j:Nat) f,p.2[j]?=some f→chkF p j f=0:=by
 unfold chk at h
 split at h
 ·rename_i h1; exact absurd h h1
 ·split at h
  ·cases h
  ·intro j f hf
   have:=Qx8 p p.2 0 h j f hf
   rwa [Nat.zero_add] at this
theorem Qvv {p:Qag}(hp:FewP p)(h:chk p=0){j:Nat}{f:GFun}(hf:p.2[j]?=some f):∃ x,Qbs f=some (x,0)∧Qc6 f=some (x,0)∧(Qaj x).length≤80∧(Qad x).length≤120∧∀ n∈Qaj x,QaL n:=by
 obtain ⟨N,V,hw⟩:=Qw2 p j f (QDt h j f hf)
 refine Qw3 f (hp.funs f (List.mem_of_getElem? hf)).2 hw (fun he=>?_)
 have:=hw.shaped
 unfold Qfq at this
 split at this
 ·cases this
 ·simp only [he,if_true,Option.some.injEq,Prod.mk.injEq] at this
  exact ⟨this.1.symm,this.2.symm⟩
noncomputable def norm (f:GFun):GFun:=match Qbs f with |some x=>x.1 |none=>f
noncomputable def QBW (b:Qag)(i:Nat)(f:GFun):Bool:=match b.2[i]? with |some g=>decide (norm f=norm g) |none=>false
theorem Qx9 {b:Qag}{i:Nat}{f g x y:GFun}(hg:b.2[i]?=some g)(h3:norm f=x)(h4:norm g=y):QBW b i f=decide (x=y):=by
 unfold QBW
 rw [hg]
 simp only [h3,h4]
theorem QBX (a b:Qag)(ha:FewP a)(hb:FewP b):∃ z,Qmd a b=some z∧Qn4 a b=some z:=by
 have hal:=ha.len
 have hbl:=hb.len
 rw [QrE,QtP,Qx1 a ha.small,Qx1 b hb.small,QBE a ha.small,QBE b hb.small]
 simp only [Qaa,Qaf,Qll]
 cases hca:decide (chk a=0) with
 | false=>exact ⟨_,rfl,rfl⟩
 | true=>
  cases hcb:decide (chk b=0) with
  | false=>exact ⟨_,rfl,rfl⟩
  | true=>
   have h1:chk a=0:=of_decide_eq_true hca
   have h2:chk b=0:=of_decide_eq_true hcb
   simp only [Bool.not_true,Bool.or_false,cond_false]
   rw [Qw4 a.1 b.1 ha.smD,Qzf a.1 b.1 ha.smD,QjX]
   simp only [Qaa,QcV]
   cases hd:decide (a.1=b.1) with
   | false=>exact ⟨_,rfl,rfl⟩
   | true=>
    simp only [cond_true,Bool.not_true,Qaa,cond_false]
    by_cases hl:a.2.length=b.2.length
    ·rw [QaY hl]
     simp only [Bool.not_true,Qaa,cond_false,cond_true]
     have hp:∀ (i:Nat) f g,a.2[i]?=some f→b.2[i]?=some g→∃ x y,Qbs f=some (x,0)∧Qbs g=some (y,0)∧Qc6 f=some (x,0)∧Qc6 g=some (y,0)∧Qji x y=some (decide (x=y))∧Qgk x y=some (decide (x=y)):=by
      intro i f g hf hg
      obtain ⟨x,x1,x2,x3,x4,x5⟩:=Qvv ha h1 hf
      obtain ⟨y,y1,y2,_,_,_⟩:=Qvv hb h2 hg
      exact ⟨x,y,x1,y1,x2,y2,QBU x y x3 x4 x5,QDs x y x3 x4 x5⟩
     have e1:Qa7 b.2 a.2 (a.2.length:Int) 0=some (if allI (QBW b) 0 a.2=true then .inl () else .inr ()):=by
      refine QdE (L:=fun i=>Qa7 b.2 a.2 (a.2.length:Int) i) (fun i f hf=>?_) ?_
      ·obtain ⟨g,hg⟩:=QBP hl hf
       obtain ⟨x,y,h3,h4,_,_,h5,_⟩:=hp i f g hf hg
       have en:norm f=x:=by unfold norm; rw [h3]
       have em:norm g=y:=by unfold norm; rw [h4]
       rw [QdT,Qam hf,cond_true,Qah hf,Qaa,Qah hg,Qaa,Qo5,h3,h4]
       simp only [Qaa]
       rw [h5]
       simp only [Qaa]
       rw [Qx9 hg en em,Qan hf (by omega),Qai]
      ·rw [QdT,Qap,cond_false]
     have e2:QeQ a b 0=some (if allI (QBW b) 0 a.2=true then .inl () else .inr ()):=by
      refine QdE (L:=fun i=>QeQ a b i) (fun i f hf=>?_) ?_
      ·obtain ⟨g,hg⟩:=QBP hl hf
       obtain ⟨x,y,h3,h4,h6,h7,_,h5⟩:=hp i f g hf hg
       have en:norm f=x:=by unfold norm; rw [h3]
       have em:norm g=y:=by unfold norm; rw [h4]
       rw [QjF,Qam hf,cond_true,Qah hf,Qaa,h6,Qaa]
       simp only
       rw [Qah hg,Qaa,h7,Qaa]
       simp only
       rw [h5,Qx9 hg en em,Qan hf (by omega)]
       cases decide (x=y)<;>rfl
      ·rw [QjF,Qap,cond_false]
     rw [e1,e2]
     cases allI (QBW b) 0 a.2<;>exact ⟨_,rfl,rfl⟩
    ·rw [QaD hl]
     exact ⟨_,rfl,rfl⟩
theorem QDu (hawake:Qmc=some true)(a b:Qag):Qdx a b=some true:=by
 rw [Qjp,hawake,Qaa,cond_true]
 obtain ⟨x,hx,hx2⟩:=Qx7 a
 obtain ⟨y,hy,hy2⟩:=Qx7 b
 rw [hx,hy,Qaa]
 cases x with
 | false=>rfl
 | true=>
  rw [cond_true,Qaa]
  cases y with
  | false=>rfl
  | true=>
   obtain ⟨z,h1,h2⟩:=QBX a b (hx2 rfl) (hy2 rfl)
   rw [cond_true,h1,h2]
   simp [Qaa]
end Go.Proofs.YtkecfadnfnnfaaaGreatDoor.LabB.V
