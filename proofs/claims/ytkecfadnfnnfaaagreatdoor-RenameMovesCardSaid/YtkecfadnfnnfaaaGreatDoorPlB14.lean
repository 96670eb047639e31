/- Of the models: normal forms. -/
import Derived.Test.YtkecfadnfnnfaaaGreatDoorPlB11
set_option linter.unusedVariables false
set_option linter.unusedSimpArgs false
namespace Go.Proofs.YtkecfadnfnnfaaaGreatDoor.LabB.V
open Go Go.Ev Go.Sy Go.Proofs.YtkecfadnfnnfaaaGreatDoor.LabB
structure QaQ (n:Qab):Prop where
 args:(QaG n).length≤12
 more:(Qbf n).length≤12
 br:(nBr n).length≤20
 bs:∀ b∈nBr n,b.1.length≤12
theorem QaQ.big {n:Qab}(h:QaQ n):LabB.QaQ n:=⟨Nat.le_trans h.args (by decide),Nat.le_trans h.more (by decide),Nat.le_trans h.br (by decide),fun b hb=>Nat.le_trans (h.bs b hb) (by decide)⟩
theorem QhY (n:Qab)(h:QaQ n):Qep n=some (kids n):=LabB.QhY n h.big
theorem QfR (n:Qab)(h:QaQ n):QdT n=some (binds n):=LabB.QfR n h.big
theorem Qmn (n:Qab)(h:QaQ n):QjQ n=some (uses n):=LabB.Qmn n h.big
structure Small (f:GFun):Prop where
 code:(Qag f).length≤80
 vars:(Qac f).length≤120
 nodes:∀ n∈Qag f,QaQ n
def mark (c:Nat)(l:List Bool)(k:Int):Option (List Bool):=if 0≤k∧k<(c:Int)∧l[k.toNat]?=some false then some (l.set k.toNat true) else none
theorem Qkc (f:GFun)(re:List Bool)(hl:re.length=(Qag f).length)(k:Int):∃ re' b,QcP re f k=some (re',b)∧(match mark (Qag f).length re k with |some r=>re'=r∧b=true |none=>b=false):=by
 rw [Qme]
 simp only [QaJ,Qaa,cond_true,cond_false,Qda]
 by_cases h0:k<0
 ·rw [Qad h0]
  refine ⟨_,_,rfl,?_⟩
  rw [mark,if_neg (by omega)]
 ·rw [Qaf h0]
  by_cases h1:k<((Qag f).length:Int)
  ·rw [Qad h1]
   obtain ⟨x,hx,hx'⟩:=Qeg (l:=re) (i:=k) (by omega) (by omega)
   rw [hx,Qaa]
   cases x with
   | true=>
    refine ⟨_,_,rfl,?_⟩
    rw [mark,if_neg (by rw [hx']; simp)]
   | false=>
    refine ⟨_,_,rfl,?_⟩
    rw [mark,if_pos ⟨by omega,h1,hx'⟩]
    exact ⟨rfl,rfl⟩
  ·rw [Qaf h1]
   refine ⟨_,_,rfl,?_⟩
   rw [mark,if_neg (by omega)]
def Qd2 (c:Nat):List Int→List Bool×List Bool×List Int→Option (List Bool×List Bool×List Int)
 | [],s=>some s
 | v::l,(bo,sc,va)=>match mark c bo v with
  | none=>none
  | some bo'=>Qd2 c l (bo',sc.set v.toNat true,va++[v])
theorem Qcu {c:Nat}{l r:List Bool}{k:Int}(h:mark c l k=some r):0≤k∧k<(c:Int)∧l[k.toNat]?=some false∧r=l.set k.toNat true:=by
 unfold mark at h
 split at h
 ·rename_i hh
  simp only [Option.some.injEq] at h
  exact ⟨hh.1,hh.2.1,hh.2.2,h.symm⟩
 ·cases h
theorem QG0 (f:GFun)(hf:Small f)(l:List Int)(hl:l.length≤1000):∀ (r pre:List Int) (bo sc:List Bool) (va:List Int),l=pre++r→bo.length=(Qac f).length→sc.length=(Qac f).length→va.length+cf bo≤1000→
  ∃ z,QbU bo sc va f l (l.length:Int) (pre.length:Int)=some z∧(match Qd2 (Qac f).length r (bo,sc,va) with |some s=>z=.inr s |none=>∃ s,z=.inl s):=by
 intro r
 induction r with
 | nil=>
  intro pre bo sc va h hb hs hv
  rw [Qfq]
  subst h
  rw [QcM (Qg3 pre)]
  exact ⟨_,rfl,rfl⟩
 | cons x r ih=>
  intro pre bo sc va h hb hs hv
  rw [Qfq]
  simp only [QaJ,Qaa,cond_true,cond_false,Qda]
  subst h
  rw [QcZ (QjF pre x r),QhJ,Qaa]
  by_cases h0:x<0
  ·rw [Qad h0]
   refine ⟨_,rfl,?_⟩
   rw [Qd2,mark,if_neg (by omega)]
   exact ⟨_,rfl⟩
  ·rw [Qaf h0]
   by_cases h1:x<((Qac f).length:Int)
   ·rw [Qad h1]
    obtain ⟨y,hy,hy'⟩:=Qeg (l:=bo) (i:=x) (by omega) (by omega)
    rw [hy,Qaa]
    cases y with
    | true=>
     refine ⟨_,rfl,?_⟩
     rw [Qd2,mark,if_neg (by rw [hy']; simp)]
     exact ⟨_,rfl⟩
    | false=>
     obtain ⟨w,hw,_⟩:=Qeg (l:=sc) (i:=x) (by omega) (by omega)
     have hc:=Qhb bo x.toNat hy'
     rw [Qaa,QcM rfl,Qaa,hw,Qaa,Qad (by omega),QiM (pre:=pre) (x:=x) (r:=r) (by omega)]
     have:=ih (pre++[x]) (bo.set x.toNat true) (sc.set x.toNat true) (va++[x]) (Qhh ..) (by simp [hb]) (by simp [hs]) (by simp; omega)
     rw [Qd2,mark,if_pos ⟨by omega,h1,hy'⟩]
     exact this
   ·rw [Qaf h1]
    refine ⟨_,rfl,?_⟩
    rw [Qd2,mark,if_neg (by omega)]
    exact ⟨_,rfl⟩
theorem QBj (f:GFun)(hf:Small f)(l:List Int)(hl:l.length≤1000)(bo sc:List Bool)(va:List Int)(hb:bo.length=(Qac f).length)(hs:sc.length=(Qac f).length)(hv:va.length+cf bo≤1000):
  ∃ bo' sc' va' b,Qgw bo sc va f l=some (bo',sc',va',b)∧(match Qd2 (Qac f).length l (bo,sc,va) with |some s=>(bo',sc',va')=s∧b=true |none=>b=false):=by
 obtain ⟨z,h1,h2⟩:=QG0 f hf l hl l [] bo sc va rfl hb hs hv
 rw [Qml,show QbU bo sc va f l (l.length:Int) (0:Int)=some z from h1,Qaa]
 cases hbs:Qd2 (Qac f).length l (bo,sc,va) with
 | none=>
  rw [hbs] at h2
  obtain ⟨⟨a,b,d⟩,rfl⟩:=h2
  exact ⟨_,_,_,_,rfl,rfl⟩
 | some s=>
  rw [hbs] at h2
  obtain ⟨a,b,d⟩:=s
  simp only at h2
  subst h2
  exact ⟨_,_,_,_,rfl,rfl,rfl⟩
def QeI (l:List Int)(sc:List Bool):List Bool:=l.foldl (fun sc v=>sc.set v.toNat false) sc
theorem QGd (c:Nat)(l:List Int)(hl:l.length≤1000)(hr:∀ v∈l,0≤v∧v<(c:Int)):∀ (r pre:List Int) (sc:List Bool),l=pre++r→sc.length=c→QbV sc l (l.length:Int) (pre.length:Int)=some (QeI r sc):=by
 intro r
 induction r with
 | nil=>
  intro pre sc h hs
  rw [Qfr]
  subst h
  rw [QcM (Qg3 pre)]
  rfl
 | cons x r ih=>
  intro pre sc h hs
  rw [Qfr]
  subst h
  obtain ⟨h0,h1⟩:=hr x (by simp)
  obtain ⟨w,hw,_⟩:=Qeg (l:=sc) (i:=x) h0 (by omega)
  rw [QcZ (QjF pre x r),QhJ,Qaa,hw,Qaa,QiM (pre:=pre) (x:=x) (r:=r) (by omega),ih (pre++[x]) (sc.set x.toNat false) (Qhh ..) (by simp [hs])]
  rfl
theorem QyE (c:Nat)(l:List Int)(hl:l.length≤1000)(hr:∀ v∈l,0≤v∧v<(c:Int))(sc:List Bool)(hs:sc.length=c):QgA sc l=some (QeI l sc):=by
 rw [Qmm,show QbV sc l (l.length:Int) (0:Int)=some (QeI l sc) from QGd c l hl hr l [] sc rfl hs]
 rfl
def Qd0 (c:Nat)(sc:List Bool)(l:List Int):Bool:=l.all fun v=>decide (0≤v∧v<(c:Int)∧sc[v.toNat]?=some true)
theorem QGe (f:GFun)(n:Qab)(nodes:List Int)(sc re bo:List Bool)(va:List Int)(ok:Bool)(l:List Int)(hl:l.length≤1000)(hs:sc.length=(Qac f).length):∀ (r pre:List Int),l=pre++r→
  QbR nodes sc re bo va f ok n l (l.length:Int) (pre.length:Int)=some (if Qd0 (Qac f).length sc r=true then .inr () else .inl ()):=by
 intro r
 induction r with
 | nil=>
  intro pre h
  rw [Qfm]
  subst h
  rw [QcM (Qg3 pre)]
  rfl
 | cons x r ih=>
  intro pre h
  rw [Qfm]
  simp only [QaJ,Qaa,cond_true,cond_false,Qda]
  subst h
  rw [QcZ (QjF pre x r),QhJ,Qaa]
  unfold Qd0
  rw [List.all_cons]
  by_cases h0:x<0
  ·rw [Qad h0,Qa7 (by omega)]
   simp
  ·rw [Qaf h0]
   by_cases h1:x<((Qac f).length:Int)
   ·rw [Qad h1]
    obtain ⟨y,hy,hy'⟩:=Qeg (l:=sc) (i:=x) (by omega) (by omega)
    rw [hy,Qaa]
    cases y with
    | true=>
     rw [Qaa,Qda,QcZ rfl,QiM (pre:=pre) (x:=x) (r:=r) (by omega),ih (pre++[x]) (Qhh ..),Qc1 ⟨by omega,h1,hy'⟩,Bool.true_and]
     rfl
    | false=>
     rw [Qaa,Qda,QcM rfl,Qa7 (by rw [hy']; simp)]
     simp
   ·rw [Qaf h1,Qa7 (by omega)]
    simp
structure S where
 nodes:List Int
 sc:List Bool
 re:List Bool
 bo:List Bool
 va:List Int
def visL (f:GFun)(g:S→Int→Option S):List (Int×List Int)→S→Option S
 | [],s=>some s
 | (k,l)::r,s=>match mark (Qag f).length s.re k with
  | none=>none
  | some re=>match Qd2 (Qac f).length l (s.bo,s.sc,s.va) with
   | none=>none
   | some (bo,sc,va)=>match g ⟨s.nodes,sc,re,bo,va⟩ k with
    | none=>none
    | some s2=>visL f g r ⟨s2.nodes,QeI l s2.sc,s2.re,s2.bo,s2.va⟩
def vis (f:GFun):Nat→S→Int→Option S
 | 0,_,_=>none
 | d+1,s,at_=>match (Qag f)[at_.toNat]? with
  | none=>none
  | some n=>if Qd0 (Qac f).length s.sc (uses n)=true then visL f (vis f d) (kb n) ⟨s.nodes++[at_],s.sc,s.re,s.bo,s.va⟩ else none
structure Wf (f:GFun)(s:S):Prop where
 re:s.re.length=(Qag f).length
 bo:s.bo.length=(Qac f).length
 sc:s.sc.length=(Qac f).length
theorem QfS:∀ (l:List Int) (sc:List Bool),(QeI l sc).length=sc.length
 | [],sc=>rfl
 | v::l,sc=>by
  show (QeI l (sc.set v.toNat false)).length=_
  rw [QfS l,List.length_set]
theorem QdM {c:Nat}:∀ {l:List Int} {bo sc bo' sc':List Bool} {va va':List Int},Qd2 c l (bo,sc,va)=some (bo',sc',va')→bo'.length=bo.length∧sc'.length=sc.length∧va'=va++l∧va'.length+cf bo'=va.length+cf bo∧∀ v∈l,0≤v∧v<(c:Int)
 | [],bo,sc,bo',sc',va,va',h=>by
  simp only [Qd2,Option.some.injEq,Prod.mk.injEq] at h
  obtain ⟨rfl,rfl,rfl⟩:=h
  exact ⟨rfl,rfl,by simp,rfl,fun v hv=>by simp at hv⟩
 | v::l,bo,sc,bo',sc',va,va',h=>by
  simp only [Qd2] at h
  cases hm:mark c bo v with
  | none=>rw [hm] at h; cases h
  | some b=>
   rw [hm] at h
   obtain ⟨h0,h1,h2,rfl⟩:=Qcu hm
   obtain ⟨k1,k2,k3,k4,k5⟩:=QdM h
   have hc:=Qhb bo v.toNat h2
   refine ⟨by rw [k1,List.length_set],by rw [k2,List.length_set],by rw [k3]; simp,by rw [k4]; simp; omega,fun w hw=>?_⟩
   simp only [List.mem_cons] at hw
   rcases hw with rfl |hw
   ·exact ⟨h0,h1⟩
   ·exact k5 w hw
structure Kept (f:GFun)(s s':S)(k:Nat):Prop where
 wf:Wf f s'
 nodes:s'.nodes.length+cf s'.re=s.nodes.length+cf s.re+k
 vars:s'.va.length+cf s'.bo=s.va.length+cf s.bo
 pre:∃ r,s'.nodes=s.nodes++r
 prev:∃ r,s'.va=s.va++r
 le:cf s'.re≤cf s.re
theorem Qun (f:GFun)(g:S→Int→Option S)(hg:∀ s a s',Wf f s→g s a=some s'→Kept f s s' 1):∀ (r:List (Int×List Int)) (s s':S),Wf f s→visL f g r s=some s'→Kept f s s' 0
 | [],s,s',hw,h=>by
  simp only [visL,Option.some.injEq] at h
  subst h
  exact ⟨hw,rfl,rfl,⟨[],by simp⟩,⟨[],by simp⟩,Nat.le_refl _⟩
 | (k,l)::r,s,s',hw,h=>by
  simp only [visL] at h
  cases hm:mark (Qag f).length s.re k with
  | none=>rw [hm] at h; cases h
  | some re=>
   rw [hm] at h
   simp only at h
   cases hb:Qd2 (Qac f).length l (s.bo,s.sc,s.va) with
   | none=>rw [hb] at h; cases h
   | some t=>
    obtain ⟨bo,sc,va⟩:=t
    rw [hb] at h
    simp only at h
    cases hv:g ⟨s.nodes,sc,re,bo,va⟩ k with
    | none=>rw [hv] at h; cases h
    | some s2=>
     rw [hv] at h
     simp only at h
     obtain ⟨h0,h1,h2,rfl⟩:=Qcu hm
     obtain ⟨k1,k2,k3,k4,k5⟩:=QdM hb
     have hc:=Qhb s.re k.toNat h2
     have w1:Wf f ⟨s.nodes,sc,s.re.set k.toNat true,bo,va⟩:=⟨by simp [hw.re],by rw [k1,hw.bo],by rw [k2,hw.sc]⟩
     have q:=hg _ _ _ w1 hv
     have w2:Wf f ⟨s2.nodes,QeI l s2.sc,s2.re,s2.bo,s2.va⟩:=⟨q.wf.re,q.wf.bo,by rw [QfS]; exact q.wf.sc⟩
     have p:=Qun f g hg r _ _ w2 h
     obtain ⟨r1,hr1⟩:=q.pre
     obtain ⟨r2,hr2⟩:=p.pre
     obtain ⟨u1,hu1⟩:=q.prev
     obtain ⟨u2,hu2⟩:=p.prev
     have a1:=q.nodes
     have a2:=p.nodes
     have b1:=q.vars
     have b2:=p.vars
     have c1:=q.le
     have c2:=p.le
     simp only at a1 a2 b1 b2 c1 c2 hr1 hr2 hu1 hu2
     exact ⟨p.wf,by omega,by omega,⟨r1++r2,by rw [hr2,hr1,List.append_assoc]⟩,⟨l++(u1++u2),by rw [hu2,hu1,k3]; simp⟩,by omega⟩
theorem Qkv (f:GFun):∀ (d:Nat) (s:S) (a:Int) (s':S),Wf f s→vis f d s a=some s'→Kept f s s' 1
 | 0,s,a,s',hw,h=>by simp [vis] at h
 | d+1,s,a,s',hw,h=>by
  simp only [vis] at h
  cases hn:(Qag f)[a.toNat]? with
  | none=>rw [hn] at h; cases h
  | some n=>
   rw [hn] at h
   simp only at h
   split at h
   ·have p:=Qun f (vis f d) (Qkv f d) _ ⟨s.nodes++[a],s.sc,s.re,s.bo,s.va⟩ _ ⟨hw.re,hw.bo,hw.sc⟩ h
    obtain ⟨r,hr⟩:=p.pre
    have a1:=p.nodes
    have b1:=p.vars
    have c1:=p.le
    simp only [List.length_append,List.length_cons,List.length_nil] at a1 b1 c1 hr
    exact ⟨p.wf,by omega,by omega,⟨[a]++r,by rw [hr]; simp⟩,p.prev,c1⟩
   ·cases h
theorem QBe (n:Qab)(h:QaQ n):(kb n).length≤1000:=by
 have hb:=h.br
 unfold kb
 by_cases hn:nOp n=9
 ·rw [if_pos hn]; simp; omega
 ·rw [if_neg hn,List.length_map,kids,if_neg hn]
  split<;>simp
theorem Qor (n:Qab)(h:QaQ n):∀ p∈kb n,p.2.length≤1000:=by
 intro p hp
 unfold kb at hp
 split at hp
 ·simp only [List.mem_map] at hp
  obtain ⟨b,hb,rfl⟩:=hp
  have:=h.bs b hb
  simp only
  omega
 ·rename_i hn
  simp only [List.mem_map] at hp
  obtain ⟨k,hk,rfl⟩:=hp
  simp only [binds,if_neg hn]
  split<;>simp
theorem Qoq (n:Qab)(h:QaQ n):(uses n).length≤1000:=by
 have ha:=h.args
 have hm:=h.more
 unfold uses
 split
 ·simp
 ·split
  ·have:=List.length_filter_le (fun v=>decide (0≤v)) (QaG n++Qbf n)
   rw [List.length_append] at this
   omega
  ·omega
def Agr (r:List Int×List Bool×List Bool×List Bool×List Int×Bool)(o:Option S):Prop:=match o with
 | some s=>r=(s.nodes,s.sc,s.re,s.bo,s.va,true)
 | none=>r.2.2.2.2.2=false
def Does (f:GFun)(g:S→Int→Option S)(s:S)(a:Int):Prop:=∃ r,Qb9 s.nodes s.sc s.re s.bo s.va f true a=some r∧Agr r (g s a)
theorem QGf (f:GFun)(hf:Small f)(n:Qab)(hn:QaQ n)(g:S→Int→Option S)(D:Nat)(hg:∀ s a s',Wf f s→g s a=some s'→Kept f s s' 1)
  (hd:∀ s a,Wf f s→0≤a→a<((Qag f).length:Int)→cf s.re<D→s.nodes.length+cf s.re<(Qag f).length→s.va.length+cf s.bo≤1000→Does f g s a):
  ∀ (r pre:List (Int×List Int)) (s:S),kb n=pre++r→Wf f s→cf s.re≤D→s.nodes.length+cf s.re≤(Qag f).length→s.va.length+cf s.bo≤1000→
  ∃ z,QbT s.nodes s.sc s.re s.bo s.va f true n (kids n) ((kids n).length:Int) (pre.length:Int)=some z∧
    (match visL f g r s with |some s'=>z=.inr (s'.nodes,s'.sc,s'.re,s'.bo,s'.va,true) |none=>∃ t,z=.inl t∧t.2.2.2.2.2=false):=by
 have hkl:=QBe n hn
 intro r
 induction r with
 | nil=>
  intro pre s h hw hc hnn hv
  rw [Qfp]
  rw [Qaf (by rw [QbW,h]; simp)]
  exact ⟨_,rfl,rfl⟩
 | cons x r ih=>
  obtain ⟨k,l⟩:=x
  intro pre s h hw hc hnn hv
  rw [Qfp]
  have hlen:(kids n).length=pre.length+(r.length+1):=by rw [QbW,h]; simp
  have hkl2:(kb n).length=pre.length+(r.length+1):=by rw [h]; simp
  have hat:Sy.at' (kids n) (pre.length:Int)=some k:=by
   rw [QkO,QbW,h,List.map_append,List.getElem?_append_right (by simp)]
   simp
  have hll:l.length≤1000:=Qor n hn (k,l) (by rw [h]; simp)
  rw [Qad (by omega),hat,Qaa,QfR n hn,Qaa]
  have hjoin:(bif decide (n.1=(9:Int)) then Option.bind (Sy.at' n.2.2.2.2.2.2.2.2.1 (pre.length:Int)) fun v13=>some v13.1 else some (binds n))=some l:=by
   by_cases h9:nOp n=9
   ·rw [Qad h9,QkO]
    have hk:kb n=(nBr n).map (fun b=>(b.2,b.1)):=by unfold kb; rw [if_pos h9]
    have:(kb n)[pre.length]?=some (k,l):=by rw [h,List.getElem?_append_right (Nat.le_refl _)]; simp
    rw [hk,List.getElem?_map] at this
    cases hb:(nBr n)[pre.length]? with
    | none=>rw [hb] at this; simp at this
    | some b=>
     rw [hb] at this
     simp only [Option.map_some,Option.some.injEq,Prod.mk.injEq] at this
     rw [Qaa,this.2]
   ·rw [Qaf h9]
    have hk:kb n=(kids n).map (fun k=>(k,binds n)):=by unfold kb; rw [if_neg h9]
    have hm:(k,l)∈kb n:=by rw [h]; simp
    rw [hk] at hm
    simp only [List.mem_map,Prod.mk.injEq] at hm
    obtain ⟨_,_,_,hm⟩:=hm
    rw [hm]
  rw [hjoin,Qaa]
  obtain ⟨re',b,hr1,hr2⟩:=Qkc f s.re hw.re k
  rw [hr1,Qaa]
  simp only
  rw [visL]
  cases hm:mark (Qag f).length s.re k with
  | none=>
   rw [hm] at hr2
   simp only at hr2
   rw [QcM hr2]
   exact ⟨_,rfl,_,rfl,rfl⟩
  | some re=>
   rw [hm] at hr2
   obtain ⟨rfl,hb⟩:=hr2
   rw [QcZ hb]
   obtain ⟨bo',sc',va',b',hb1,hb2⟩:=QBj f hf l hll s.bo s.sc s.va hw.bo hw.sc hv
   rw [hb1,Qaa]
   simp only
   rw [Qaa]
   simp only
   rw [Qda]
   cases hbs:Qd2 (Qac f).length l (s.bo,s.sc,s.va) with
   | none=>
    rw [hbs] at hb2
    simp only at hb2
    rw [QcM hb2]
    exact ⟨_,rfl,_,rfl,rfl⟩
   | some t=>
    obtain ⟨bo,sc,va⟩:=t
    rw [hbs] at hb2
    simp only [Prod.mk.injEq] at hb2
    obtain ⟨⟨rfl,rfl,rfl⟩,hb2⟩:=hb2
    rw [QcZ hb2]
    obtain ⟨m0,m1,m2,m3⟩:=Qcu hm
    obtain ⟨k1,k2,k3,k4,k5⟩:=QdM hbs
    have hcs:=Qhb s.re k.toNat m2
    have hw1:Wf f ⟨s.nodes,sc',re',bo',va'⟩:=⟨by rw [m3]; simp [hw.re],by rw [k1,hw.bo],by rw [k2,hw.sc]⟩
    obtain ⟨r4,hd1,hd2⟩:=hd ⟨s.nodes,sc',re',bo',va'⟩ k hw1 m0 m1 (by simp only; rw [m3]; omega) (by simp only; rw [m3]; omega) (by simp only; omega)
    rw [show Qb9 s.nodes sc' re' bo' va' f true k=some r4 from hd1,Qaa]
    cases hgv:g ⟨s.nodes,sc',re',bo',va'⟩ k with
    | none=>
     rw [hgv] at hd2
     obtain ⟨a1,a2,a3,a4,a5,a6⟩:=r4
     simp only [Agr] at hd2
     subst hd2
     simp only [cond_false,hgv]
     exact ⟨_,rfl,_,rfl,rfl⟩
    | some s2=>
     rw [hgv] at hd2
     simp only [Agr] at hd2
     subst hd2
     simp only [cond_true,hgv]
     have q:=hg _ _ _ hw1 hgv
     rw [QyE (Qac f).length l hll k5 s2.sc q.wf.sc,Qaa]
     have e1:Ev.wr .i64 ((pre.length:Int)+1)=((pre++[(k,l)]).length:Int):=by
      rw [Sy.Qeb (by omega)]
      simp
     rw [e1]
     have a1:=q.nodes
     have b1:=q.vars
     have c1:=q.le
     simp only at a1 b1 c1
     rw [m3] at a1 c1
     exact ih (pre++[(k,l)]) ⟨s2.nodes,QeI l s2.sc,s2.re,s2.bo,s2.va⟩ (by rw [h]; simp) ⟨q.wf.re,q.wf.bo,by rw [QfS]; exact q.wf.sc⟩ (by simp only; omega) (by simp only; omega) (by simp only; omega)
theorem QeM (f:GFun)(hf:Small f):∀ (d:Nat) (s:S) (a:Int),Wf f s→0≤a→a<((Qag f).length:Int)→cf s.re<d→s.nodes.length+cf s.re<(Qag f).length→s.va.length+cf s.bo≤1000→Does f (vis f d) s a
 | 0,s,a,hw,h0,h1,hc,hn,hv=>absurd hc (Nat.not_lt_zero _)
 | d+1,s,a,hw,h0,h1,hc,hnn,hv=>by
  have hcode:=hf.code
  unfold Does
  rw [Qmf]
  obtain ⟨n,hn1,hn2⟩:=Qeg (l:=Qag f) (i:=a) h0 h1
  have hn:QaQ n:=hf.nodes n (List.mem_of_getElem? hn2)
  rw [show Sy.at' f.2.2.2.2.1 a=some n from hn1,Qaa,Qad (by omega),Qmn n hn,Qaa]
  rw [show QbR (s.nodes++[a]) s.sc s.re s.bo s.va f true n (uses n) ((uses n).length:Int) (0:Int)=_ from QGe f n (s.nodes++[a]) s.sc s.re s.bo s.va true (uses n) (Qoq n hn) hw.sc (uses n) [] rfl,Qaa]
  rw [vis,hn2]
  simp only
  by_cases hu:Qd0 (Qac f).length s.sc (uses n)=true
  ·rw [if_pos hu,if_pos hu]
   simp only
   rw [QhY n hn,Qaa]
   obtain ⟨z,hz1,hz2⟩:=QGf f hf n hn (vis f d) d (Qkv f d) (fun s a hw h0 h1 hc hn hv=>QeM f hf d s a hw h0 h1 hc hn hv) (kb n) [] ⟨s.nodes++[a],s.sc,s.re,s.bo,s.va⟩ rfl ⟨hw.re,hw.bo,hw.sc⟩ (by simp only; omega) (by simp; omega) hv
   rw [show QbT (s.nodes++[a]) s.sc s.re s.bo s.va f true n (kids n) ((kids n).length:Int) (0:Int)=some z from hz1,Qaa]
   cases hvl:visL f (vis f d) (kb n) ⟨s.nodes++[a],s.sc,s.re,s.bo,s.va⟩ with
   | none=>
    rw [hvl] at hz2
    obtain ⟨⟨t1,t2,t3,t4,t5,t6⟩,rfl,ht⟩:=hz2
    exact ⟨_,rfl,ht⟩
   | some s'=>
    rw [hvl] at hz2
    simp only at hz2
    subst hz2
    exact ⟨_,rfl,rfl⟩
  ·rw [if_neg hu,if_neg hu]
   exact ⟨_,rfl,rfl⟩
end Go.Proofs.YtkecfadnfnnfaaaGreatDoor.LabB.V
namespace Go.Proofs.YtkecfadnfnnfaaaGreatDoor.LabB.V
open Go Go.Ev Go.Sy Go.Proofs.YtkecfadnfnnfaaaGreatDoor.LabB
def ini (p v:Nat):List Bool:=List.replicate p true++List.replicate (v - p) false
theorem Qc3 {p v:Nat}(h:p≤v):(ini p v).length=v:=by simp [ini]; omega
theorem QnP {p v i:Nat}(h:p≤v)(hi:i<v):(ini p v)[i]?=some (decide (i<p)):=by
 unfold ini
 by_cases hp:i<p
 ·rw [List.getElem?_append_left (by simp; exact hp),List.getElem?_replicate,if_pos hp,decide_eq_true hp]
 ·rw [List.getElem?_append_right (by simp; omega),List.length_replicate,List.getElem?_replicate,if_pos (by omega),decide_eq_false hp]
theorem QEW {p v:Nat}(h:p<v):(ini p v).set p true=ini (p+1) v:=by
 apply List.ext_getElem?
 intro i
 rw [List.getElem?_set]
 by_cases hi:i<v
 ·by_cases hp:p=i
  ·subst hp
   rw [if_pos rfl,if_pos (by rw [Qc3 (by omega)]; exact h),QnP (by omega) hi,decide_eq_true (by omega)]
  ·rw [if_neg hp,QnP (by omega) hi,QnP (by omega) hi]
   congr 1
   rw [Bool.eq_iff_iff]
   simp only [decide_eq_true_eq]
   omega
 ·have h1:(ini p v)[i]?=none:=List.getElem?_eq_none (by rw [Qc3 (by omega)]; omega)
  have h2:(ini (p+1) v)[i]?=none:=List.getElem?_eq_none (by rw [Qc3 (by omega)]; omega)
  rw [h1,h2]
  split
  ·rename_i hp
   rw [if_neg (by rw [Qc3 (by omega)]; omega)]
  ·rfl
theorem Qrw (n:Nat):cf (List.replicate n false)=n:=by
 induction n with
 | zero=>rfl
 | succ n ih=>show cf (List.replicate n false)+1=_; rw [ih]
theorem ini0 (v:Nat):List.replicate v false=ini 0 v:=by simp [ini]
theorem QEX (f:GFun)(a b:List Int)(re:List Bool)(p v:Nat)(hp:p≤v)(hv:v≤1000):∀ (k i:Nat),i+k=p→QbM a b re (ini i v) (ini i v) f (p:Int) (i:Int)=some (ini p v,ini p v):=by
 intro k
 induction k with
 | zero=>
  intro i h
  rw [QgG,Qaf (by omega)]
  rw [show i=p by omega]
 | succ k ih=>
  intro i h
  rw [QgG,Qad (by omega),QkO,QnP (by omega) (by omega),Qaa,Qaa,Int.toNat_natCast,QEW (by omega),Sy.Qeb (by omega)]
  exact ih (i+1) (by omega)
def Qc4 (f:GFun):Option (List Int×List Int):=
 if fPar f<0∨((Qac f).length:Int)<fPar f then none
 else if fExt f=true then some ([],[])
 else match mark (Qag f).length (List.replicate (Qag f).length false) (QaM f) with
  | none=>none
  | some re=>match vis f ((Qag f).length+1) ⟨[],ini (fPar f).toNat (Qac f).length,re,ini (fPar f).toNat (Qac f).length,[]⟩ (QaM f) with
   | none=>none
   | some s=>some (s.nodes,s.va)
theorem Qqc (f:GFun)(hf:Small f):∃ a b k,QfK f=some (a,b,k)∧(match Qc4 f with |some p=>(a,b)=p∧k=true |none=>k=false):=by
 have hc:=hf.code
 have hv:=hf.vars
 have hc':f.2.2.2.2.1.length≤80:=hc
 have hv':f.2.2.2.1.length≤120:=hv
 rw [Qn2]
 simp only [QaJ,Qaa,cond_true,cond_false,Qda]
 unfold Qc4
 by_cases h0:fPar f<0
 ·rw [Qad h0,if_pos (.inl h0)]
  exact ⟨_,_,_,rfl,rfl⟩
 ·rw [Qaf h0]
  by_cases h1:((Qac f).length:Int)<fPar f
  ·rw [Qad h1,if_pos (.inr h1)]
   exact ⟨_,_,_,rfl,rfl⟩
  ·rw [Qaf h1,if_neg (by omega)]
   cases he:fExt f with
   | true=>
    rw [if_pos rfl,QcZ he]
    exact ⟨_,_,_,rfl,rfl,rfl⟩
   | false=>
    rw [if_neg (by simp),QcM he,Qaf (by omega),Qad (by omega),Qaf (by omega),Qad (by omega)]
    simp only [Int.toNat_natCast]
    have hp:((fPar f).toNat:Int)=fPar f:=Int.toNat_of_nonneg (by omega)
    have hl:QbM ([]:List Int) ([]:List Int) (List.replicate (Qag f).length false) (List.replicate (Qac f).length false) (List.replicate (Qac f).length false) f (fPar f) (0:Int)=some (ini (fPar f).toNat (Qac f).length,ini (fPar f).toNat (Qac f).length):=by
     have:=QEX f ([]:List Int) ([]:List Int) (List.replicate (Qag f).length false) (fPar f).toNat (Qac f).length (by omega) (by omega) (fPar f).toNat 0 (by omega)
     rw [hp,← ini0] at this
     exact this
    rw [show QbM ([]:List Int) ([]:List Int) (List.replicate f.2.2.2.2.1.length false) (List.replicate f.2.2.2.1.length false) (List.replicate f.2.2.2.1.length false) f f.2.1 (0:Int)=_ from hl,Qaa]
    simp only
    obtain ⟨re',b,hr1,hr2⟩:=Qkc f (List.replicate (Qag f).length false) (by simp) (QaM f)
    rw [show QcP (List.replicate f.2.2.2.2.1.length false) f f.2.2.2.2.2.1=_ from hr1,Qaa]
    simp only
    cases hm:mark (Qag f).length (List.replicate (Qag f).length false) (QaM f) with
    | none=>
     rw [hm] at hr2
     simp only at hr2
     rw [QcM hr2]
     exact ⟨_,_,_,rfl,rfl⟩
    | some re=>
     rw [hm] at hr2
     obtain ⟨rfl,hb⟩:=hr2
     rw [QcZ hb]
     obtain ⟨m0,m1,m2,m3⟩:=Qcu hm
     have hcs:=Qhb (List.replicate (Qag f).length false) (QaM f).toNat m2
     rw [Qrw] at hcs
     have hcf:=QA8 (ini (fPar f).toNat (Qac f).length)
     rw [Qc3 (by omega)] at hcf
     obtain ⟨r4,hd1,hd2⟩:=QeM f hf ((Qag f).length+1) ⟨[],ini (fPar f).toNat (Qac f).length,re',ini (fPar f).toNat (Qac f).length,[]⟩ (QaM f) ⟨by rw [m3]; simp,Qc3 (by omega),Qc3 (by omega)⟩ m0 m1
      (by simp only; rw [m3]; omega) (by simp only [List.length_nil]; rw [m3]; omega) (by simp only [List.length_nil]; omega)
     rw [show Qb9 ([]:List Int) (ini (fPar f).toNat (Qac f).length) re' (ini (fPar f).toNat (Qac f).length) ([]:List Int) f true f.2.2.2.2.2.1=some r4 from hd1,Qaa]
     obtain ⟨a1,a2,a3,a4,a5,a6⟩:=r4
     simp only
     cases hvis:vis f ((Qag f).length+1) ⟨[],ini (fPar f).toNat (Qac f).length,re',ini (fPar f).toNat (Qac f).length,[]⟩ (QaM f) with
     | none=>
      rw [hvis] at hd2
      exact ⟨_,_,_,rfl,hd2⟩
     | some s=>
      rw [hvis] at hd2
      simp only [Agr,Prod.mk.injEq] at hd2
      obtain ⟨rfl,rfl,rfl,rfl,rfl,rfl⟩:=hd2
      exact ⟨_,_,_,rfl,rfl,rfl⟩
def QBk (f:GFun)(x:Int):Prop:=0≤x∧x<((Qag f).length:Int)∧∃ n,(Qag f)[x.toNat]?=some n∧∀ p∈kb n,(0≤p.1∧p.1<((Qag f).length:Int))∧∀ v∈p.2,0≤v∧v<((Qac f).length:Int)
structure Marks (f:GFun)(s s':S)(r u:List Int):Prop where
 nodes:s'.nodes=s.nodes++r
 va:s'.va=s.va++u
 rn:r.Nodup
 un:u.Nodup
 rok:∀ x∈r,QBk f x
 rnew:∀ x∈r,s'.re[x.toNat]?=some true
 unew:∀ v∈u,s.bo[v.toNat]?=some false∧s'.bo[v.toNat]?=some true∧0≤v∧v<((Qac f).length:Int)
 QvU:∀ i:Nat,s.re[i]?=some true→s'.re[i]?=some true
 Qqd:∀ i:Nat,s.bo[i]?=some true→s'.bo[i]?=some true
theorem Qkw {l:List Bool}{k i:Nat}(h:l[i]?=some true):(l.set k true)[i]?=some true:=by
 rw [List.getElem?_set]
 have hi:i<l.length:=by
  rw [List.getElem?_eq_some_iff] at h
  exact h.1
 split
 ·rename_i hk
  rw [if_pos (by omega)]
 ·exact h
theorem QnQ {l:List Bool}{k:Nat}(h:l[k]?=some false):(l.set k true)[k]?=some true:=by
 have hi:k<l.length:=by
  rw [List.getElem?_eq_some_iff] at h
  exact h.1
 rw [List.getElem?_set,if_pos rfl,if_pos hi]
theorem toNat_ne {x y:Int}(hx:0≤x)(hy:0≤y)(h:x≠y):x.toNat≠y.toNat:=by omega
theorem QiG {c:Nat}:∀ {l:List Int} {bo sc bo' sc':List Bool} {va va':List Int},Qd2 c l (bo,sc,va)=some (bo',sc',va')→l.Nodup∧(∀ v∈l,bo[v.toNat]?=some false∧bo'[v.toNat]?=some true)∧∀ i:Nat,bo[i]?=some true→bo'[i]?=some true
 | [],bo,sc,bo',sc',va,va',h=>by
  simp only [Qd2,Option.some.injEq,Prod.mk.injEq] at h
  obtain ⟨rfl,rfl,rfl⟩:=h
  exact ⟨List.nodup_nil,fun v hv=>by simp at hv,fun i h=>h⟩
 | v::l,bo,sc,bo',sc',va,va',h=>by
  simp only [Qd2] at h
  cases hm:mark c bo v with
  | none=>rw [hm] at h; cases h
  | some b=>
   rw [hm] at h
   obtain ⟨h0,h1,h2,rfl⟩:=Qcu hm
   obtain ⟨k1,k2,k3⟩:=QiG h
   obtain ⟨_,_,_,_,k5⟩:=QdM h
   have hne:∀ w∈l,w≠v:=fun w hw he=>by
    subst he
    have:=(k2 w hw).1
    rw [QnQ h2] at this
    simp at this
   refine ⟨List.nodup_cons.mpr ⟨fun hv=>hne v hv rfl,k1⟩,fun w hw=>?_,fun i hi=>k3 i (Qkw hi)⟩
   simp only [List.mem_cons] at hw
   rcases hw with rfl |hw
   ·exact ⟨h2,k3 _ (QnQ h2)⟩
   ·have:=(k2 w hw).1
    rw [List.getElem?_set,if_neg (toNat_ne h0 (k5 w hw).1 (fun h=>hne w hw h.symm))] at this
    exact ⟨this,(k2 w hw).2⟩
theorem Qrx (f:GFun)(g:S→Int→Option S)(hgk:∀ s a s',Wf f s→g s a=some s'→Kept f s s' 1)
  (hg:∀ s a s',Wf f s→0≤a→s.re[a.toNat]?=some true→g s a=some s'→∃ (r u:List Int),Marks f s s' r u∧a∈r∧∀ x∈r,x=a∨s.re[x.toNat]?=some false):
  ∀ (q:List (Int×List Int)) (s s':S),Wf f s→visL f g q s=some s'→∃ (r u:List Int),Marks f s s' r u∧(∀ x∈r,s.re[x.toNat]?=some false)∧∀ p∈q,(0≤p.1∧p.1<((Qag f).length:Int))∧∀ v∈p.2,0≤v∧v<((Qac f).length:Int)
 | [],s,s',hw,h=>by
  simp only [visL,Option.some.injEq] at h
  subst h
  exact ⟨[],[],⟨by simp,by simp,List.nodup_nil,List.nodup_nil,fun x h=>by simp at h,fun x h=>by simp at h,fun x h=>by simp at h,fun i h=>h,fun i h=>h⟩,fun x h=>by simp at h,fun x h=>by simp at h⟩
 | (k,l)::q,s,s',hw,h=>by
  simp only [visL] at h
  cases hm:mark (Qag f).length s.re k with
  | none=>rw [hm] at h; cases h
  | some re=>
   rw [hm] at h
   simp only at h
   cases hb:Qd2 (Qac f).length l (s.bo,s.sc,s.va) with
   | none=>rw [hb] at h; cases h
   | some t=>
    obtain ⟨bo,sc,va⟩:=t
    rw [hb] at h
    simp only at h
    cases hv:g ⟨s.nodes,sc,re,bo,va⟩ k with
    | none=>rw [hv] at h; cases h
    | some s2=>
     rw [hv] at h
     simp only at h
     obtain ⟨h0,h1,h2,rfl⟩:=Qcu hm
     obtain ⟨k1,k2,k3,k4,k5⟩:=QdM hb
     obtain ⟨b1,b2,b3⟩:=QiG hb
     have w1:Wf f ⟨s.nodes,sc,s.re.set k.toNat true,bo,va⟩:=⟨by simp [hw.re],by rw [k1,hw.bo],by rw [k2,hw.sc]⟩
     have kq:=hgk _ _ _ w1 hv
     have w2:Wf f ⟨s2.nodes,QeI l s2.sc,s2.re,s2.bo,s2.va⟩:=⟨kq.wf.re,kq.wf.bo,by rw [QfS]; exact kq.wf.sc⟩
     obtain ⟨r1,u1,M1,a1,x1⟩:=hg _ _ _ w1 h0 (QnQ h2) hv
     obtain ⟨r2,u2,M2,x2,q2⟩:=Qrx f g hgk hg q _ _ w2 h
     have n1:=M1.nodes
     have v1:=M1.va
     have n2:=M2.nodes
     have v2:=M2.va
     simp only at n1 v1 n2 v2
     have old:∀ x∈r1,s.re[x.toNat]?=some false:=fun x hx=>by
      rcases x1 x hx with rfl |hh
      ·exact h2
      ·simp only at hh
       have hx0:=(M1.rok x hx).1
       by_cases hxk:x=k
       ·rw [hxk]; exact h2
       ·rw [List.getElem?_set,if_neg (toNat_ne h0 hx0 (fun h=>hxk h.symm))] at hh
        exact hh
     have old2:∀ x∈r2,s.re[x.toNat]?=some false:=fun x hx=>by
      have h3:s2.re[x.toNat]?=some false:=x2 x hx
      have hx0:=(M2.rok x hx).1
      have hx1:=(M2.rok x hx).2.1
      have hlt:x.toNat<s.re.length:=by rw [hw.re]; omega
      cases hh:s.re[x.toNat]? with
      | none=>rw [List.getElem?_eq_none_iff] at hh; omega
      | some b=>
       cases b with
       | false=>rfl
       | true=>
        have:=M1.QvU x.toNat (Qkw hh)
        rw [h3] at this
        simp at this
     have uold:∀ v∈u1,s.bo[v.toNat]?=some false:=fun v hv=>by
      have h3:=(M1.unew v hv).1
      simp only at h3
      have hr:=(M1.unew v hv).2.2
      have hlt:v.toNat<s.bo.length:=by rw [hw.bo]; omega
      cases hh:s.bo[v.toNat]? with
      | none=>rw [List.getElem?_eq_none_iff] at hh; omega
      | some b=>
       cases b with
       | false=>rfl
       | true=>
        have:=b3 _ hh
        rw [h3] at this
        simp at this
     have uold2:∀ v∈u2,s2.bo[v.toNat]?=some false:=fun v hv=>(M2.unew v hv).1
     have uold3:∀ v∈u2,s.bo[v.toNat]?=some false:=fun v hv=>by
      have h3:=uold2 v hv
      have hr:=(M2.unew v hv).2.2
      have hlt:v.toNat<s.bo.length:=by rw [hw.bo]; omega
      cases hh:s.bo[v.toNat]? with
      | none=>rw [List.getElem?_eq_none_iff] at hh; omega
      | some b=>
       cases b with
       | false=>rfl
       | true=>
        have:=M1.Qqd _ (b3 _ hh)
        rw [h3] at this
        simp at this
     refine ⟨r1++r2,l++(u1++u2),⟨by rw [n2,n1,List.append_assoc],by rw [v2,v1,k3]; simp,?_,?_,?_,?_,?_,fun i hi=>M2.QvU i (M1.QvU i (Qkw hi)),fun i hi=>M2.Qqd i (M1.Qqd i (b3 i hi))⟩,?_,?_⟩
     ·refine List.nodup_append.mpr ⟨M1.rn,M2.rn,fun x hx y hy hxy=>?_⟩
      subst hxy
      have h3:=x2 x hy
      simp only at h3
      rw [M1.rnew x hx] at h3
      simp at h3
     ·refine List.nodup_append.mpr ⟨b1,List.nodup_append.mpr ⟨M1.un,M2.un,fun x hx y hy hxy=>?_⟩,fun x hx y hy hxy=>?_⟩
      ·subst hxy
       have h3:=uold2 x hy
       rw [(M1.unew x hx).2.1] at h3
       simp at h3
      ·subst hxy
       simp only [List.mem_append] at hy
       rcases hy with hy |hy
       ·have h3:=(M1.unew x hy).1
        simp only at h3
        rw [(b2 x hx).2] at h3
        simp at h3
       ·have h3:=uold2 x hy
        rw [M1.Qqd _ (b2 x hx).2] at h3
        simp at h3
     ·intro x hx
      simp only [List.mem_append] at hx
      rcases hx with hx |hx
      ·exact M1.rok x hx
      ·exact M2.rok x hx
     ·intro x hx
      simp only [List.mem_append] at hx
      rcases hx with hx |hx
      ·exact M2.QvU _ (M1.rnew x hx)
      ·exact M2.rnew x hx
     ·intro v hv
      simp only [List.mem_append] at hv
      rcases hv with hv |hv |hv
      ·exact ⟨(b2 v hv).1,M2.Qqd _ (M1.Qqd _ (b2 v hv).2),k5 v hv⟩
      ·exact ⟨uold v hv,M2.Qqd _ (M1.unew v hv).2.1,(M1.unew v hv).2.2⟩
      ·exact ⟨uold3 v hv,(M2.unew v hv).2⟩
     ·intro x hx
      simp only [List.mem_append] at hx
      rcases hx with hx |hx
      ·exact old x hx
      ·exact old2 x hx
     ·intro p hp
      simp only [List.mem_cons] at hp
      rcases hp with rfl |hp
      ·exact ⟨⟨h0,h1⟩,k5⟩
      ·exact q2 p hp
theorem Qqe (f:GFun):∀ (d:Nat) (s:S) (a:Int) (s':S),Wf f s→0≤a→s.re[a.toNat]?=some true→vis f d s a=some s'→∃ (r u:List Int),Marks f s s' r u∧a∈r∧∀ x∈r,x=a∨s.re[x.toNat]?=some false
 | 0,s,a,s',hw,h0,hr,h=>by simp [vis] at h
 | d+1,s,a,s',hw,h0,hr,h=>by
  simp only [vis] at h
  cases hn:(Qag f)[a.toNat]? with
  | none=>rw [hn] at h; cases h
  | some n=>
   rw [hn] at h
   simp only at h
   split at h
   ·obtain ⟨r,u,M,hold,hq⟩:=Qrx f (vis f d) (Qkv f d) (Qqe f d) (kb n) ⟨s.nodes++[a],s.sc,s.re,s.bo,s.va⟩ s' ⟨hw.re,hw.bo,hw.sc⟩ h
    have hne:a ∉ r:=fun ha=>by
     have:=hold a ha
     simp only at this
     rw [hr] at this
     simp at this
    have hlt:a.toNat<(Qag f).length:=by
     rw [List.getElem?_eq_some_iff] at hn
     exact hn.1
    refine ⟨a::r,u,⟨by rw [M.nodes]; simp,M.va,List.nodup_cons.mpr ⟨hne,M.rn⟩,M.un,?_,?_,M.unew,M.QvU,M.Qqd⟩,by simp,?_⟩
    ·intro x hx
     simp only [List.mem_cons] at hx
     rcases hx with rfl |hx
     ·exact ⟨h0,by omega,n,hn,hq⟩
     ·exact M.rok x hx
    ·intro x hx
     simp only [List.mem_cons] at hx
     rcases hx with rfl |hx
     ·exact M.QvU _ hr
     ·exact M.rnew x hx
    ·intro x hx
     simp only [List.mem_cons] at hx
     rcases hx with rfl |hx
     ·exact .inl rfl
     ·exact .inr (hold x hx)
   ·cases h
structure Sh (f:GFun)(N V:List Int):Prop where
 par0:0≤fPar f
 par1:fPar f≤((Qac f).length:Int)
 nn:N.Nodup
 ng:∀ x∈N,QBk f x
 vn:V.Nodup
 vg:∀ v∈V,fPar f≤v∧v<((Qac f).length:Int)
 nl:N.length≤(Qag f).length
 vl:(fPar f).toNat+V.length≤(Qac f).length
theorem QBl (p v:Nat):cf (ini p v)=v - p:=by
 unfold ini
 induction p with
 | zero=>simp [Qrw]
 | succ p ih=>
  have:∀ k:Nat,cf (List.replicate k true++List.replicate (v - (p+1)) false)=v - (p+1):=fun k=>by
   induction k with
   | zero=>simp [Qrw]
   | succ k ih=>exact ih
  exact this (p+1)
theorem Qd1 {f:GFun}{N V:List Int}(h:Qc4 f=some (N,V)):Sh f N V:=by
 unfold Qc4 at h
 split at h
 ·cases h
 ·rename_i hp
  split at h
  ·simp only [Option.some.injEq,Prod.mk.injEq] at h
   obtain ⟨rfl,rfl⟩:=h
   exact ⟨by omega,by omega,List.nodup_nil,fun x h=>by simp at h,List.nodup_nil,fun x h=>by simp at h,by simp,by simp; omega⟩
  ·split at h
   ·cases h
   ·rename_i re hm
    split at h
    ·cases h
    ·rename_i s hv
     simp only [Option.some.injEq,Prod.mk.injEq] at h
     obtain ⟨rfl,rfl⟩:=h
     obtain ⟨m0,m1,m2,rfl⟩:=Qcu hm
     obtain ⟨r,u,M,_,_⟩:=Qqe f _ _ _ _ ⟨by simp,Qc3 (by omega),Qc3 (by omega)⟩ m0 (QnQ m2) hv
     have K:=Qkv f _ _ _ _ ⟨by simp,Qc3 (by omega),Qc3 (by omega)⟩ hv
     have hcs:=Qhb (List.replicate (Qag f).length false) (QaM f).toNat m2
     rw [Qrw] at hcs
     have hcf:cf (ini (fPar f).toNat (Qac f).length)=(Qac f).length - (fPar f).toNat:=QBl _ _
     have K1:=K.nodes
     have K2:=K.vars
     simp only [List.length_nil] at K1 K2
     have h1:=M.nodes
     have h2:=M.va
     simp only [List.nil_append] at h1 h2
     refine ⟨by omega,by omega,by rw [h1]; exact M.rn,by rw [h1]; exact M.rok,by rw [h2]; exact M.un,fun v hv=>?_,?_,?_⟩
     ·rw [h2] at hv
      obtain ⟨a,b,c0,c1⟩:=M.unew v hv
      simp only at a
      rw [QnP (by omega) (by omega)] at a
      simp only [Option.some.injEq,decide_eq_false_iff_not] at a
      exact ⟨by omega,c1⟩
     ·omega
     ·omega
def QcR (b:Int):List Int→Nat→List Int→List Int
 | [],_,t=>t
 | x::r,i,t=>QcR b r (i+1) (t.set x.toNat (b+(i:Int)))
theorem Qna (b:Int):∀ (l:List Int) (i:Nat) (t:List Int),(QcR b l i t).length=t.length
 | [],i,t=>rfl
 | x::r,i,t=>by rw [QcR,Qna b r,List.length_set]
theorem Qh0 (b:Int):∀ (l:List Int) (i:Nat) (t:List Int) (k:Nat),(∀ x∈l,x.toNat≠k)→(QcR b l i t)[k]?=t[k]?
 | [],i,t,k,h=>rfl
 | x::r,i,t,k,h=>by
  rw [QcR,Qh0 b r _ _ k fun y hy=>h y (by simp [hy]),List.getElem?_set,if_neg (h x (by simp))]
theorem Qqf (b:Int):∀ (l:List Int) (i:Nat) (t:List Int),l.Nodup→(∀ x∈l,0≤x∧x<(t.length:Int))→∀ (j:Nat) (x:Int),l[j]?=some x→(QcR b l i t)[x.toNat]?=some (b+((i+j:Nat):Int))
 | [],i,t,hn,hr,j,x,h=>by simp at h
 | y::r,i,t,hn,hr,j,x,h=>by
  obtain ⟨hy,hn'⟩:=List.nodup_cons.mp hn
  rw [QcR]
  cases j with
  | zero=>
   simp only [List.getElem?_cons_zero,Option.some.injEq] at h
   subst h
   obtain ⟨h0,h1⟩:=hr y (by simp)
   rw [Qh0 b r _ _ _ fun z hz hzy=>by
    have:z=y:=by have:=(hr z (by simp [hz])).1; omega
    exact hy (this▸hz)]
   rw [List.getElem?_set,if_pos rfl,if_pos (by omega)]
   simp
  | succ j=>
   simp only [List.getElem?_cons_succ] at h
   rw [Qqf b r (i+1) _ hn' (fun z hz=>by rw [List.length_set]; exact hr z (by simp [hz])) j x h]
   congr 2
   omega
theorem QGg (f:GFun)(v1 v3 N:List Int)(c:Nat)(hl:N.length≤1000)(hr:∀ x∈N,0≤x∧x<(c:Int)):∀ (r pre t:List Int),N=pre++r→t.length=c→
  Qdg t v1 f v3 N (N.length:Int) (pre.length:Int)=some (QcR 0 r pre.length t):=by
 intro r
 induction r with
 | nil=>
  intro pre t h ht
  rw [QhV]
  subst h
  rw [QcM (Qg3 pre)]
  rfl
 | cons x r ih=>
  intro pre t h ht
  rw [QhV]
  subst h
  obtain ⟨h0,h1⟩:=hr x (by simp)
  obtain ⟨w,hw,_⟩:=Qeg (l:=t) (i:=x) h0 (by omega)
  rw [QcZ (QjF pre x r),QhJ,Qaa,hw,Qaa,QiM (pre:=pre) (x:=x) (r:=r) (by omega),ih (pre++[x]) _ (Qhh ..) (by simp [ht])]
  simp [QcR]
theorem QGh (f:GFun)(v0 V:List Int)(c:Nat)(hp0:0≤fPar f)(hp:fPar f≤1000)(hl:V.length≤1000)(hr:∀ x∈V,0≤x∧x<(c:Int)):∀ (r pre t:List Int),V=pre++r→t.length=c→
  Qdh v0 t f V (V.length:Int) (pre.length:Int)=some (QcR (fPar f) r pre.length t):=by
 intro r
 induction r with
 | nil=>
  intro pre t h ht
  rw [QhW]
  subst h
  rw [QcM (Qg3 pre)]
  rfl
 | cons x r ih=>
  intro pre t h ht
  rw [QhW]
  subst h
  obtain ⟨h0,h1⟩:=hr x (by simp)
  obtain ⟨w,hw,_⟩:=Qeg (l:=t) (i:=x) h0 (by omega)
  have hpl:(pre++x::r).length=pre.length+(r.length+1):=by simp
  have e1:Ev.wr .i64 (f.2.1+(pre.length:Int))=fPar f+(pre.length:Int):=QfI (show (-9223372036854775808:Int)≤fPar f+(pre.length:Int) by omega) (show fPar f+(pre.length:Int)≤9223372036854775807 by omega)
  rw [QcZ (QjF pre x r),QhJ,Qaa,hw,Qaa,e1,QiM (pre:=pre) (x:=x) (r:=r) (by omega),ih (pre++[x]) _ (Qhh ..) (by simp [ht])]
  simp [QcR]
theorem QGi (f:GFun)(v1 v3 v4:List Int)(c:Nat)(hc:c≤1000):∀ (k i:Nat) (t:List Int),i+k=c→t.length=c→∃ t',Qde t v1 f v3 v4 (c:Int) (i:Int)=some t'∧t'.length=c:=by
 intro k
 induction k with
 | zero=>
  intro i t h ht
  rw [QhR,Qaf (by omega)]
  exact ⟨t,rfl,ht⟩
 | succ k ih=>
  intro i t h ht
  obtain ⟨w,hw,_⟩:=Qeg (l:=t) (i:=(i:Int)) (by omega) (by omega)
  rw [QhR,Qad (by omega),hw,Qaa,Sy.Qeb (by omega)]
  exact ih (i+1) _ (by omega) (by simp [ht])
theorem QGj (f:GFun)(v0 v3 v4:List Int)(c:Nat)(hc:c≤1000):∀ (k i:Nat) (t:List Int),i+k=c→t.length=c→(∀ j:Nat,j<i→(j:Int)<fPar f→t[j]?=some (j:Int))→
  ∃ t',Qcv v0 t f v3 v4 (c:Int) (i:Int)=some t'∧t'.length=c∧∀ j:Nat,j<c→(j:Int)<fPar f→t'[j]?=some (j:Int):=by
 intro k
 induction k with
 | zero=>
  intro i t h ht hj
  rw [QhT,Qaf (by omega)]
  exact ⟨t,rfl,ht,fun j hj' hp=>hj j (by omega) hp⟩
 | succ k ih=>
  intro i t h ht hj
  obtain ⟨w,hw,_⟩:=Qeg (l:=t) (i:=(i:Int)) (by omega) (by omega)
  rw [QhT,Qad (by omega),hw,Qaa,Sy.Qeb (by omega),Int.toNat_natCast]
  by_cases hp:(i:Int)<fPar f
  ·rw [Qad hp]
   refine ih (i+1) _ (by omega) (by simp [ht]) fun j hj' hpj=>?_
   rw [List.getElem?_set]
   by_cases hij:i=j
   ·rw [if_pos hij,if_pos (by simp; omega),hij]
   ·rw [if_neg hij,List.getElem?_set,if_neg hij]
    exact hj j (by omega) hpj
  ·rw [Qaf hp]
   refine ih (i+1) _ (by omega) (by simp [ht]) fun j hj' hpj=>?_
   rw [List.getElem?_set,if_neg (by omega)]
   exact hj j (by omega) hpj
structure QiX (f:GFun)(N V tl nl:List Int):Prop where
 tlen:tl.length=(Qag f).length
 nlen:nl.length=(Qac f).length
 to:∀ (j:Nat) (x:Int),N[j]?=some x→tl[x.toNat]?=some (j:Int)
 num:∀ (j:Nat) (v:Int),V[j]?=some v→nl[v.toNat]?=some (fPar f+(j:Int))
 par:∀ i:Nat,(i:Int)<fPar f→nl[i]?=some (i:Int)
theorem QBm (f:GFun)(hf:Small f){N V:List Int}(h:Qc4 f=some (N,V)):∃ tl nl,Qit f=some (tl,nl,0)∧QiX f N V tl nl:=by
 have hc:=hf.code
 have hv:=hf.vars
 have hc':f.2.2.2.2.1.length≤80:=hc
 have hv':f.2.2.2.1.length≤120:=hv
 have sh:=Qd1 h
 obtain ⟨a,b,k,hs1,hs2⟩:=Qqc f hf
 rw [h] at hs2
 simp only [Prod.mk.injEq] at hs2
 obtain ⟨⟨rfl,rfl⟩,rfl⟩:=hs2
 have hp0:=sh.par0
 have hp1:=sh.par1
 have hNr:∀ x∈a,0≤x∧x<((Qag f).length:Int):=fun x hx=>⟨(sh.ng x hx).1,(sh.ng x hx).2.1⟩
 have hVr:∀ x∈b,0≤x∧x<((Qac f).length:Int):=fun x hx=>⟨by have:=(sh.vg x hx).1; omega,(sh.vg x hx).2⟩
 have hN:=sh.nl
 have hV:=sh.vl
 rw [Qqz,hs1,Qaa]
 simp only [cond_true]
 rw [Qaf (by omega),Qad (by omega),Qaf (by omega),Qad (by omega)]
 simp only [Int.toNat_natCast,List.length_replicate]
 obtain ⟨t0,ht0,hl0⟩:=QGi f (List.replicate (Qac f).length (0:Int)) a b (Qag f).length (by omega) (Qag f).length 0 (List.replicate (Qag f).length (0:Int)) (by omega) (by simp)
 rw [show Qde (List.replicate f.2.2.2.2.1.length (0:Int)) (List.replicate f.2.2.2.1.length (0:Int)) f a b (f.2.2.2.2.1.length:Int) (0:Int)=some t0 from ht0,Qaa]
 obtain ⟨t1,ht1,hl1,hj1⟩:=QGj f t0 a b (Qac f).length (by omega) (Qac f).length 0 (List.replicate (Qac f).length (0:Int)) (by omega) (by simp) (fun j hj=>absurd hj (Nat.not_lt_zero j))
 rw [show Qcv t0 (List.replicate f.2.2.2.1.length (0:Int)) f a b (f.2.2.2.1.length:Int) (0:Int)=some t1 from ht1,Qaa]
 rw [show Qdg t0 t1 f b a (a.length:Int) (0:Int)=some (QcR 0 a 0 t0) from QGg f t1 b a (Qag f).length (by omega) hNr a [] t0 rfl hl0,Qaa]
 rw [show Qdh (QcR 0 a 0 t0) t1 f b (b.length:Int) (0:Int)=some (QcR (fPar f) b 0 t1) from QGh f (QcR 0 a 0 t0) b (Qac f).length hp0 (by omega) (by omega) hVr b [] t1 rfl hl1,Qaa]
 refine ⟨_,_,rfl,⟨by rw [Qna,hl0],by rw [Qna,hl1],fun j x hx=>?_,fun j v hx=>?_,fun i hi=>?_⟩⟩
 ·rw [Qqf 0 a 0 t0 sh.nn (fun x hx=>by rw [hl0]; exact hNr x hx) j x hx]
  simp
 ·rw [Qqf (fPar f) b 0 t1 sh.vn (fun x hx=>by rw [hl1]; exact hVr x hx) j v hx]
  simp
 ·rw [Qh0 (fPar f) b 0 t1 i fun x hx hxi=>by
   have:=(sh.vg x hx).1
   omega]
  exact hj1 i (by omega) hi
end Go.Proofs.YtkecfadnfnnfaaaGreatDoor.LabB.V
namespace Go.Proofs.YtkecfadnfnnfaaaGreatDoor.LabB.V
open Go Go.Ev Go.Sy Go.Proofs.YtkecfadnfnnfaaaGreatDoor.LabB
def numOf (nl:List Int)(v:Int):Int:=if 0≤v∧v<(nl.length:Int) then nl.getD v.toNat 0 else v
def toOf (tl:List Int)(k:Int):Int:=tl.getD k.toNat 0
def trBr (tl nl:List Int)(b:Qak):Qak:=(b.1.map (numOf nl),toOf tl b.2)
def QaI (op:Int):Bool:=decide (op<0∨9<op∨op=1)
def tr (tl nl:List Int)(n:Qab):Qab:=
 (nOp n,(if nOp n≠9∧QaS (nOp n)=true then numOf nl (nVar n) else nVar n,
  (if QaI (nOp n)=true then QaG n else (QaG n).map (numOf nl),(n.2.2.2.1,(n.2.2.2.2.1,(n.2.2.2.2.2.1,
   (if QaI (nOp n)=true then Qbf n else (Qbf n).map (numOf nl),(n.2.2.2.2.2.2.2.1,(if nOp n=9 then (nBr n).map (trBr tl nl) else nBr n,
    if nOp n≠9∧QbY (nOp n)=true then toOf tl (Qbg n) else Qbg n)))))))))
theorem QDM {nl:List Int}{v:Int}(h0:0≤v)(h1:v<(nl.length:Int)):Sy.at' nl v=some (numOf nl v):=by
 obtain ⟨x,hx,hx'⟩:=Qeg h0 h1
 rw [hx,numOf,if_pos ⟨h0,h1⟩,List.getD_eq_getElem?_getD,hx']
 rfl
theorem QGk {tl:List Int}{k:Int}(h0:0≤k)(h1:k<(tl.length:Int)):Sy.at' tl k=some (toOf tl k):=by
 obtain ⟨x,hx,hx'⟩:=Qeg h0 h1
 rw [hx,toOf,List.getD_eq_getElem?_getD,hx']
 rfl
theorem QGl (nl l:List Int)(hl:l.length≤1000):∀ (r pre acc:List Int),l=pre++r→acc.length≤pre.length→QbS acc nl l (l.length:Int) (pre.length:Int)=some (acc++r.map (numOf nl)):=by
 intro r
 induction r with
 | nil=>
  intro pre acc h ha
  rw [Qfn]
  subst h
  rw [QcM (Qg3 pre)]
  simp
 | cons x r ih=>
  intro pre acc h ha
  rw [Qfn]
  subst h
  have hp:(pre++x::r).length=pre.length+(r.length+1):=by simp
  rw [QcZ (QjF pre x r),QhJ,Qaa]
  have hj:(Option.bind (bif decide (x<0) then some false else some (decide (x<(nl.length:Int)))) fun v6=>bif v6 then Option.bind (Sy.at' nl x) fun v7=>some v7 else some x)=some (numOf nl x):=by
   simp only [QaJ,Qaa,cond_true,cond_false]
   by_cases h0:x<0
   ·rw [Qad h0,numOf,if_neg (by omega)]
   ·rw [Qaf h0]
    by_cases h1:x<(nl.length:Int)
    ·rw [Qad h1,QDM (by omega) h1]
     rfl
    ·rw [Qaf h1,numOf,if_neg (by omega)]
  rw [hj,Qaa,Qad (by omega),QiM (pre:=pre) (x:=x) (r:=r) (by omega),ih (pre++[x]) (acc++[numOf nl x]) (Qhh ..) (by simp; omega)]
  simp
theorem Qnb (nl l:List Int)(hl:l.length≤1000):Qby nl l=some (l.map (numOf nl)):=by
 rw [Qmg,show QbS ([]:List Int) nl l (l.length:Int) (0:Int)=some ([]++l.map (numOf nl)) from QGl nl l hl l [] [] rfl (by simp)]
 rfl
theorem QEY (l:List Qak)(hl:l.length≤1000)(hb:∀ b∈l,b.1.length≤1000):∀ (r pre acc:List Qak),l=pre++r→acc.length≤pre.length→Qct acc l (l.length:Int) (pre.length:Int)=some (acc++r):=by
 intro r
 induction r with
 | nil=>
  intro pre acc h ha
  rw [QgJ]
  subst h
  rw [QcM (Qg3 pre)]
  simp
 | cons x r ih=>
  intro pre acc h ha
  rw [QgJ]
  subst h
  have hp:(pre++x::r).length=pre.length+(r.length+1):=by simp
  have hx:=hb x (by simp)
  rw [QcZ (QjF pre x r),QhJ,Qaa,Qad (by omega),Qad (by omega),QiM (pre:=pre) (x:=x) (r:=r) (by omega),ih (pre++[x]) (acc++[x]) (Qhh ..) (by simp; omega)]
  simp
theorem QvV (l:List Qak)(hl:l.length≤1000)(hb:∀ b∈l,b.1.length≤1000):Qiy l=some l:=by
 rw [Qn5,show Qct ([]:List Qak) l (l.length:Int) (0:Int)=some ([]++l) from QEY l hl hb l [] [] rfl (by simp)]
 rfl
section
variable (v0:List GVar) (v1:List Qab) (v2:List GVar) (v3:List Qab) (v5:GFun) (v6:List UInt8) (v7 v8 v9:Int) (v10:Bool) (v11:List UInt8) (v12 v13 v14:Int) (v15:Bool) (v16 v17:Int) (v18:List Int) (v19 v20 v21:Int) (v22:List Int) (v23:Bool) (v24:Int)
 (v27:List Int) (v28 v29:Int)
theorem QEZ (tl nl:List Int)(l:List Qak)(hl:l.length≤1000)(hb:∀ b∈l,b.1.length≤1000)(ht:∀ b∈l,0≤b.2∧b.2<(tl.length:Int)):∀ (r pre acc:List Qak),l=pre++r→acc.length≤pre.length→
  Qcs v0 v1 v2 v3 acc v5 v6 v7 v8 v9 v10 v11 v12 v13 v14 v15 v16 v17 v18 v19 v20 v21 v22 v23 v24 tl nl v27 v28 v29 l (l.length:Int) (pre.length:Int)=some (acc++r.map (trBr tl nl)):=by
 intro r
 induction r with
 | nil=>
  intro pre acc h ha
  rw [QgI]
  subst h
  rw [QcM (Qg3 pre)]
  simp
 | cons x r ih=>
  intro pre acc h ha
  rw [QgI]
  subst h
  have hp:(pre++x::r).length=pre.length+(r.length+1):=by simp
  have hx:=hb x (by simp)
  obtain ⟨t0,t1⟩:=ht x (by simp)
  rw [QcZ (QjF pre x r),QhJ,Qaa,QGk t0 t1,Qaa,Qnb nl x.1 hx,Qaa,Qad (by omega),QiM (pre:=pre) (x:=x) (r:=r) (by omega),ih (pre++[x]) (acc++[(x.1.map (numOf nl),toOf tl x.2)]) (Qhh ..) (by simp; omega)]
  simp [trBr]
end
structure Qxg (tl nl:List Int)(n:Qab):Prop where
 small:QaQ n
 var:nOp n≠9→QaS (nOp n)=true→0≤nVar n∧nVar n<(nl.length:Int)
 next:nOp n≠9→QbY (nOp n)=true→0≤Qbg n∧Qbg n<(tl.length:Int)
 br:nOp n=9→∀ b∈nBr n,0≤b.2∧b.2<(tl.length:Int)
theorem QBn {f:GFun}{N V tl nl:List Int}(hf:Small f)(hm:QiX f N V tl nl){x:Int}(hx:QBk f x):∃ n,(Qag f)[x.toNat]?=some n∧Qxg tl nl n:=by
 obtain ⟨h0,h1,n,hn,hk⟩:=hx
 refine ⟨n,hn,hf.nodes n (List.mem_of_getElem? hn),fun h9 hb=>?_,fun h9 hb=>?_,fun h9 b hb=>?_⟩
 ·rw [hm.nlen]
  have hnext:QbY (nOp n)=true:=by simp only [QaS,QbY,decide_eq_true_eq] at *; omega
  have hkb:kb n=[(Qbg n,[nVar n])]:=by simp [kb,kids,binds,h9,hb,hnext]
  exact (hk (Qbg n,[nVar n]) (by rw [hkb]; simp)).2 (nVar n) (by simp)
 ·rw [hm.tlen]
  have hkb:kb n=[(Qbg n,binds n)]:=by simp [kb,kids,h9,hb]
  exact (hk (Qbg n,binds n) (by rw [hkb]; simp)).1
 ·rw [hm.tlen]
  have hkb:kb n=(nBr n).map (fun b=>(b.2,b.1)):=by simp [kb,h9]
  exact (hk (b.2,b.1) (by rw [hkb]; exact List.mem_map.mpr ⟨b,hb,rfl⟩)).1
theorem j1 (nl:List Int)(m:Qab)(h:QaQ m):(Option.bind (bif (decide (m.1<(0:Int))) then some false else some (!(decide ((9:Int)<m.1)))) fun v22=>
  Option.bind (bif v22 then some (!(decide (m.1=(1:Int)))) else some false) fun v23=>
  bif v23 then
   Option.bind (Qby nl m.2.2.1) fun v24=>
   Option.bind (Qby nl m.2.2.2.2.2.2.1) fun v25=>
   some (m.1,(m.2.1,(v24,(m.2.2.2.1,(m.2.2.2.2.1,(m.2.2.2.2.2.1,(v25,m.2.2.2.2.2.2.2)))))))
  else some m)=
  some (m.1,(m.2.1,(if QaI (nOp m)=true then QaG m else (QaG m).map (numOf nl),(m.2.2.2.1,(m.2.2.2.2.1,(m.2.2.2.2.2.1,(if QaI (nOp m)=true then Qbf m else (Qbf m).map (numOf nl),m.2.2.2.2.2.2.2))))))):=by
 have ha:=h.args
 have hm:=h.more
 simp only [QaJ,Qaa,cond_true,cond_false,Qda]
 by_cases h0:m.1<0
 ·have hb:QaI (nOp m)=true:=by simp only [QaI,decide_eq_true_eq]; exact .inl h0
  rw [Qad h0,if_pos hb,if_pos hb]
 ·rw [Qaf h0]
  by_cases h1:9<m.1
  ·have hb:QaI (nOp m)=true:=by simp only [QaI,decide_eq_true_eq]; exact .inr (.inl h1)
   rw [Qad h1,if_pos hb,if_pos hb]
  ·rw [Qaf h1]
   by_cases h2:m.1=1
   ·have hb:QaI (nOp m)=true:=by simp only [QaI,decide_eq_true_eq]; exact .inr (.inr h2)
    rw [Qad h2,if_pos hb,if_pos hb]
   ·have hb:¬ QaI (nOp m)=true:=by simp only [QaI,decide_eq_true_eq]; exact fun h=>by rcases h with h |h |h<;>contradiction
    rw [Qaf h2,Qnb nl m.2.2.1 (Nat.le_trans ha (by decide)),Qaa,Qnb nl m.2.2.2.2.2.2.1 (Nat.le_trans hm (by decide)),Qaa,if_neg hb,if_neg hb]
theorem j2 (nl:List Int)(m:Qab)(h:QaQ m)(hv:nOp m≠9→QaS (nOp m)=true→0≤nVar m∧nVar m<(nl.length:Int)):(Option.bind (bif (decide (m.1=(9:Int))) then some false else Option.bind (QdT m) fun v23=>some (decide ((0:Int)<(v23.length:Int)))) fun v23=>
  bif v23 then Option.bind (Sy.at' nl m.2.1) fun v24=>some (m.1,(v24,m.2.2)) else some m)=some (m.1,(if nOp m≠9∧QaS (nOp m)=true then numOf nl (nVar m) else nVar m,m.2.2)):=by
 by_cases h9:m.1=9
 ·rw [Qad h9,Qaa,cond_false,if_neg (fun h=>h.1 h9)]
 ·rw [Qaf h9,QfR m h,Qaa,Qaa]
  cases hb:QaS (nOp m) with
  | true=>
   obtain ⟨h0,h1⟩:=hv h9 hb
   have:binds m=[nVar m]:=by simp only [binds,if_neg (show ¬ nOp m=9 from h9),hb,if_true]
   rw [this,Qad (by simp),show Sy.at' nl m.2.1=_ from QDM h0 h1,Qaa,if_pos ⟨h9,rfl⟩]
  | false=>
   have:binds m=[]:=by simp [binds,show ¬ nOp m=9 from h9,hb]
   rw [this,Qaf (by simp),if_neg (by simp)]
theorem j3 (tl:List Int)(m:Qab)(h:QaQ m)(hv:nOp m≠9→QbY (nOp m)=true→0≤Qbg m∧Qbg m<(tl.length:Int)):(Option.bind (bif (decide (m.1=(9:Int))) then some false else Option.bind (Qep m) fun v24=>some (decide ((0:Int)<(v24.length:Int)))) fun v24=>
  bif v24 then Option.bind (Sy.at' tl m.2.2.2.2.2.2.2.2.2) fun v25=>
    some (m.1,(m.2.1,(m.2.2.1,(m.2.2.2.1,(m.2.2.2.2.1,(m.2.2.2.2.2.1,(m.2.2.2.2.2.2.1,(m.2.2.2.2.2.2.2.1,(m.2.2.2.2.2.2.2.2.1,v25)))))))))
      else some m)=some (m.1,(m.2.1,(m.2.2.1,(m.2.2.2.1,(m.2.2.2.2.1,(m.2.2.2.2.2.1,(m.2.2.2.2.2.2.1,(m.2.2.2.2.2.2.2.1,(m.2.2.2.2.2.2.2.2.1,if nOp m≠9∧QbY (nOp m)=true then toOf tl (Qbg m) else Qbg m))))))))):=by
 by_cases h9:m.1=9
 ·rw [Qad h9,Qaa,cond_false,if_neg (fun h=>h.1 h9)]
 ·rw [Qaf h9,QhY m h,Qaa,Qaa]
  cases hb:QbY (nOp m) with
  | true=>
   obtain ⟨h0,h1⟩:=hv h9 hb
   have:kids m=[Qbg m]:=by simp only [kids,if_neg (show ¬ nOp m=9 from h9),hb,if_true]
   rw [this,Qad (by simp),show Sy.at' tl m.2.2.2.2.2.2.2.2.2=_ from QGk h0 h1,Qaa,if_pos ⟨h9,rfl⟩]
  | false=>
   have:kids m=[]:=by simp [kids,show ¬ nOp m=9 from h9,hb]
   rw [this,Qaf (by simp),if_neg (by simp)]
theorem j5 (m:Qab)(h1:(QaG m).length≤1000)(h2:(Qbf m).length≤1000):∃ z:Unit⊕Unit,(Option.bind (bif (decide (m.1<(0:Int))) then some true else some (decide ((9:Int)<m.1))) fun v26=>
  Option.bind (bif v26 then some true else some (decide (m.1=(1:Int)))) fun v27=>
  bif v27 then
   bif (decide ((m.2.2.1.length * (8:Nat))≤(35184372088832:Nat))) then
    bif (decide ((m.2.2.2.2.2.2.1.length * (8:Nat))≤(35184372088832:Nat))) then some (.inl ()) else none
   else none
  else some (.inr ()))=some z:=by
 have a1:m.2.2.1.length * 8≤35184372088832:=by have:m.2.2.1.length≤1000:=h1; omega
 have a2:m.2.2.2.2.2.2.1.length * 8≤35184372088832:=by have:m.2.2.2.2.2.2.1.length≤1000:=h2; omega
 simp only [Qaj,Qaa]
 rw [Qad a1,Qad a2]
 cases (bif (bif decide (m.1<0) then true else decide (9<m.1)) then true else decide (m.1=1))<;>exact ⟨_,rfl⟩
theorem Qry {n m:Qab}(h:QaQ n)(h1:(QaG m).length=(QaG n).length)(h2:(Qbf m).length=(Qbf n).length)(h3:nBr m=nBr n):QaQ m:=
 ⟨by rw [h1]; exact h.args,by rw [h2]; exact h.more,by rw [h3]; exact h.br,by rw [h3]; exact h.bs⟩
section
variable (v0:List GVar) (v1:List Qab) (v2:List GVar) (f:GFun) (v5:List UInt8) (v6 v7 v8:Int) (v9:Bool) (v10:List UInt8) (v11 v12 v13:Int) (v14:Bool)
theorem QDl (tl nl N:List Int)(acc:List Qab)(len i:Int)(x:Int)(n:Qab)(hi:i<len)(hx:Sy.at' N i=some x)(hn:Sy.at' (Qag f) x=some n)(hin:Qxg tl nl n)(ha:acc.length≤1000):
  QaK v0 v1 v2 acc f v5 v6 v7 v8 v9 v10 v11 v12 v13 v14 tl nl N len i=QaK v0 v1 v2 (acc++[tr tl nl n]) f v5 v6 v7 v8 v9 v10 v11 v12 v13 v14 tl nl N len (Ev.wr .i64 (i+1)):=by
 have hs:=hin.small
 have hbr:=hs.br
 rw [QgH,Qad hi,hx,Qaa,show Sy.at' f.2.2.2.2.1 x=some n from hn,Qaa,j1 nl n hs,Qaa]
 have g1:∀ (b:Bool) (l:List Int),(if b=true then l else l.map (numOf nl)).length=l.length:=fun b l=>by split<;>simp
 have s1:QaQ (n.1,(n.2.1,(if QaI (nOp n)=true then QaG n else (QaG n).map (numOf nl),(n.2.2.2.1,(n.2.2.2.2.1,(n.2.2.2.2.2.1,(if QaI (nOp n)=true then Qbf n else (Qbf n).map (numOf nl),n.2.2.2.2.2.2.2))))))):=
  Qry hs (g1 _ _) (g1 _ _) rfl
 rw [j2 nl _ s1 hin.var,Qaa]
 have s2:QaQ (n.1,(if nOp n≠9∧QaS (nOp n)=true then numOf nl (nVar n) else nVar n,(if QaI (nOp n)=true then QaG n else (QaG n).map (numOf nl),(n.2.2.2.1,(n.2.2.2.2.1,(n.2.2.2.2.2.1,(if QaI (nOp n)=true then Qbf n else (Qbf n).map (numOf nl),n.2.2.2.2.2.2.2))))))):=
  Qry hs (g1 _ _) (g1 _ _) rfl
 rw [j3 tl _ s2 hin.next,Qaa]
 simp only
 by_cases h9:n.1=9
 ·rw [Qad h9]
  rw [show Qcs v0 v1 v2 acc ([]:List Qak) f v5 v6 v7 v8 v9 v10 v11 v12 v13 v14 n.1 _ _ n.2.2.2.1 n.2.2.2.2.1 n.2.2.2.2.2.1 _ n.2.2.2.2.2.2.2.1 _ tl nl N len i n.2.2.2.2.2.2.2.2.1 (n.2.2.2.2.2.2.2.2.1.length:Int) (0:Int)=some ([]++(nBr n).map (trBr tl nl)) from QEZ v0 v1 v2 acc f v5 v6 v7 v8 v9 v10 v11 v12 v13 v14 _ _ _ _ _ _ _ _ _ _ _ _ tl nl (nBr n) (by omega) (fun b hb=>Nat.le_trans (hs.bs b hb) (by decide)) (hin.br h9) (nBr n) [] [] rfl (by simp)]
  simp only [Qaa]
  obtain ⟨z,hz⟩:=j5 (n.1,(if nOp n≠9∧QaS (nOp n)=true then numOf nl (nVar n) else nVar n,(if QaI (nOp n)=true then QaG n else (QaG n).map (numOf nl),(n.2.2.2.1,(n.2.2.2.2.1,(n.2.2.2.2.2.1,(if QaI (nOp n)=true then Qbf n else (Qbf n).map (numOf nl),(n.2.2.2.2.2.2.2.1,(n.2.2.2.2.2.2.2.2.1,if nOp n≠9∧QbY (nOp n)=true then toOf tl (Qbg n) else Qbg n))))))))) (by rw [show ((QaG _).length)=_ from g1 _ _]; exact Nat.le_trans hs.args (by decide)) (by rw [show ((Qbf _).length)=_ from g1 _ _]; exact Nat.le_trans hs.more (by decide))
  simp only at hz
  rw [hz,Qaa]
  have e:tr tl nl n=(n.1,(if nOp n≠9∧QaS (nOp n)=true then numOf nl (nVar n) else nVar n,(if QaI (nOp n)=true then QaG n else (QaG n).map (numOf nl),(n.2.2.2.1,(n.2.2.2.2.1,(n.2.2.2.2.2.1,(if QaI (nOp n)=true then Qbf n else (Qbf n).map (numOf nl),(n.2.2.2.2.2.2.2.1,([]++(nBr n).map (trBr tl nl),if nOp n≠9∧QbY (nOp n)=true then toOf tl (Qbg n) else Qbg n))))))))):=by
   unfold tr
   rw [if_pos (show nOp n=9 from h9)]
   rfl
  rw [e]
  cases z with
  | inl _=>simp only; rw [Qad (by omega)]
  | inr _=>simp only; rw [Qad (by omega)]
 ·rw [Qaf h9,QvV n.2.2.2.2.2.2.2.2.1 (Nat.le_trans hbr (by decide)) (fun b hb=>Nat.le_trans (hs.bs b hb) (by decide)),Qaa,Qaa]
  simp only
  obtain ⟨z,hz⟩:=j5 (n.1,(if nOp n≠9∧QaS (nOp n)=true then numOf nl (nVar n) else nVar n,(if QaI (nOp n)=true then QaG n else (QaG n).map (numOf nl),(n.2.2.2.1,(n.2.2.2.2.1,(n.2.2.2.2.2.1,(if QaI (nOp n)=true then Qbf n else (Qbf n).map (numOf nl),(n.2.2.2.2.2.2.2.1,(n.2.2.2.2.2.2.2.2.1,if nOp n≠9∧QbY (nOp n)=true then toOf tl (Qbg n) else Qbg n))))))))) (by rw [show ((QaG _).length)=_ from g1 _ _]; exact Nat.le_trans hs.args (by decide)) (by rw [show ((Qbf _).length)=_ from g1 _ _]; exact Nat.le_trans hs.more (by decide))
  simp only at hz
  rw [hz,Qaa]
  have e:tr tl nl n=(n.1,(if nOp n≠9∧QaS (nOp n)=true then numOf nl (nVar n) else nVar n,(if QaI (nOp n)=true then QaG n else (QaG n).map (numOf nl),(n.2.2.2.1,(n.2.2.2.2.1,(n.2.2.2.2.2.1,(if QaI (nOp n)=true then Qbf n else (Qbf n).map (numOf nl),(n.2.2.2.2.2.2.2.1,(n.2.2.2.2.2.2.2.2.1,if nOp n≠9∧QbY (nOp n)=true then toOf tl (Qbg n) else Qbg n))))))))):=by
   unfold tr
   rw [if_neg (show ¬ nOp n=9 from h9)]
  rw [e]
  cases z with
  | inl _=>simp only; rw [Qad (by omega)]
  | inr _=>simp only; rw [Qad (by omega)]
end
def Qnc (vs:List GVar)(is:List Int):List GVar:=is.map fun v=>(vs[v.toNat]?).getD (0,false)
def QeJ (f:GFun)(x:Int):Qab:=((Qag f)[x.toNat]?).getD default
def nf (f:GFun)(N V tl nl:List Int):GFun:=(f.1,(fPar f,(f.2.2.1,((Qac f).take (fPar f).toNat++Qnc (Qac f) V,(N.map fun x=>tr tl nl (QeJ f x),((0:Int),fExt f))))))
section
variable (v0:List GVar) (v1:List Qab) (v3:List Qab) (f:GFun) (v5:List UInt8) (v6 v7 v8:Int) (v9:Bool) (v10:List UInt8) (v11 v12 v13:Int) (v14:Bool) (v15:List Int)
theorem QG1 (V:List Int)(hl:V.length≤1000)(hr:∀ v∈V,0≤v∧v<((Qac f).length:Int)):∀ (r pre:List Int) (acc:List GVar),V=pre++r→acc.length≤1000+pre.length→
  Qcq v0 v1 acc v3 f v5 v6 v7 v8 v9 v10 v11 v12 v13 v14 v15 V (V.length:Int) (pre.length:Int)=some (acc++Qnc (Qac f) r):=by
 intro r
 induction r with
 | nil=>
  intro pre acc h ha
  rw [QgF]
  subst h
  rw [QcM (Qg3 pre)]
  simp [Qnc]
 | cons x r ih=>
  intro pre acc h ha
  rw [QgF]
  subst h
  have hp:(pre++x::r).length=pre.length+(r.length+1):=by simp
  obtain ⟨h0,h1⟩:=hr x (by simp)
  obtain ⟨w,hw,hw'⟩:=Qeg (l:=Qac f) (i:=x) h0 h1
  rw [QcZ (QjF pre x r),QhJ,Qaa,show Sy.at' f.2.2.2.1 x=some w from hw,Qaa,Qad (by omega),QiM (pre:=pre) (x:=x) (r:=r) (by omega),ih (pre++[x]) (acc++[w]) (Qhh ..) (by simp; omega)]
  simp [Qnc,hw']
theorem QG2 (v2:List GVar)(tl nl N:List Int)(hl:N.length≤1000)(hr:∀ x∈N,(0≤x∧x<((Qag f).length:Int))∧Qxg tl nl (QeJ f x)):∀ (r pre:List Int) (acc:List Qab),N=pre++r→acc.length≤pre.length→
  QaK v0 v1 v2 acc f v5 v6 v7 v8 v9 v10 v11 v12 v13 v14 tl nl N (N.length:Int) (pre.length:Int)=some (acc++r.map fun x=>tr tl nl (QeJ f x)):=by
 intro r
 induction r with
 | nil=>
  intro pre acc h ha
  rw [QgH]
  subst h
  rw [QcM (Qg3 pre)]
  simp
 | cons x r ih=>
  intro pre acc h ha
  subst h
  have hp:(pre++x::r).length=pre.length+(r.length+1):=by simp
  obtain ⟨⟨h0,h1⟩,hin⟩:=hr x (by simp)
  obtain ⟨w,hw,hw'⟩:=Qeg (l:=Qag f) (i:=x) h0 h1
  have hwc:QeJ f x=w:=by unfold QeJ; rw [hw']; rfl
  rw [QDl v0 v1 v2 f v5 v6 v7 v8 v9 v10 v11 v12 v13 v14 tl nl (pre++x::r) acc _ (pre.length:Int) x w (by rw [hp]; omega) (QhJ pre x r) hw (hwc▸hin) (by omega)]
  rw [QiM (pre:=pre) (x:=x) (r:=r) (by omega),ih (pre++[x]) (acc++[tr tl nl w]) (Qhh ..) (by simp; omega)]
  simp [hwc]
end
theorem QvW (f:GFun)(hf:Small f){N V tl nl:List Int}(h:Qc4 f=some (N,V))(hm:Qit f=some (tl,nl,0))(hmo:QiX f N V tl nl):Qbb f=some (nf f N V tl nl,0):=by
 have hc:=hf.code
 have hv:=hf.vars
 have sh:=Qd1 h
 obtain ⟨a,b,k,hs1,hs2⟩:=Qqc f hf
 rw [h] at hs2
 simp only [Prod.mk.injEq] at hs2
 obtain ⟨⟨rfl,rfl⟩,rfl⟩:=hs2
 have hp0:=sh.par0
 have hp1:=sh.par1
 have hNl:=sh.nl
 have hVl:=sh.vl
 have hVr:∀ x∈b,0≤x∧x<((Qac f).length:Int):=fun x hx=>⟨by have:=(sh.vg x hx).1; omega,(sh.vg x hx).2⟩
 have hNr:∀ x∈a,(0≤x∧x<((Qag f).length:Int))∧Qxg tl nl (QeJ f x):=fun x hx=>by
  have hg:=sh.ng x hx
  obtain ⟨n,hn,hin⟩:=QBn hf hmo hg
  refine ⟨⟨hg.1,hg.2.1⟩,?_⟩
  unfold QeJ
  rw [hn]
  exact hin
 have htk:((Qac f).take (fPar f).toNat).length≤1000+(([]:List Int)).length:=by rw [List.length_take]; simp only [List.length_nil]; omega
 rw [Qn1,hs1,Qaa]
 simp only [cond_true]
 rw [Qaf (show ¬ f.2.1<0 from by have:0≤f.2.1:=hp0; omega),Qaf (show ¬ (f.2.2.2.1.length:Int)<f.2.1 from by have:f.2.1≤(f.2.2.2.1.length:Int):=hp1; omega)]
 rw [Qad (show (List.take f.2.1.toNat f.2.2.2.1).length * 16≤35184372088832 from by have:(List.take f.2.1.toNat f.2.2.2.1).length≤1000+(([]:List Int)).length:=htk; simp only [List.length_nil] at this; omega)]
 rw [show Qcq ([]:List GVar) ([]:List Qab) (List.take f.2.1.toNat f.2.2.2.1) ([]:List Qab) f ([]:List UInt8) (0:Int) (0:Int) (0:Int) false f.1 f.2.1 f.2.2.1 (0:Int) f.2.2.2.2.2.2 a b (b.length:Int) (0:Int)=some ((Qac f).take (fPar f).toNat++Qnc (Qac f) b) from
  QG1 _ _ _ f _ _ _ _ _ _ _ _ _ _ a b (by omega) hVr b [] _ rfl htk,Qaa,hm,Qaa]
 simp only
 rw [show QaK ([]:List GVar) ([]:List Qab) ((Qac f).take (fPar f).toNat++Qnc (Qac f) b) ([]:List Qab) f ([]:List UInt8) (0:Int) (0:Int) (0:Int) false f.1 f.2.1 f.2.2.1 (0:Int) f.2.2.2.2.2.2 tl nl a (a.length:Int) (0:Int)=some ([]++a.map fun x=>tr tl nl (QeJ f x)) from
  QG2 _ _ f _ _ _ _ _ _ _ _ _ _ _ tl nl a (by omega) hNr a [] [] rfl (by simp),Qaa]
 rfl
end Go.Proofs.YtkecfadnfnnfaaaGreatDoor.LabB.V
