/- Of the models: normal forms. -/
import Derived.Test.YtkecfadnfnnfaaaGreatDoorPlB11
set_option linter.unusedVariables false
set_option linter.unusedSimpArgs false
namespace Go.Proofs.YtkecfadnfnnfaaaGreatDoor.LabB.V
open Go Go.Ev Go.Sy Go.Proofs.YtkecfadnfnnfaaaGreatDoor.LabB
structure QaL (n:Qae):Prop where
 args:(QaO n).length≤12
 more:(QbS n).length≤12
 br:(nBr n).length≤20
 bs:∀ b∈nBr n,b.1.length≤12
theorem QaL.big {n:Qae}(h:QaL n):LabB.QaL n:=⟨Nat.le_trans h.args (by decide),Nat.le_trans h.more (by decide),Nat.le_trans h.br (by decide),fun b hb=>Nat.le_trans (h.bs b hb) (by decide)⟩
theorem QkX (n:Qae)(h:QaL n):QgZ n=some (kids n):=LabB.QkX n h.big
theorem Qgt (n:Qae)(h:QaL n):Qes n=some (binds n):=LabB.Qgt n h.big
theorem Qnn (n:Qae)(h:QaL n):QkK n=some (uses n):=LabB.Qnn n h.big
structure Small (f:GFun):Prop where
 code:(Qaj f).length≤80
 vars:(Qad f).length≤120
 nodes:∀ n∈Qaj f,QaL n
def mark (c:Nat)(l:List Bool)(k:Int):Option (List Bool):=if 0≤k∧k<(c:Int)∧l[k.toNat]?=some false then some (l.set k.toNat true) else none
theorem Qk7 (f:GFun)(re:List Bool)(hl:re.length=(Qaj f).length)(k:Int):∃ re' b,Qdi re f k=some (re',b)∧(match mark (Qaj f).length re k with |some r=>re'=r∧b=true |none=>b=false):=by
 rw [Qnc]
 simp only [Qar,Qaa,cond_true,cond_false,QdF]
 by_cases h0:k<0
 ·rw [Qab h0]
  refine ⟨_,_,rfl,?_⟩
  rw [mark,if_neg (by omega)]
 ·rw [Qac h0]
  by_cases h1:k<((Qaj f).length:Int)
  ·rw [Qab h1]
   obtain ⟨x,hx,hx'⟩:=Qc2 (l:=re) (i:=k) (by omega) (by omega)
   rw [hx,Qaa]
   cases x with
   | true=>
    refine ⟨_,_,rfl,?_⟩
    rw [mark,if_neg (by rw [hx']; simp)]
   | false=>
    refine ⟨_,_,rfl,?_⟩
    rw [mark,if_pos ⟨by omega,h1,hx'⟩]
    exact ⟨rfl,rfl⟩
  ·rw [Qac h1]
   refine ⟨_,_,rfl,?_⟩
   rw [mark,if_neg (by omega)]
def QfY (c:Nat):List Int→List Bool×List Bool×List Int→Option (List Bool×List Bool×List Int)
 | [],s=>some s
 | v::l,(bo,sc,va)=>match mark c bo v with
  | none=>none
  | some bo'=>QfY c l (bo',sc.set v.toNat true,va++[v])
theorem Qdm {c:Nat}{l r:List Bool}{k:Int}(h:mark c l k=some r):0≤k∧k<(c:Int)∧l[k.toNat]?=some false∧r=l.set k.toNat true:=by
 unfold mark at h
 split at h
 ·rename_i hh
  simp only [Option.some.injEq] at h
  exact ⟨hh.1,hh.2.1,hh.2.2,h.symm⟩
 ·cases h
theorem QGZ (f:GFun)(hf:Small f)(l:List Int)(hl:l.length≤1000):∀ (r pre:List Int) (bo sc:List Bool) (va:List Int),l=pre++r→bo.length=(Qad f).length→sc.length=(Qad f).length→va.length+cf bo≤1000→
  ∃ z,Qb5 bo sc va f l (l.length:Int) (pre.length:Int)=some z∧(match QfY (Qad f).length r (bo,sc,va) with |some s=>z=.inr s |none=>∃ s,z=.inl s):=by
 intro r
 induction r with
 | nil=>
  intro pre bo sc va h hb hs hv
  rw [QfV]
  subst h
  rw [Qcp (QdD pre)]
  exact ⟨_,rfl,rfl⟩
 | cons x r ih=>
  intro pre bo sc va h hb hs hv
  rw [QfV]
  simp only [Qar,Qaa,cond_true,cond_false,QdF]
  subst h
  rw [Qc3 (QmX pre x r),QkC,Qaa]
  by_cases h0:x<0
  ·rw [Qab h0]
   refine ⟨_,rfl,?_⟩
   rw [QfY,mark,if_neg (by omega)]
   exact ⟨_,rfl⟩
  ·rw [Qac h0]
   by_cases h1:x<((Qad f).length:Int)
   ·rw [Qab h1]
    obtain ⟨y,hy,hy'⟩:=Qc2 (l:=bo) (i:=x) (by omega) (by omega)
    rw [hy,Qaa]
    cases y with
    | true=>
     refine ⟨_,rfl,?_⟩
     rw [QfY,mark,if_neg (by rw [hy']; simp)]
     exact ⟨_,rfl⟩
    | false=>
     obtain ⟨w,hw,_⟩:=Qc2 (l:=sc) (i:=x) (by omega) (by omega)
     have hc:=Qhh bo x.toNat hy'
     rw [Qaa,Qcp rfl,Qaa,hw,Qaa,Qab (by omega),QlH (pre:=pre) (x:=x) (r:=r) (by omega)]
     have:=ih (pre++[x]) (bo.set x.toNat true) (sc.set x.toNat true) (va++[x]) (Qh3 ..) (by simp [hb]) (by simp [hs]) (by simp; omega)
     rw [QfY,mark,if_pos ⟨by omega,h1,hy'⟩]
     exact this
   ·rw [Qac h1]
    refine ⟨_,rfl,?_⟩
    rw [QfY,mark,if_neg (by omega)]
    exact ⟨_,rfl⟩
theorem QBF (f:GFun)(hf:Small f)(l:List Int)(hl:l.length≤1000)(bo sc:List Bool)(va:List Int)(hb:bo.length=(Qad f).length)(hs:sc.length=(Qad f).length)(hv:va.length+cf bo≤1000):
  ∃ bo' sc' va' b,Qg3 bo sc va f l=some (bo',sc',va',b)∧(match QfY (Qad f).length l (bo,sc,va) with |some s=>(bo',sc',va')=s∧b=true |none=>b=false):=by
 obtain ⟨z,h1,h2⟩:=QGZ f hf l hl l [] bo sc va rfl hb hs hv
 rw [Qnk,show Qb5 bo sc va f l (l.length:Int) (0:Int)=some z from h1,Qaa]
 cases hbs:QfY (Qad f).length l (bo,sc,va) with
 | none=>
  rw [hbs] at h2
  obtain ⟨⟨a,b,d⟩,rfl⟩:=h2
  exact ⟨_,_,_,_,rfl,rfl⟩
 | some s=>
  rw [hbs] at h2
  obtain ⟨a,b,d⟩:=s
  simp only at h2
  subst h2
  exact ⟨_,_,_,_,rfl,rfl,rfl⟩
def QfZ (l:List Int)(sc:List Bool):List Bool:=l.foldl (fun sc v=>sc.set v.toNat false) sc
theorem QGg (c:Nat)(l:List Int)(hl:l.length≤1000)(hr:∀ v∈l,0≤v∧v<(c:Int)):∀ (r pre:List Int) (sc:List Bool),l=pre++r→sc.length=c→Qb6 sc l (l.length:Int) (pre.length:Int)=some (QfZ r sc):=by
 intro r
 induction r with
 | nil=>
  intro pre sc h hs
  rw [QfW]
  subst h
  rw [Qcp (QdD pre)]
  rfl
 | cons x r ih=>
  intro pre sc h hs
  rw [QfW]
  subst h
  obtain ⟨h0,h1⟩:=hr x (by simp)
  obtain ⟨w,hw,_⟩:=Qc2 (l:=sc) (i:=x) h0 (by omega)
  rw [Qc3 (QmX pre x r),QkC,Qaa,hw,Qaa,QlH (pre:=pre) (x:=x) (r:=r) (by omega),ih (pre++[x]) (sc.set x.toNat false) (Qh3 ..) (by simp [hs])]
  rfl
theorem Qzc (c:Nat)(l:List Int)(hl:l.length≤1000)(hr:∀ v∈l,0≤v∧v<(c:Int))(sc:List Bool)(hs:sc.length=c):Qg4 sc l=some (QfZ l sc):=by
 rw [Qnl,show Qb6 sc l (l.length:Int) (0:Int)=some (QfZ l sc) from QGg c l hl hr l [] sc rfl hs]
 rfl
def Qhi (c:Nat)(sc:List Bool)(l:List Int):Bool:=l.all fun v=>decide (0≤v∧v<(c:Int)∧sc[v.toNat]?=some true)
theorem QGh (f:GFun)(n:Qae)(nodes:List Int)(sc re bo:List Bool)(va:List Int)(ok:Bool)(l:List Int)(hl:l.length≤1000)(hs:sc.length=(Qad f).length):∀ (r pre:List Int),l=pre++r→
  Qb0 nodes sc re bo va f ok n l (l.length:Int) (pre.length:Int)=some (if Qhi (Qad f).length sc r=true then .inr () else .inl ()):=by
 intro r
 induction r with
 | nil=>
  intro pre h
  rw [QfQ]
  subst h
  rw [Qcp (QdD pre)]
  rfl
 | cons x r ih=>
  intro pre h
  rw [QfQ]
  simp only [Qar,Qaa,cond_true,cond_false,QdF]
  subst h
  rw [Qc3 (QmX pre x r),QkC,Qaa]
  unfold Qhi
  rw [List.all_cons]
  by_cases h0:x<0
  ·rw [Qab h0,QaD (by omega)]
   simp
  ·rw [Qac h0]
   by_cases h1:x<((Qad f).length:Int)
   ·rw [Qab h1]
    obtain ⟨y,hy,hy'⟩:=Qc2 (l:=sc) (i:=x) (by omega) (by omega)
    rw [hy,Qaa]
    cases y with
    | true=>
     rw [Qaa,QdF,Qc3 rfl,QlH (pre:=pre) (x:=x) (r:=r) (by omega),ih (pre++[x]) (Qh3 ..),QaY ⟨by omega,h1,hy'⟩,Bool.true_and]
     rfl
    | false=>
     rw [Qaa,QdF,Qcp rfl,QaD (by rw [hy']; simp)]
     simp
   ·rw [Qac h1,QaD (by omega)]
    simp
structure S where
 nodes:List Int
 sc:List Bool
 re:List Bool
 bo:List Bool
 va:List Int
def visL (f:GFun)(g:S→Int→Option S):List (Int×List Int)→S→Option S
 | [],s=>some s
 | (k,l)::r,s=>match mark (Qaj f).length s.re k with
  | none=>none
  | some re=>match QfY (Qad f).length l (s.bo,s.sc,s.va) with
   | none=>none
   | some (bo,sc,va)=>match g ⟨s.nodes,sc,re,bo,va⟩ k with
    | none=>none
    | some s2=>visL f g r ⟨s2.nodes,QfZ l s2.sc,s2.re,s2.bo,s2.va⟩
def vis (f:GFun):Nat→S→Int→Option S
 | 0,_,_=>none
 | d+1,s,at_=>match (Qaj f)[at_.toNat]? with
  | none=>none
  | some n=>if Qhi (Qad f).length s.sc (uses n)=true then visL f (vis f d) (kb n) ⟨s.nodes++[at_],s.sc,s.re,s.bo,s.va⟩ else none
structure Wf (f:GFun)(s:S):Prop where
 re:s.re.length=(Qaj f).length
 bo:s.bo.length=(Qad f).length
 sc:s.sc.length=(Qad f).length
theorem Qgu:∀ (l:List Int) (sc:List Bool),(QfZ l sc).length=sc.length
 | [],sc=>rfl
 | v::l,sc=>by
  show (QfZ l (sc.set v.toNat false)).length=_
  rw [Qgu l,List.length_set]
theorem Qem {c:Nat}:∀ {l:List Int} {bo sc bo' sc':List Bool} {va va':List Int},QfY c l (bo,sc,va)=some (bo',sc',va')→bo'.length=bo.length∧sc'.length=sc.length∧va'=va++l∧va'.length+cf bo'=va.length+cf bo∧∀ v∈l,0≤v∧v<(c:Int)
 | [],bo,sc,bo',sc',va,va',h=>by
  simp only [QfY,Option.some.injEq,Prod.mk.injEq] at h
  obtain ⟨rfl,rfl,rfl⟩:=h
  exact ⟨rfl,rfl,by simp,rfl,fun v hv=>by simp at hv⟩
 | v::l,bo,sc,bo',sc',va,va',h=>by
  simp only [QfY] at h
  cases hm:mark c bo v with
  | none=>rw [hm] at h; cases h
  | some b=>
   rw [hm] at h
   obtain ⟨h0,h1,h2,rfl⟩:=Qdm hm
   obtain ⟨k1,k2,k3,k4,k5⟩:=Qem h
   have hc:=Qhh bo v.toNat h2
   refine ⟨by rw [k1,List.length_set],by rw [k2,List.length_set],by rw [k3]; simp,by rw [k4]; simp; omega,fun w hw=>?_⟩
   simp only [List.mem_cons] at hw
   rcases hw with rfl |hw
   ·exact ⟨h0,h1⟩
   ·exact k5 w hw
structure Kept (f:GFun)(s s':S)(k:Nat):Prop where
 wf:Wf f s'
 nodes:s'.nodes.length+cf s'.re=s.nodes.length+cf s.re+k
 vars:s'.va.length+cf s'.bo=s.va.length+cf s.bo
 pre:∃ r,s'.nodes=s.nodes++r
 prev:∃ r,s'.va=s.va++r
 le:cf s'.re≤cf s.re
theorem Qvs (f:GFun)(g:S→Int→Option S)(hg:∀ s a s',Wf f s→g s a=some s'→Kept f s s' 1):∀ (r:List (Int×List Int)) (s s':S),Wf f s→visL f g r s=some s'→Kept f s s' 0
 | [],s,s',hw,h=>by
  simp only [visL,Option.some.injEq] at h
  subst h
  exact ⟨hw,rfl,rfl,⟨[],by simp⟩,⟨[],by simp⟩,Nat.le_refl _⟩
 | (k,l)::r,s,s',hw,h=>by
  simp only [visL] at h
  cases hm:mark (Qaj f).length s.re k with
  | none=>rw [hm] at h; cases h
  | some re=>
   rw [hm] at h
   simp only at h
   cases hb:QfY (Qad f).length l (s.bo,s.sc,s.va) with
   | none=>rw [hb] at h; cases h
   | some t=>
    obtain ⟨bo,sc,va⟩:=t
    rw [hb] at h
    simp only at h
    cases hv:g ⟨s.nodes,sc,re,bo,va⟩ k with
    | none=>rw [hv] at h; cases h
    | some s2=>
     rw [hv] at h
     simp only at h
     obtain ⟨h0,h1,h2,rfl⟩:=Qdm hm
     obtain ⟨k1,k2,k3,k4,k5⟩:=Qem hb
     have hc:=Qhh s.re k.toNat h2
     have w1:Wf f ⟨s.nodes,sc,s.re.set k.toNat true,bo,va⟩:=⟨by simp [hw.re],by rw [k1,hw.bo],by rw [k2,hw.sc]⟩
     have q:=hg _ _ _ w1 hv
     have w2:Wf f ⟨s2.nodes,QfZ l s2.sc,s2.re,s2.bo,s2.va⟩:=⟨q.wf.re,q.wf.bo,by rw [Qgu]; exact q.wf.sc⟩
     have p:=Qvs f g hg r _ _ w2 h
     obtain ⟨r1,hr1⟩:=q.pre
     obtain ⟨r2,hr2⟩:=p.pre
     obtain ⟨u1,hu1⟩:=q.prev
     obtain ⟨u2,hu2⟩:=p.prev
     have a1:=q.nodes
     have a2:=p.nodes
     have b1:=q.vars
     have b2:=p.vars
     have c1:=q.le
     have c2:=p.le
     simp only at a1 a2 b1 b2 c1 c2 hr1 hr2 hu1 hu2
     exact ⟨p.wf,by omega,by omega,⟨r1++r2,by rw [hr2,hr1,List.append_assoc]⟩,⟨l++(u1++u2),by rw [hu2,hu1,k3]; simp⟩,by omega⟩
theorem Qls (f:GFun):∀ (d:Nat) (s:S) (a:Int) (s':S),Wf f s→vis f d s a=some s'→Kept f s s' 1
 | 0,s,a,s',hw,h=>by simp [vis] at h
 | d+1,s,a,s',hw,h=>by
  simp only [vis] at h
  cases hn:(Qaj f)[a.toNat]? with
  | none=>rw [hn] at h; cases h
  | some n=>
   rw [hn] at h
   simp only at h
   split at h
   ·have p:=Qvs f (vis f d) (Qls f d) _ ⟨s.nodes++[a],s.sc,s.re,s.bo,s.va⟩ _ ⟨hw.re,hw.bo,hw.sc⟩ h
    obtain ⟨r,hr⟩:=p.pre
    have a1:=p.nodes
    have b1:=p.vars
    have c1:=p.le
    simp only [List.length_append,List.length_cons,List.length_nil] at a1 b1 c1 hr
    exact ⟨p.wf,by omega,by omega,⟨[a]++r,by rw [hr]; simp⟩,p.prev,c1⟩
   ·cases h
theorem QBv (n:Qae)(h:QaL n):(kb n).length≤1000:=by
 have hb:=h.br
 unfold kb
 by_cases hn:nOp n=9
 ·rw [if_pos hn]; simp; omega
 ·rw [if_neg hn,List.length_map,kids,if_neg hn]
  split<;>simp
theorem Qpv (n:Qae)(h:QaL n):∀ p∈kb n,p.2.length≤1000:=by
 intro p hp
 unfold kb at hp
 split at hp
 ·simp only [List.mem_map] at hp
  obtain ⟨b,hb,rfl⟩:=hp
  have:=h.bs b hb
  simp only
  omega
 ·rename_i hn
  simp only [List.mem_map] at hp
  obtain ⟨k,hk,rfl⟩:=hp
  simp only [binds,if_neg hn]
  split<;>simp
theorem Qnr (n:Qae)(h:QaL n):(uses n).length≤1000:=by
 have ha:=h.args
 have hm:=h.more
 unfold uses
 split
 ·simp
 ·split
  ·have:=List.length_filter_le (fun v=>decide (0≤v)) (QaO n++QbS n)
   rw [List.length_append] at this
   omega
  ·omega
def Agr (r:List Int×List Bool×List Bool×List Bool×List Int×Bool)(o:Option S):Prop:=match o with
 | some s=>r=(s.nodes,s.sc,s.re,s.bo,s.va,true)
 | none=>r.2.2.2.2.2=false
def Does (f:GFun)(g:S→Int→Option S)(s:S)(a:Int):Prop:=∃ r,Qcj s.nodes s.sc s.re s.bo s.va f true a=some r∧Agr r (g s a)
theorem QGi (f:GFun)(hf:Small f)(n:Qae)(hn:QaL n)(g:S→Int→Option S)(D:Nat)(hg:∀ s a s',Wf f s→g s a=some s'→Kept f s s' 1)
  (hd:∀ s a,Wf f s→0≤a→a<((Qaj f).length:Int)→cf s.re<D→s.nodes.length+cf s.re<(Qaj f).length→s.va.length+cf s.bo≤1000→Does f g s a):
  ∀ (r pre:List (Int×List Int)) (s:S),kb n=pre++r→Wf f s→cf s.re≤D→s.nodes.length+cf s.re≤(Qaj f).length→s.va.length+cf s.bo≤1000→
  ∃ z,Qb3 s.nodes s.sc s.re s.bo s.va f true n (kids n) ((kids n).length:Int) (pre.length:Int)=some z∧
    (match visL f g r s with |some s'=>z=.inr (s'.nodes,s'.sc,s'.re,s'.bo,s'.va,true) |none=>∃ t,z=.inl t∧t.2.2.2.2.2=false):=by
 have hkl:=QBv n hn
 intro r
 induction r with
 | nil=>
  intro pre s h hw hc hnn hv
  rw [QfU]
  rw [Qac (by rw [Qbc,h]; simp)]
  exact ⟨_,rfl,rfl⟩
 | cons x r ih=>
  obtain ⟨k,l⟩:=x
  intro pre s h hw hc hnn hv
  rw [QfU]
  have hlen:(kids n).length=pre.length+(r.length+1):=by rw [Qbc,h]; simp
  have hkl2:(kb n).length=pre.length+(r.length+1):=by rw [h]; simp
  have hat:Sy.at' (kids n) (pre.length:Int)=some k:=by
   rw [QjC,Qbc,h,List.map_append,List.getElem?_append_right (by simp)]
   simp
  have hll:l.length≤1000:=Qpv n hn (k,l) (by rw [h]; simp)
  rw [Qab (by omega),hat,Qaa,Qgt n hn,Qaa]
  have hjoin:(bif decide (n.1=(9:Int)) then Option.bind (Sy.at' n.2.2.2.2.2.2.2.2.1 (pre.length:Int)) fun v13=>some v13.1 else some (binds n))=some l:=by
   by_cases h9:nOp n=9
   ·rw [Qab h9,QjC]
    have hk:kb n=(nBr n).map (fun b=>(b.2,b.1)):=by unfold kb; rw [if_pos h9]
    have:(kb n)[pre.length]?=some (k,l):=by rw [h,List.getElem?_append_right (Nat.le_refl _)]; simp
    rw [hk,List.getElem?_map] at this
    cases hb:(nBr n)[pre.length]? with
    | none=>rw [hb] at this; simp at this
    | some b=>
     rw [hb] at this
     simp only [Option.map_some,Option.some.injEq,Prod.mk.injEq] at this
     rw [Qaa,this.2]
   ·rw [Qac h9]
    have hk:kb n=(kids n).map (fun k=>(k,binds n)):=by unfold kb; rw [if_neg h9]
    have hm:(k,l)∈kb n:=by rw [h]; simp
    rw [hk] at hm
    simp only [List.mem_map,Prod.mk.injEq] at hm
    obtain ⟨_,_,_,hm⟩:=hm
    rw [hm]
  rw [hjoin,Qaa]
  obtain ⟨re',b,hr1,hr2⟩:=Qk7 f s.re hw.re k
  rw [hr1,Qaa]
  simp only
  rw [visL]
  cases hm:mark (Qaj f).length s.re k with
  | none=>
   rw [hm] at hr2
   simp only at hr2
   rw [Qcp hr2]
   exact ⟨_,rfl,_,rfl,rfl⟩
  | some re=>
   rw [hm] at hr2
   obtain ⟨rfl,hb⟩:=hr2
   rw [Qc3 hb]
   obtain ⟨bo',sc',va',b',hb1,hb2⟩:=QBF f hf l hll s.bo s.sc s.va hw.bo hw.sc hv
   rw [hb1,Qaa]
   simp only
   rw [Qaa]
   simp only
   rw [QdF]
   cases hbs:QfY (Qad f).length l (s.bo,s.sc,s.va) with
   | none=>
    rw [hbs] at hb2
    simp only at hb2
    rw [Qcp hb2]
    exact ⟨_,rfl,_,rfl,rfl⟩
   | some t=>
    obtain ⟨bo,sc,va⟩:=t
    rw [hbs] at hb2
    simp only [Prod.mk.injEq] at hb2
    obtain ⟨⟨rfl,rfl,rfl⟩,hb2⟩:=hb2
    rw [Qc3 hb2]
    obtain ⟨m0,m1,m2,m3⟩:=Qdm hm
    obtain ⟨k1,k2,k3,k4,k5⟩:=Qem hbs
    have hcs:=Qhh s.re k.toNat m2
    have hw1:Wf f ⟨s.nodes,sc',re',bo',va'⟩:=⟨by rw [m3]; simp [hw.re],by rw [k1,hw.bo],by rw [k2,hw.sc]⟩
    obtain ⟨r4,hd1,hd2⟩:=hd ⟨s.nodes,sc',re',bo',va'⟩ k hw1 m0 m1 (by simp only; rw [m3]; omega) (by simp only; rw [m3]; omega) (by simp only; omega)
    rw [show Qcj s.nodes sc' re' bo' va' f true k=some r4 from hd1,Qaa]
    cases hgv:g ⟨s.nodes,sc',re',bo',va'⟩ k with
    | none=>
     rw [hgv] at hd2
     obtain ⟨a1,a2,a3,a4,a5,a6⟩:=r4
     simp only [Agr] at hd2
     subst hd2
     simp only [cond_false,hgv]
     exact ⟨_,rfl,_,rfl,rfl⟩
    | some s2=>
     rw [hgv] at hd2
     simp only [Agr] at hd2
     subst hd2
     simp only [cond_true,hgv]
     have q:=hg _ _ _ hw1 hgv
     rw [Qzc (Qad f).length l hll k5 s2.sc q.wf.sc,Qaa]
     have e1:Ev.wr .i64 ((pre.length:Int)+1)=((pre++[(k,l)]).length:Int):=by
      rw [Sy.QcZ (by omega)]
      simp
     rw [e1]
     have a1:=q.nodes
     have b1:=q.vars
     have c1:=q.le
     simp only at a1 b1 c1
     rw [m3] at a1 c1
     exact ih (pre++[(k,l)]) ⟨s2.nodes,QfZ l s2.sc,s2.re,s2.bo,s2.va⟩ (by rw [h]; simp) ⟨q.wf.re,q.wf.bo,by rw [Qgu]; exact q.wf.sc⟩ (by simp only; omega) (by simp only; omega) (by simp only; omega)
theorem Qfi (f:GFun)(hf:Small f):∀ (d:Nat) (s:S) (a:Int),Wf f s→0≤a→a<((Qaj f).length:Int)→cf s.re<d→s.nodes.length+cf s.re<(Qaj f).length→s.va.length+cf s.bo≤1000→Does f (vis f d) s a
 | 0,s,a,hw,h0,h1,hc,hn,hv=>absurd hc (Nat.not_lt_zero _)
 | d+1,s,a,hw,h0,h1,hc,hnn,hv=>by
  have hcode:=hf.code
  unfold Does
  rw [Qnd]
  obtain ⟨n,hn1,hn2⟩:=Qc2 (l:=Qaj f) (i:=a) h0 h1
  have hn:QaL n:=hf.nodes n (List.mem_of_getElem? hn2)
  rw [show Sy.at' f.2.2.2.2.1 a=some n from hn1,Qaa,Qab (by omega),Qnn n hn,Qaa]
  rw [show Qb0 (s.nodes++[a]) s.sc s.re s.bo s.va f true n (uses n) ((uses n).length:Int) (0:Int)=_ from QGh f n (s.nodes++[a]) s.sc s.re s.bo s.va true (uses n) (Qnr n hn) hw.sc (uses n) [] rfl,Qaa]
  rw [vis,hn2]
  simp only
  by_cases hu:Qhi (Qad f).length s.sc (uses n)=true
  ·rw [if_pos hu,if_pos hu]
   simp only
   rw [QkX n hn,Qaa]
   obtain ⟨z,hz1,hz2⟩:=QGi f hf n hn (vis f d) d (Qls f d) (fun s a hw h0 h1 hc hn hv=>Qfi f hf d s a hw h0 h1 hc hn hv) (kb n) [] ⟨s.nodes++[a],s.sc,s.re,s.bo,s.va⟩ rfl ⟨hw.re,hw.bo,hw.sc⟩ (by simp only; omega) (by simp; omega) hv
   rw [show Qb3 (s.nodes++[a]) s.sc s.re s.bo s.va f true n (kids n) ((kids n).length:Int) (0:Int)=some z from hz1,Qaa]
   cases hvl:visL f (vis f d) (kb n) ⟨s.nodes++[a],s.sc,s.re,s.bo,s.va⟩ with
   | none=>
    rw [hvl] at hz2
    obtain ⟨⟨t1,t2,t3,t4,t5,t6⟩,rfl,ht⟩:=hz2
    exact ⟨_,rfl,ht⟩
   | some s'=>
    rw [hvl] at hz2
    simp only at hz2
    subst hz2
    exact ⟨_,rfl,rfl⟩
  ·rw [if_neg hu,if_neg hu]
   exact ⟨_,rfl,rfl⟩
end Go.Proofs.YtkecfadnfnnfaaaGreatDoor.LabB.V
namespace Go.Proofs.YtkecfadnfnnfaaaGreatDoor.LabB.V
open Go Go.Ev Go.Sy Go.Proofs.YtkecfadnfnnfaaaGreatDoor.LabB
def ini (p v:Nat):List Bool:=List.replicate p true++List.replicate (v - p) false
theorem Qdz {p v:Nat}(h:p≤v):(ini p v).length=v:=by simp [ini]; omega
theorem QoW {p v i:Nat}(h:p≤v)(hi:i<v):(ini p v)[i]?=some (decide (i<p)):=by
 unfold ini
 by_cases hp:i<p
 ·rw [List.getElem?_append_left (by simp; exact hp),List.getElem?_replicate,if_pos hp,decide_eq_true hp]
 ·rw [List.getElem?_append_right (by simp; omega),List.length_replicate,List.getElem?_replicate,if_pos (by omega),decide_eq_false hp]
theorem QE2 {p v:Nat}(h:p<v):(ini p v).set p true=ini (p+1) v:=by
 apply List.ext_getElem?
 intro i
 rw [List.getElem?_set]
 by_cases hi:i<v
 ·by_cases hp:p=i
  ·subst hp
   rw [if_pos rfl,if_pos (by rw [Qdz (by omega)]; exact h),QoW (by omega) hi,decide_eq_true (by omega)]
  ·rw [if_neg hp,QoW (by omega) hi,QoW (by omega) hi]
   congr 1
   rw [Bool.eq_iff_iff]
   simp only [decide_eq_true_eq]
   omega
 ·have h1:(ini p v)[i]?=none:=List.getElem?_eq_none (by rw [Qdz (by omega)]; omega)
  have h2:(ini (p+1) v)[i]?=none:=List.getElem?_eq_none (by rw [Qdz (by omega)]; omega)
  rw [h1,h2]
  split
  ·rename_i hp
   rw [if_neg (by rw [Qdz (by omega)]; omega)]
  ·rfl
theorem QsL (n:Nat):cf (List.replicate n false)=n:=by
 induction n with
 | zero=>rfl
 | succ n ih=>show cf (List.replicate n false)+1=_; rw [ih]
theorem ini0 (v:Nat):List.replicate v false=ini 0 v:=by simp [ini]
theorem QE3 (f:GFun)(a b:List Int)(re:List Bool)(p v:Nat)(hp:p≤v)(hv:v≤1000):∀ (k i:Nat),i+k=p→QbU a b re (ini i v) (ini i v) f (p:Int) (i:Int)=some (ini p v,ini p v):=by
 intro k
 induction k with
 | zero=>
  intro i h
  rw [Qhc,Qac (by omega)]
  rw [show i=p by omega]
 | succ k ih=>
  intro i h
  rw [Qhc,Qab (by omega),QjC,QoW (by omega) (by omega),Qaa,Qaa,Int.toNat_natCast,QE2 (by omega),Sy.QcZ (by omega)]
  exact ih (i+1) (by omega)
def Qfq (f:GFun):Option (List Int×List Int):=
 if fPar f<0∨((Qad f).length:Int)<fPar f then none
 else if fExt f=true then some ([],[])
 else match mark (Qaj f).length (List.replicate (Qaj f).length false) (QaM f) with
  | none=>none
  | some re=>match vis f ((Qaj f).length+1) ⟨[],ini (fPar f).toNat (Qad f).length,re,ini (fPar f).toNat (Qad f).length,[]⟩ (QaM f) with
   | none=>none
   | some s=>some (s.nodes,s.va)
theorem Qrn (f:GFun)(hf:Small f):∃ a b k,Qgl f=some (a,b,k)∧(match Qfq f with |some p=>(a,b)=p∧k=true |none=>k=false):=by
 have hc:=hf.code
 have hv:=hf.vars
 have hc':f.2.2.2.2.1.length≤80:=hc
 have hv':f.2.2.2.1.length≤120:=hv
 rw [Qo8]
 simp only [Qar,Qaa,cond_true,cond_false,QdF]
 unfold Qfq
 by_cases h0:fPar f<0
 ·rw [Qab h0,if_pos (.inl h0)]
  exact ⟨_,_,_,rfl,rfl⟩
 ·rw [Qac h0]
  by_cases h1:((Qad f).length:Int)<fPar f
  ·rw [Qab h1,if_pos (.inr h1)]
   exact ⟨_,_,_,rfl,rfl⟩
  ·rw [Qac h1,if_neg (by omega)]
   cases he:fExt f with
   | true=>
    rw [if_pos rfl,Qc3 he]
    exact ⟨_,_,_,rfl,rfl,rfl⟩
   | false=>
    rw [if_neg (by simp),Qcp he,Qac (by omega),Qab (by omega),Qac (by omega),Qab (by omega)]
    simp only [Int.toNat_natCast]
    have hp:((fPar f).toNat:Int)=fPar f:=Int.toNat_of_nonneg (by omega)
    have hl:QbU ([]:List Int) ([]:List Int) (List.replicate (Qaj f).length false) (List.replicate (Qad f).length false) (List.replicate (Qad f).length false) f (fPar f) (0:Int)=some (ini (fPar f).toNat (Qad f).length,ini (fPar f).toNat (Qad f).length):=by
     have:=QE3 f ([]:List Int) ([]:List Int) (List.replicate (Qaj f).length false) (fPar f).toNat (Qad f).length (by omega) (by omega) (fPar f).toNat 0 (by omega)
     rw [hp,← ini0] at this
     exact this
    rw [show QbU ([]:List Int) ([]:List Int) (List.replicate f.2.2.2.2.1.length false) (List.replicate f.2.2.2.1.length false) (List.replicate f.2.2.2.1.length false) f f.2.1 (0:Int)=_ from hl,Qaa]
    simp only
    obtain ⟨re',b,hr1,hr2⟩:=Qk7 f (List.replicate (Qaj f).length false) (by simp) (QaM f)
    rw [show Qdi (List.replicate f.2.2.2.2.1.length false) f f.2.2.2.2.2.1=_ from hr1,Qaa]
    simp only
    cases hm:mark (Qaj f).length (List.replicate (Qaj f).length false) (QaM f) with
    | none=>
     rw [hm] at hr2
     simp only at hr2
     rw [Qcp hr2]
     exact ⟨_,_,_,rfl,rfl⟩
    | some re=>
     rw [hm] at hr2
     obtain ⟨rfl,hb⟩:=hr2
     rw [Qc3 hb]
     obtain ⟨m0,m1,m2,m3⟩:=Qdm hm
     have hcs:=Qhh (List.replicate (Qaj f).length false) (QaM f).toNat m2
     rw [QsL] at hcs
     have hcf:=QBp (ini (fPar f).toNat (Qad f).length)
     rw [Qdz (by omega)] at hcf
     obtain ⟨r4,hd1,hd2⟩:=Qfi f hf ((Qaj f).length+1) ⟨[],ini (fPar f).toNat (Qad f).length,re',ini (fPar f).toNat (Qad f).length,[]⟩ (QaM f) ⟨by rw [m3]; simp,Qdz (by omega),Qdz (by omega)⟩ m0 m1
      (by simp only; rw [m3]; omega) (by simp only [List.length_nil]; rw [m3]; omega) (by simp only [List.length_nil]; omega)
     rw [show Qcj ([]:List Int) (ini (fPar f).toNat (Qad f).length) re' (ini (fPar f).toNat (Qad f).length) ([]:List Int) f true f.2.2.2.2.2.1=some r4 from hd1,Qaa]
     obtain ⟨a1,a2,a3,a4,a5,a6⟩:=r4
     simp only
     cases hvis:vis f ((Qaj f).length+1) ⟨[],ini (fPar f).toNat (Qad f).length,re',ini (fPar f).toNat (Qad f).length,[]⟩ (QaM f) with
     | none=>
      rw [hvis] at hd2
      exact ⟨_,_,_,rfl,hd2⟩
     | some s=>
      rw [hvis] at hd2
      simp only [Agr,Prod.mk.injEq] at hd2
      obtain ⟨rfl,rfl,rfl,rfl,rfl,rfl⟩:=hd2
      exact ⟨_,_,_,rfl,rfl,rfl⟩
def QBG (f:GFun)(x:Int):Prop:=0≤x∧x<((Qaj f).length:Int)∧∃ n,(Qaj f)[x.toNat]?=some n∧∀ p∈kb n,(0≤p.1∧p.1<((Qaj f).length:Int))∧∀ v∈p.2,0≤v∧v<((Qad f).length:Int)
structure Marks (f:GFun)(s s':S)(r u:List Int):Prop where
 nodes:s'.nodes=s.nodes++r
 va:s'.va=s.va++u
 rn:r.Nodup
 un:u.Nodup
 rok:∀ x∈r,QBG f x
 rnew:∀ x∈r,s'.re[x.toNat]?=some true
 unew:∀ v∈u,s.bo[v.toNat]?=some false∧s'.bo[v.toNat]?=some true∧0≤v∧v<((Qad f).length:Int)
 QwX:∀ i:Nat,s.re[i]?=some true→s'.re[i]?=some true
 Qro:∀ i:Nat,s.bo[i]?=some true→s'.bo[i]?=some true
theorem Qlt {l:List Bool}{k i:Nat}(h:l[i]?=some true):(l.set k true)[i]?=some true:=by
 rw [List.getElem?_set]
 have hi:i<l.length:=by
  rw [List.getElem?_eq_some_iff] at h
  exact h.1
 split
 ·rename_i hk
  rw [if_pos (by omega)]
 ·exact h
theorem QoX {l:List Bool}{k:Nat}(h:l[k]?=some false):(l.set k true)[k]?=some true:=by
 have hi:k<l.length:=by
  rw [List.getElem?_eq_some_iff] at h
  exact h.1
 rw [List.getElem?_set,if_pos rfl,if_pos hi]
theorem toNat_ne {x y:Int}(hx:0≤x)(hy:0≤y)(h:x≠y):x.toNat≠y.toNat:=by omega
theorem Qjx {c:Nat}:∀ {l:List Int} {bo sc bo' sc':List Bool} {va va':List Int},QfY c l (bo,sc,va)=some (bo',sc',va')→l.Nodup∧(∀ v∈l,bo[v.toNat]?=some false∧bo'[v.toNat]?=some true)∧∀ i:Nat,bo[i]?=some true→bo'[i]?=some true
 | [],bo,sc,bo',sc',va,va',h=>by
  simp only [QfY,Option.some.injEq,Prod.mk.injEq] at h
  obtain ⟨rfl,rfl,rfl⟩:=h
  exact ⟨List.nodup_nil,fun v hv=>by simp at hv,fun i h=>h⟩
 | v::l,bo,sc,bo',sc',va,va',h=>by
  simp only [QfY] at h
  cases hm:mark c bo v with
  | none=>rw [hm] at h; cases h
  | some b=>
   rw [hm] at h
   obtain ⟨h0,h1,h2,rfl⟩:=Qdm hm
   obtain ⟨k1,k2,k3⟩:=Qjx h
   obtain ⟨_,_,_,_,k5⟩:=Qem h
   have hne:∀ w∈l,w≠v:=fun w hw he=>by
    subst he
    have:=(k2 w hw).1
    rw [QoX h2] at this
    simp at this
   refine ⟨List.nodup_cons.mpr ⟨fun hv=>hne v hv rfl,k1⟩,fun w hw=>?_,fun i hi=>k3 i (Qlt hi)⟩
   simp only [List.mem_cons] at hw
   rcases hw with rfl |hw
   ·exact ⟨h2,k3 _ (QoX h2)⟩
   ·have:=(k2 w hw).1
    rw [List.getElem?_set,if_neg (toNat_ne h0 (k5 w hw).1 (fun h=>hne w hw h.symm))] at this
    exact ⟨this,(k2 w hw).2⟩
theorem QsM (f:GFun)(g:S→Int→Option S)(hgk:∀ s a s',Wf f s→g s a=some s'→Kept f s s' 1)
  (hg:∀ s a s',Wf f s→0≤a→s.re[a.toNat]?=some true→g s a=some s'→∃ (r u:List Int),Marks f s s' r u∧a∈r∧∀ x∈r,x=a∨s.re[x.toNat]?=some false):
  ∀ (q:List (Int×List Int)) (s s':S),Wf f s→visL f g q s=some s'→∃ (r u:List Int),Marks f s s' r u∧(∀ x∈r,s.re[x.toNat]?=some false)∧∀ p∈q,(0≤p.1∧p.1<((Qaj f).length:Int))∧∀ v∈p.2,0≤v∧v<((Qad f).length:Int)
 | [],s,s',hw,h=>by
  simp only [visL,Option.some.injEq] at h
  subst h
  exact ⟨[],[],⟨by simp,by simp,List.nodup_nil,List.nodup_nil,fun x h=>by simp at h,fun x h=>by simp at h,fun x h=>by simp at h,fun i h=>h,fun i h=>h⟩,fun x h=>by simp at h,fun x h=>by simp at h⟩
 | (k,l)::q,s,s',hw,h=>by
  simp only [visL] at h
  cases hm:mark (Qaj f).length s.re k with
  | none=>rw [hm] at h; cases h
  | some re=>
   rw [hm] at h
   simp only at h
   cases hb:QfY (Qad f).length l (s.bo,s.sc,s.va) with
   | none=>rw [hb] at h; cases h
   | some t=>
    obtain ⟨bo,sc,va⟩:=t
    rw [hb] at h
    simp only at h
    cases hv:g ⟨s.nodes,sc,re,bo,va⟩ k with
    | none=>rw [hv] at h; cases h
    | some s2=>
     rw [hv] at h
     simp only at h
     obtain ⟨h0,h1,h2,rfl⟩:=Qdm hm
     obtain ⟨k1,k2,k3,k4,k5⟩:=Qem hb
     obtain ⟨b1,b2,b3⟩:=Qjx hb
     have w1:Wf f ⟨s.nodes,sc,s.re.set k.toNat true,bo,va⟩:=⟨by simp [hw.re],by rw [k1,hw.bo],by rw [k2,hw.sc]⟩
     have kq:=hgk _ _ _ w1 hv
     have w2:Wf f ⟨s2.nodes,QfZ l s2.sc,s2.re,s2.bo,s2.va⟩:=⟨kq.wf.re,kq.wf.bo,by rw [Qgu]; exact kq.wf.sc⟩
     obtain ⟨r1,u1,M1,a1,x1⟩:=hg _ _ _ w1 h0 (QoX h2) hv
     obtain ⟨r2,u2,M2,x2,q2⟩:=QsM f g hgk hg q _ _ w2 h
     have n1:=M1.nodes
     have v1:=M1.va
     have n2:=M2.nodes
     have v2:=M2.va
     simp only at n1 v1 n2 v2
     have old:∀ x∈r1,s.re[x.toNat]?=some false:=fun x hx=>by
      rcases x1 x hx with rfl |hh
      ·exact h2
      ·simp only at hh
       have hx0:=(M1.rok x hx).1
       by_cases hxk:x=k
       ·rw [hxk]; exact h2
       ·rw [List.getElem?_set,if_neg (toNat_ne h0 hx0 (fun h=>hxk h.symm))] at hh
        exact hh
     have old2:∀ x∈r2,s.re[x.toNat]?=some false:=fun x hx=>by
      have h3:s2.re[x.toNat]?=some false:=x2 x hx
      have hx0:=(M2.rok x hx).1
      have hx1:=(M2.rok x hx).2.1
      have hlt:x.toNat<s.re.length:=by rw [hw.re]; omega
      cases hh:s.re[x.toNat]? with
      | none=>rw [List.getElem?_eq_none_iff] at hh; omega
      | some b=>
       cases b with
       | false=>rfl
       | true=>
        have:=M1.QwX x.toNat (Qlt hh)
        rw [h3] at this
        simp at this
     have uold:∀ v∈u1,s.bo[v.toNat]?=some false:=fun v hv=>by
      have h3:=(M1.unew v hv).1
      simp only at h3
      have hr:=(M1.unew v hv).2.2
      have hlt:v.toNat<s.bo.length:=by rw [hw.bo]; omega
      cases hh:s.bo[v.toNat]? with
      | none=>rw [List.getElem?_eq_none_iff] at hh; omega
      | some b=>
       cases b with
       | false=>rfl
       | true=>
        have:=b3 _ hh
        rw [h3] at this
        simp at this
     have uold2:∀ v∈u2,s2.bo[v.toNat]?=some false:=fun v hv=>(M2.unew v hv).1
     have uold3:∀ v∈u2,s.bo[v.toNat]?=some false:=fun v hv=>by
      have h3:=uold2 v hv
      have hr:=(M2.unew v hv).2.2
      have hlt:v.toNat<s.bo.length:=by rw [hw.bo]; omega
      cases hh:s.bo[v.toNat]? with
      | none=>rw [List.getElem?_eq_none_iff] at hh; omega
      | some b=>
       cases b with
       | false=>rfl
       | true=>
        have:=M1.Qro _ (b3 _ hh)
        rw [h3] at this
        simp at this
     refine ⟨r1++r2,l++(u1++u2),⟨by rw [n2,n1,List.append_assoc],by rw [v2,v1,k3]; simp,?_,?_,?_,?_,?_,fun i hi=>M2.QwX i (M1.QwX i (Qlt hi)),fun i hi=>M2.Qro i (M1.Qro i (b3 i hi))⟩,?_,?_⟩
     ·refine List.nodup_append.mpr ⟨M1.rn,M2.rn,fun x hx y hy hxy=>?_⟩
      subst hxy
      have h3:=x2 x hy
      simp only at h3
      rw [M1.rnew x hx] at h3
      simp at h3
     ·refine List.nodup_append.mpr ⟨b1,List.nodup_append.mpr ⟨M1.un,M2.un,fun x hx y hy hxy=>?_⟩,fun x hx y hy hxy=>?_⟩
      ·subst hxy
       have h3:=uold2 x hy
       rw [(M1.unew x hx).2.1] at h3
       simp at h3
      ·subst hxy
       simp only [List.mem_append] at hy
       rcases hy with hy |hy
       ·have h3:=(M1.unew x hy).1
        simp only at h3
        rw [(b2 x hx).2] at h3
        simp at h3
       ·have h3:=uold2 x hy
        rw [M1.Qro _ (b2 x hx).2] at h3
        simp at h3
     ·intro x hx
      simp only [List.mem_append] at hx
      rcases hx with hx |hx
      ·exact M1.rok x hx
      ·exact M2.rok x hx
     ·intro x hx
      simp only [List.mem_append] at hx
      rcases hx with hx |hx
      ·exact M2.QwX _ (M1.rnew x hx)
      ·exact M2.rnew x hx
     ·intro v hv
      simp only [List.mem_append] at hv
      rcases hv with hv |hv |hv
      ·exact ⟨(b2 v hv).1,M2.Qro _ (M1.Qro _ (b2 v hv).2),k5 v hv⟩
      ·exact ⟨uold v hv,M2.Qro _ (M1.unew v hv).2.1,(M1.unew v hv).2.2⟩
      ·exact ⟨uold3 v hv,(M2.unew v hv).2⟩
     ·intro x hx
      simp only [List.mem_append] at hx
      rcases hx with hx |hx
      ·exact old x hx
      ·exact old2 x hx
     ·intro p hp
      simp only [List.mem_cons] at hp
      rcases hp with rfl |hp
      ·exact ⟨⟨h0,h1⟩,k5⟩
      ·exact q2 p hp
theorem Qrp (f:GFun):∀ (d:Nat) (s:S) (a:Int) (s':S),Wf f s→0≤a→s.re[a.toNat]?=some true→vis f d s a=some s'→∃ (r u:List Int),Marks f s s' r u∧a∈r∧∀ x∈r,x=a∨s.re[x.toNat]?=some false
 | 0,s,a,s',hw,h0,hr,h=>by simp [vis] at h
 | d+1,s,a,s',hw,h0,hr,h=>by
  simp only [vis] at h
  cases hn:(Qaj f)[a.toNat]? with
  | none=>rw [hn] at h; cases h
  | some n=>
   rw [hn] at h
   simp only at h
   split at h
   ·obtain ⟨r,u,M,hold,hq⟩:=QsM f (vis f d) (Qls f d) (Qrp f d) (kb n) ⟨s.nodes++[a],s.sc,s.re,s.bo,s.va⟩ s' ⟨hw.re,hw.bo,hw.sc⟩ h
    have hne:a ∉ r:=fun ha=>by
     have:=hold a ha
     simp only at this
     rw [hr] at this
     simp at this
    have hlt:a.toNat<(Qaj f).length:=by
     rw [List.getElem?_eq_some_iff] at hn
     exact hn.1
    refine ⟨a::r,u,⟨by rw [M.nodes]; simp,M.va,List.nodup_cons.mpr ⟨hne,M.rn⟩,M.un,?_,?_,M.unew,M.QwX,M.Qro⟩,by simp,?_⟩
    ·intro x hx
     simp only [List.mem_cons] at hx
     rcases hx with rfl |hx
     ·exact ⟨h0,by omega,n,hn,hq⟩
     ·exact M.rok x hx
    ·intro x hx
     simp only [List.mem_cons] at hx
     rcases hx with rfl |hx
     ·exact M.QwX _ hr
     ·exact M.rnew x hx
    ·intro x hx
     simp only [List.mem_cons] at hx
     rcases hx with rfl |hx
     ·exact .inl rfl
     ·exact .inr (hold x hx)
   ·cases h
structure Sh (f:GFun)(N V:List Int):Prop where
 par0:0≤fPar f
 par1:fPar f≤((Qad f).length:Int)
 nn:N.Nodup
 ng:∀ x∈N,QBG f x
 vn:V.Nodup
 vg:∀ v∈V,fPar f≤v∧v<((Qad f).length:Int)
 nl:N.length≤(Qaj f).length
 vl:(fPar f).toNat+V.length≤(Qad f).length
theorem QBH (p v:Nat):cf (ini p v)=v - p:=by
 unfold ini
 induction p with
 | zero=>simp [QsL]
 | succ p ih=>
  have:∀ k:Nat,cf (List.replicate k true++List.replicate (v - (p+1)) false)=v - (p+1):=fun k=>by
   induction k with
   | zero=>simp [QsL]
   | succ k ih=>exact ih
  exact this (p+1)
theorem QeB {f:GFun}{N V:List Int}(h:Qfq f=some (N,V)):Sh f N V:=by
 unfold Qfq at h
 split at h
 ·cases h
 ·rename_i hp
  split at h
  ·simp only [Option.some.injEq,Prod.mk.injEq] at h
   obtain ⟨rfl,rfl⟩:=h
   exact ⟨by omega,by omega,List.nodup_nil,fun x h=>by simp at h,List.nodup_nil,fun x h=>by simp at h,by simp,by simp; omega⟩
  ·split at h
   ·cases h
   ·rename_i re hm
    split at h
    ·cases h
    ·rename_i s hv
     simp only [Option.some.injEq,Prod.mk.injEq] at h
     obtain ⟨rfl,rfl⟩:=h
     obtain ⟨m0,m1,m2,rfl⟩:=Qdm hm
     obtain ⟨r,u,M,_,_⟩:=Qrp f _ _ _ _ ⟨by simp,Qdz (by omega),Qdz (by omega)⟩ m0 (QoX m2) hv
     have K:=Qls f _ _ _ _ ⟨by simp,Qdz (by omega),Qdz (by omega)⟩ hv
     have hcs:=Qhh (List.replicate (Qaj f).length false) (QaM f).toNat m2
     rw [QsL] at hcs
     have hcf:cf (ini (fPar f).toNat (Qad f).length)=(Qad f).length - (fPar f).toNat:=QBH _ _
     have K1:=K.nodes
     have K2:=K.vars
     simp only [List.length_nil] at K1 K2
     have h1:=M.nodes
     have h2:=M.va
     simp only [List.nil_append] at h1 h2
     refine ⟨by omega,by omega,by rw [h1]; exact M.rn,by rw [h1]; exact M.rok,by rw [h2]; exact M.un,fun v hv=>?_,?_,?_⟩
     ·rw [h2] at hv
      obtain ⟨a,b,c0,c1⟩:=M.unew v hv
      simp only at a
      rw [QoW (by omega) (by omega)] at a
      simp only [Option.some.injEq,decide_eq_false_iff_not] at a
      exact ⟨by omega,c1⟩
     ·omega
     ·omega
def Qdn (b:Int):List Int→Nat→List Int→List Int
 | [],_,t=>t
 | x::r,i,t=>Qdn b r (i+1) (t.set x.toNat (b+(i:Int)))
theorem QiU (b:Int):∀ (l:List Int) (i:Nat) (t:List Int),(Qdn b l i t).length=t.length
 | [],i,t=>rfl
 | x::r,i,t=>by rw [Qdn,QiU b r,List.length_set]
theorem Qgv (b:Int):∀ (l:List Int) (i:Nat) (t:List Int) (k:Nat),(∀ x∈l,x.toNat≠k)→(Qdn b l i t)[k]?=t[k]?
 | [],i,t,k,h=>rfl
 | x::r,i,t,k,h=>by
  rw [Qdn,Qgv b r _ _ k fun y hy=>h y (by simp [hy]),List.getElem?_set,if_neg (h x (by simp))]
theorem Qk2 (b:Int):∀ (l:List Int) (i:Nat) (t:List Int),l.Nodup→(∀ x∈l,0≤x∧x<(t.length:Int))→∀ (j:Nat) (x:Int),l[j]?=some x→(Qdn b l i t)[x.toNat]?=some (b+((i+j:Nat):Int))
 | [],i,t,hn,hr,j,x,h=>by simp at h
 | y::r,i,t,hn,hr,j,x,h=>by
  obtain ⟨hy,hn'⟩:=List.nodup_cons.mp hn
  rw [Qdn]
  cases j with
  | zero=>
   simp only [List.getElem?_cons_zero,Option.some.injEq] at h
   subst h
   obtain ⟨h0,h1⟩:=hr y (by simp)
   rw [Qgv b r _ _ _ fun z hz hzy=>by
    have:z=y:=by have:=(hr z (by simp [hz])).1; omega
    exact hy (this▸hz)]
   rw [List.getElem?_set,if_pos rfl,if_pos (by omega)]
   simp
  | succ j=>
   simp only [List.getElem?_cons_succ] at h
   rw [Qk2 b r (i+1) _ hn' (fun z hz=>by rw [List.length_set]; exact hr z (by simp [hz])) j x h]
   congr 2
   omega
theorem QGj (f:GFun)(v1 v3 N:List Int)(c:Nat)(hl:N.length≤1000)(hr:∀ x∈N,0≤x∧x<(c:Int)):∀ (r pre t:List Int),N=pre++r→t.length=c→
  QdP t v1 f v3 N (N.length:Int) (pre.length:Int)=some (Qdn 0 r pre.length t):=by
 intro r
 induction r with
 | nil=>
  intro pre t h ht
  rw [QiM]
  subst h
  rw [Qcp (QdD pre)]
  rfl
 | cons x r ih=>
  intro pre t h ht
  rw [QiM]
  subst h
  obtain ⟨h0,h1⟩:=hr x (by simp)
  obtain ⟨w,hw,_⟩:=Qc2 (l:=t) (i:=x) h0 (by omega)
  rw [Qc3 (QmX pre x r),QkC,Qaa,hw,Qaa,QlH (pre:=pre) (x:=x) (r:=r) (by omega),ih (pre++[x]) _ (Qh3 ..) (by simp [ht])]
  simp [Qdn]
theorem QGk (f:GFun)(v0 V:List Int)(c:Nat)(hp0:0≤fPar f)(hp:fPar f≤1000)(hl:V.length≤1000)(hr:∀ x∈V,0≤x∧x<(c:Int)):∀ (r pre t:List Int),V=pre++r→t.length=c→
  QdQ v0 t f V (V.length:Int) (pre.length:Int)=some (Qdn (fPar f) r pre.length t):=by
 intro r
 induction r with
 | nil=>
  intro pre t h ht
  rw [QiN]
  subst h
  rw [Qcp (QdD pre)]
  rfl
 | cons x r ih=>
  intro pre t h ht
  rw [QiN]
  subst h
  obtain ⟨h0,h1⟩:=hr x (by simp)
  obtain ⟨w,hw,_⟩:=Qc2 (l:=t) (i:=x) h0 (by omega)
  have hpl:(pre++x::r).length=pre.length+(r.length+1):=by simp
  have e1:Ev.wr .i64 (f.2.1+(pre.length:Int))=fPar f+(pre.length:Int):=Qpt (show (-9223372036854775808:Int)≤fPar f+(pre.length:Int) by omega) (show fPar f+(pre.length:Int)≤9223372036854775807 by omega)
  rw [Qc3 (QmX pre x r),QkC,Qaa,hw,Qaa,e1,QlH (pre:=pre) (x:=x) (r:=r) (by omega),ih (pre++[x]) _ (Qh3 ..) (by simp [ht])]
  simp [Qdn]
theorem QGl (f:GFun)(v1 v3 v4:List Int)(c:Nat)(hc:c≤1000):∀ (k i:Nat) (t:List Int),i+k=c→t.length=c→∃ t',QdN t v1 f v3 v4 (c:Int) (i:Int)=some t'∧t'.length=c:=by
 intro k
 induction k with
 | zero=>
  intro i t h ht
  rw [QiI,Qac (by omega)]
  exact ⟨t,rfl,ht⟩
 | succ k ih=>
  intro i t h ht
  obtain ⟨w,hw,_⟩:=Qc2 (l:=t) (i:=(i:Int)) (by omega) (by omega)
  rw [QiI,Qab (by omega),hw,Qaa,Sy.QcZ (by omega)]
  exact ih (i+1) _ (by omega) (by simp [ht])
theorem QGm (f:GFun)(v0 v3 v4:List Int)(c:Nat)(hc:c≤1000):∀ (k i:Nat) (t:List Int),i+k=c→t.length=c→(∀ j:Nat,j<i→(j:Int)<fPar f→t[j]?=some (j:Int))→
  ∃ t',QcE v0 t f v3 v4 (c:Int) (i:Int)=some t'∧t'.length=c∧∀ j:Nat,j<c→(j:Int)<fPar f→t'[j]?=some (j:Int):=by
 intro k
 induction k with
 | zero=>
  intro i t h ht hj
  rw [QiK,Qac (by omega)]
  exact ⟨t,rfl,ht,fun j hj' hp=>hj j (by omega) hp⟩
 | succ k ih=>
  intro i t h ht hj
  obtain ⟨w,hw,_⟩:=Qc2 (l:=t) (i:=(i:Int)) (by omega) (by omega)
  rw [QiK,Qab (by omega),hw,Qaa,Sy.QcZ (by omega),Int.toNat_natCast]
  by_cases hp:(i:Int)<fPar f
  ·rw [Qab hp]
   refine ih (i+1) _ (by omega) (by simp [ht]) fun j hj' hpj=>?_
   rw [List.getElem?_set]
   by_cases hij:i=j
   ·rw [if_pos hij,if_pos (by simp; omega),hij]
   ·rw [if_neg hij,List.getElem?_set,if_neg hij]
    exact hj j (by omega) hpj
  ·rw [Qac hp]
   refine ih (i+1) _ (by omega) (by simp [ht]) fun j hj' hpj=>?_
   rw [List.getElem?_set,if_neg (by omega)]
   exact hj j (by omega) hpj
structure Qnw (f:GFun)(N V tl nl:List Int):Prop where
 tlen:tl.length=(Qaj f).length
 nlen:nl.length=(Qad f).length
 to:∀ (j:Nat) (x:Int),N[j]?=some x→tl[x.toNat]?=some (j:Int)
 num:∀ (j:Nat) (v:Int),V[j]?=some v→nl[v.toNat]?=some (fPar f+(j:Int))
 par:∀ i:Nat,(i:Int)<fPar f→nl[i]?=some (i:Int)
theorem QBI (f:GFun)(hf:Small f){N V:List Int}(h:Qfq f=some (N,V)):∃ tl nl,Qjj f=some (tl,nl,0)∧Qnw f N V tl nl:=by
 have hc:=hf.code
 have hv:=hf.vars
 have hc':f.2.2.2.2.1.length≤80:=hc
 have hv':f.2.2.2.1.length≤120:=hv
 have sh:=QeB h
 obtain ⟨a,b,k,hs1,hs2⟩:=Qrn f hf
 rw [h] at hs2
 simp only [Prod.mk.injEq] at hs2
 obtain ⟨⟨rfl,rfl⟩,rfl⟩:=hs2
 have hp0:=sh.par0
 have hp1:=sh.par1
 have hNr:∀ x∈a,0≤x∧x<((Qaj f).length:Int):=fun x hx=>⟨(sh.ng x hx).1,(sh.ng x hx).2.1⟩
 have hVr:∀ x∈b,0≤x∧x<((Qad f).length:Int):=fun x hx=>⟨by have:=(sh.vg x hx).1; omega,(sh.vg x hx).2⟩
 have hN:=sh.nl
 have hV:=sh.vl
 rw [QrM,hs1,Qaa]
 simp only [cond_true]
 rw [Qac (by omega),Qab (by omega),Qac (by omega),Qab (by omega)]
 simp only [Int.toNat_natCast,List.length_replicate]
 obtain ⟨t0,ht0,hl0⟩:=QGl f (List.replicate (Qad f).length (0:Int)) a b (Qaj f).length (by omega) (Qaj f).length 0 (List.replicate (Qaj f).length (0:Int)) (by omega) (by simp)
 rw [show QdN (List.replicate f.2.2.2.2.1.length (0:Int)) (List.replicate f.2.2.2.1.length (0:Int)) f a b (f.2.2.2.2.1.length:Int) (0:Int)=some t0 from ht0,Qaa]
 obtain ⟨t1,ht1,hl1,hj1⟩:=QGm f t0 a b (Qad f).length (by omega) (Qad f).length 0 (List.replicate (Qad f).length (0:Int)) (by omega) (by simp) (fun j hj=>absurd hj (Nat.not_lt_zero j))
 rw [show QcE t0 (List.replicate f.2.2.2.1.length (0:Int)) f a b (f.2.2.2.1.length:Int) (0:Int)=some t1 from ht1,Qaa]
 rw [show QdP t0 t1 f b a (a.length:Int) (0:Int)=some (Qdn 0 a 0 t0) from QGj f t1 b a (Qaj f).length (by omega) hNr a [] t0 rfl hl0,Qaa]
 rw [show QdQ (Qdn 0 a 0 t0) t1 f b (b.length:Int) (0:Int)=some (Qdn (fPar f) b 0 t1) from QGk f (Qdn 0 a 0 t0) b (Qad f).length hp0 (by omega) (by omega) hVr b [] t1 rfl hl1,Qaa]
 refine ⟨_,_,rfl,⟨by rw [QiU,hl0],by rw [QiU,hl1],fun j x hx=>?_,fun j v hx=>?_,fun i hi=>?_⟩⟩
 ·rw [Qk2 0 a 0 t0 sh.nn (fun x hx=>by rw [hl0]; exact hNr x hx) j x hx]
  simp
 ·rw [Qk2 (fPar f) b 0 t1 sh.vn (fun x hx=>by rw [hl1]; exact hVr x hx) j v hx]
  simp
 ·rw [Qgv (fPar f) b 0 t1 i fun x hx hxi=>by
   have:=(sh.vg x hx).1
   omega]
  exact hj1 i (by omega) hi
end Go.Proofs.YtkecfadnfnnfaaaGreatDoor.LabB.V
namespace Go.Proofs.YtkecfadnfnnfaaaGreatDoor.LabB.V
open Go Go.Ev Go.Sy Go.Proofs.YtkecfadnfnnfaaaGreatDoor.LabB
def numOf (nl:List Int)(v:Int):Int:=if 0≤v∧v<(nl.length:Int) then nl.getD v.toNat 0 else v
def toOf (tl:List Int)(k:Int):Int:=tl.getD k.toNat 0
def trBr (tl nl:List Int)(b:Qas):Qas:=(b.1.map (numOf nl),toOf tl b.2)
def QbR (op:Int):Bool:=decide (op<0∨9<op∨op=1)
def tr (tl nl:List Int)(n:Qae):Qae:=
 (nOp n,(if nOp n≠9∧Qbp (nOp n)=true then numOf nl (nVar n) else nVar n,
  (if QbR (nOp n)=true then QaO n else (QaO n).map (numOf nl),(n.2.2.2.1,(n.2.2.2.2.1,(n.2.2.2.2.2.1,
   (if QbR (nOp n)=true then QbS n else (QbS n).map (numOf nl),(n.2.2.2.2.2.2.2.1,(if nOp n=9 then (nBr n).map (trBr tl nl) else nBr n,
    if nOp n≠9∧Qd4 (nOp n)=true then toOf tl (Qf2 n) else Qf2 n)))))))))
theorem Qx4 {nl:List Int}{v:Int}(h0:0≤v)(h1:v<(nl.length:Int)):Sy.at' nl v=some (numOf nl v):=by
 obtain ⟨x,hx,hx'⟩:=Qc2 h0 h1
 rw [hx,numOf,if_pos ⟨h0,h1⟩,List.getD_eq_getElem?_getD,hx']
 rfl
theorem QBJ {tl:List Int}{k:Int}(h0:0≤k)(h1:k<(tl.length:Int)):Sy.at' tl k=some (toOf tl k):=by
 obtain ⟨x,hx,hx'⟩:=Qc2 h0 h1
 rw [hx,toOf,List.getD_eq_getElem?_getD,hx']
 rfl
theorem QGn (nl l:List Int)(hl:l.length≤1000):∀ (r pre acc:List Int),l=pre++r→acc.length≤pre.length→Qb1 acc nl l (l.length:Int) (pre.length:Int)=some (acc++r.map (numOf nl)):=by
 intro r
 induction r with
 | nil=>
  intro pre acc h ha
  rw [QfR]
  subst h
  rw [Qcp (QdD pre)]
  simp
 | cons x r ih=>
  intro pre acc h ha
  rw [QfR]
  subst h
  have hp:(pre++x::r).length=pre.length+(r.length+1):=by simp
  rw [Qc3 (QmX pre x r),QkC,Qaa]
  have hj:(Option.bind (bif decide (x<0) then some false else some (decide (x<(nl.length:Int)))) fun v6=>bif v6 then Option.bind (Sy.at' nl x) fun v7=>some v7 else some x)=some (numOf nl x):=by
   simp only [Qar,Qaa,cond_true,cond_false]
   by_cases h0:x<0
   ·rw [Qab h0,numOf,if_neg (by omega)]
   ·rw [Qac h0]
    by_cases h1:x<(nl.length:Int)
    ·rw [Qab h1,Qx4 (by omega) h1]
     rfl
    ·rw [Qac h1,numOf,if_neg (by omega)]
  rw [hj,Qaa,Qab (by omega),QlH (pre:=pre) (x:=x) (r:=r) (by omega),ih (pre++[x]) (acc++[numOf nl x]) (Qh3 ..) (by simp; omega)]
  simp
theorem Qoo (nl l:List Int)(hl:l.length≤1000):QbB nl l=some (l.map (numOf nl)):=by
 rw [Qnf,show Qb1 ([]:List Int) nl l (l.length:Int) (0:Int)=some ([]++l.map (numOf nl)) from QGn nl l hl l [] [] rfl (by simp)]
 rfl
theorem QE4 (l:List Qas)(hl:l.length≤1000)(hb:∀ b∈l,b.1.length≤1000):∀ (r pre acc:List Qas),l=pre++r→acc.length≤pre.length→QcD acc l (l.length:Int) (pre.length:Int)=some (acc++r):=by
 intro r
 induction r with
 | nil=>
  intro pre acc h ha
  rw [Qhf]
  subst h
  rw [Qcp (QdD pre)]
  simp
 | cons x r ih=>
  intro pre acc h ha
  rw [Qhf]
  subst h
  have hp:(pre++x::r).length=pre.length+(r.length+1):=by simp
  have hx:=hb x (by simp)
  rw [Qc3 (QmX pre x r),QkC,Qaa,Qab (by omega),Qab (by omega),QlH (pre:=pre) (x:=x) (r:=r) (by omega),ih (pre++[x]) (acc++[x]) (Qh3 ..) (by simp; omega)]
  simp
theorem QwY (l:List Qas)(hl:l.length≤1000)(hb:∀ b∈l,b.1.length≤1000):Qjn l=some l:=by
 rw [Qpb,show QcD ([]:List Qas) l (l.length:Int) (0:Int)=some ([]++l) from QE4 l hl hb l [] [] rfl (by simp)]
 rfl
section
variable (v0:List GVar) (v1:List Qae) (v2:List GVar) (v3:List Qae) (v5:GFun) (v6:List UInt8) (v7 v8 v9:Int) (v10:Bool) (v11:List UInt8) (v12 v13 v14:Int) (v15:Bool) (v16 v17:Int) (v18:List Int) (v19 v20 v21:Int) (v22:List Int) (v23:Bool) (v24:Int)
 (v27:List Int) (v28 v29:Int)
theorem QE5 (tl nl:List Int)(l:List Qas)(hl:l.length≤1000)(hb:∀ b∈l,b.1.length≤1000)(ht:∀ b∈l,0≤b.2∧b.2<(tl.length:Int)):∀ (r pre acc:List Qas),l=pre++r→acc.length≤pre.length→
  QcC v0 v1 v2 v3 acc v5 v6 v7 v8 v9 v10 v11 v12 v13 v14 v15 v16 v17 v18 v19 v20 v21 v22 v23 v24 tl nl v27 v28 v29 l (l.length:Int) (pre.length:Int)=some (acc++r.map (trBr tl nl)):=by
 intro r
 induction r with
 | nil=>
  intro pre acc h ha
  rw [Qhe]
  subst h
  rw [Qcp (QdD pre)]
  simp
 | cons x r ih=>
  intro pre acc h ha
  rw [Qhe]
  subst h
  have hp:(pre++x::r).length=pre.length+(r.length+1):=by simp
  have hx:=hb x (by simp)
  obtain ⟨t0,t1⟩:=ht x (by simp)
  rw [Qc3 (QmX pre x r),QkC,Qaa,QBJ t0 t1,Qaa,Qoo nl x.1 hx,Qaa,Qab (by omega),QlH (pre:=pre) (x:=x) (r:=r) (by omega),ih (pre++[x]) (acc++[(x.1.map (numOf nl),toOf tl x.2)]) (Qh3 ..) (by simp; omega)]
  simp [trBr]
end
structure Qnx (tl nl:List Int)(n:Qae):Prop where
 small:QaL n
 var:nOp n≠9→Qbp (nOp n)=true→0≤nVar n∧nVar n<(nl.length:Int)
 next:nOp n≠9→Qd4 (nOp n)=true→0≤Qf2 n∧Qf2 n<(tl.length:Int)
 br:nOp n=9→∀ b∈nBr n,0≤b.2∧b.2<(tl.length:Int)
theorem Qvt {f:GFun}{N V tl nl:List Int}(hf:Small f)(hm:Qnw f N V tl nl){x:Int}(hx:QBG f x):∃ n,(Qaj f)[x.toNat]?=some n∧Qnx tl nl n:=by
 obtain ⟨h0,h1,n,hn,hk⟩:=hx
 refine ⟨n,hn,hf.nodes n (List.mem_of_getElem? hn),fun h9 hb=>?_,fun h9 hb=>?_,fun h9 b hb=>?_⟩
 ·rw [hm.nlen]
  have hnext:Qd4 (nOp n)=true:=by simp only [Qbp,Qd4,decide_eq_true_eq] at *; omega
  have hkb:kb n=[(Qf2 n,[nVar n])]:=by simp [kb,kids,binds,h9,hb,hnext]
  exact (hk (Qf2 n,[nVar n]) (by rw [hkb]; simp)).2 (nVar n) (by simp)
 ·rw [hm.tlen]
  have hkb:kb n=[(Qf2 n,binds n)]:=by simp [kb,kids,h9,hb]
  exact (hk (Qf2 n,binds n) (by rw [hkb]; simp)).1
 ·rw [hm.tlen]
  have hkb:kb n=(nBr n).map (fun b=>(b.2,b.1)):=by simp [kb,h9]
  exact (hk (b.2,b.1) (by rw [hkb]; exact List.mem_map.mpr ⟨b,hb,rfl⟩)).1
theorem j1 (nl:List Int)(m:Qae)(h:QaL m):(Option.bind (bif (decide (m.1<(0:Int))) then some false else some (!(decide ((9:Int)<m.1)))) fun v22=>
  Option.bind (bif v22 then some (!(decide (m.1=(1:Int)))) else some false) fun v23=>
  bif v23 then
   Option.bind (QbB nl m.2.2.1) fun v24=>
   Option.bind (QbB nl m.2.2.2.2.2.2.1) fun v25=>
   some (m.1,(m.2.1,(v24,(m.2.2.2.1,(m.2.2.2.2.1,(m.2.2.2.2.2.1,(v25,m.2.2.2.2.2.2.2)))))))
  else some m)=
  some (m.1,(m.2.1,(if QbR (nOp m)=true then QaO m else (QaO m).map (numOf nl),(m.2.2.2.1,(m.2.2.2.2.1,(m.2.2.2.2.2.1,(if QbR (nOp m)=true then QbS m else (QbS m).map (numOf nl),m.2.2.2.2.2.2.2))))))):=by
 have ha:=h.args
 have hm:=h.more
 simp only [Qar,Qaa,cond_true,cond_false,QdF]
 by_cases h0:m.1<0
 ·have hb:QbR (nOp m)=true:=by simp only [QbR,decide_eq_true_eq]; exact .inl h0
  rw [Qab h0,if_pos hb,if_pos hb]
 ·rw [Qac h0]
  by_cases h1:9<m.1
  ·have hb:QbR (nOp m)=true:=by simp only [QbR,decide_eq_true_eq]; exact .inr (.inl h1)
   rw [Qab h1,if_pos hb,if_pos hb]
  ·rw [Qac h1]
   by_cases h2:m.1=1
   ·have hb:QbR (nOp m)=true:=by simp only [QbR,decide_eq_true_eq]; exact .inr (.inr h2)
    rw [Qab h2,if_pos hb,if_pos hb]
   ·have hb:¬ QbR (nOp m)=true:=by simp only [QbR,decide_eq_true_eq]; exact fun h=>by rcases h with h |h |h<;>contradiction
    rw [Qac h2,Qoo nl m.2.2.1 (Nat.le_trans ha (by decide)),Qaa,Qoo nl m.2.2.2.2.2.2.1 (Nat.le_trans hm (by decide)),Qaa,if_neg hb,if_neg hb]
theorem j2 (nl:List Int)(m:Qae)(h:QaL m)(hv:nOp m≠9→Qbp (nOp m)=true→0≤nVar m∧nVar m<(nl.length:Int)):(Option.bind (bif (decide (m.1=(9:Int))) then some false else Option.bind (Qes m) fun v23=>some (decide ((0:Int)<(v23.length:Int)))) fun v23=>
  bif v23 then Option.bind (Sy.at' nl m.2.1) fun v24=>some (m.1,(v24,m.2.2)) else some m)=some (m.1,(if nOp m≠9∧Qbp (nOp m)=true then numOf nl (nVar m) else nVar m,m.2.2)):=by
 by_cases h9:m.1=9
 ·rw [Qab h9,Qaa,cond_false,if_neg (fun h=>h.1 h9)]
 ·rw [Qac h9,Qgt m h,Qaa,Qaa]
  cases hb:Qbp (nOp m) with
  | true=>
   obtain ⟨h0,h1⟩:=hv h9 hb
   have:binds m=[nVar m]:=by simp only [binds,if_neg (show ¬ nOp m=9 from h9),hb,if_true]
   rw [this,Qab (by simp),show Sy.at' nl m.2.1=_ from Qx4 h0 h1,Qaa,if_pos ⟨h9,rfl⟩]
  | false=>
   have:binds m=[]:=by simp [binds,show ¬ nOp m=9 from h9,hb]
   rw [this,Qac (by simp),if_neg (by simp)]
theorem j3 (tl:List Int)(m:Qae)(h:QaL m)(hv:nOp m≠9→Qd4 (nOp m)=true→0≤Qf2 m∧Qf2 m<(tl.length:Int)):(Option.bind (bif (decide (m.1=(9:Int))) then some false else Option.bind (QgZ m) fun v24=>some (decide ((0:Int)<(v24.length:Int)))) fun v24=>
  bif v24 then Option.bind (Sy.at' tl m.2.2.2.2.2.2.2.2.2) fun v25=>
    some (m.1,(m.2.1,(m.2.2.1,(m.2.2.2.1,(m.2.2.2.2.1,(m.2.2.2.2.2.1,(m.2.2.2.2.2.2.1,(m.2.2.2.2.2.2.2.1,(m.2.2.2.2.2.2.2.2.1,v25)))))))))
      else some m)=some (m.1,(m.2.1,(m.2.2.1,(m.2.2.2.1,(m.2.2.2.2.1,(m.2.2.2.2.2.1,(m.2.2.2.2.2.2.1,(m.2.2.2.2.2.2.2.1,(m.2.2.2.2.2.2.2.2.1,if nOp m≠9∧Qd4 (nOp m)=true then toOf tl (Qf2 m) else Qf2 m))))))))):=by
 by_cases h9:m.1=9
 ·rw [Qab h9,Qaa,cond_false,if_neg (fun h=>h.1 h9)]
 ·rw [Qac h9,QkX m h,Qaa,Qaa]
  cases hb:Qd4 (nOp m) with
  | true=>
   obtain ⟨h0,h1⟩:=hv h9 hb
   have:kids m=[Qf2 m]:=by simp only [kids,if_neg (show ¬ nOp m=9 from h9),hb,if_true]
   rw [this,Qab (by simp),show Sy.at' tl m.2.2.2.2.2.2.2.2.2=_ from QBJ h0 h1,Qaa,if_pos ⟨h9,rfl⟩]
  | false=>
   have:kids m=[]:=by simp [kids,show ¬ nOp m=9 from h9,hb]
   rw [this,Qac (by simp),if_neg (by simp)]
theorem j5 (m:Qae)(h1:(QaO m).length≤1000)(h2:(QbS m).length≤1000):∃ z:Unit⊕Unit,(Option.bind (bif (decide (m.1<(0:Int))) then some true else some (decide ((9:Int)<m.1))) fun v26=>
  Option.bind (bif v26 then some true else some (decide (m.1=(1:Int)))) fun v27=>
  bif v27 then
   bif (decide ((m.2.2.1.length * (8:Nat))≤(35184372088832:Nat))) then
    bif (decide ((m.2.2.2.2.2.2.1.length * (8:Nat))≤(35184372088832:Nat))) then some (.inl ()) else none
   else none
  else some (.inr ()))=some z:=by
 have a1:m.2.2.1.length * 8≤35184372088832:=by have:m.2.2.1.length≤1000:=h1; omega
 have a2:m.2.2.2.2.2.2.1.length * 8≤35184372088832:=by have:m.2.2.2.2.2.2.1.length≤1000:=h2; omega
 simp only [Qaf,Qaa]
 rw [Qab a1,Qab a2]
 cases (bif (bif decide (m.1<0) then true else decide (9<m.1)) then true else decide (m.1=1))<;>exact ⟨_,rfl⟩
theorem QsN {n m:Qae}(h:QaL n)(h1:(QaO m).length=(QaO n).length)(h2:(QbS m).length=(QbS n).length)(h3:nBr m=nBr n):QaL m:=
 ⟨by rw [h1]; exact h.args,by rw [h2]; exact h.more,by rw [h3]; exact h.br,by rw [h3]; exact h.bs⟩
section
variable (v0:List GVar) (v1:List Qae) (v2:List GVar) (f:GFun) (v5:List UInt8) (v6 v7 v8:Int) (v9:Bool) (v10:List UInt8) (v11 v12 v13:Int) (v14:Bool)
theorem QDo (tl nl N:List Int)(acc:List Qae)(len i:Int)(x:Int)(n:Qae)(hi:i<len)(hx:Sy.at' N i=some x)(hn:Sy.at' (Qaj f) x=some n)(hin:Qnx tl nl n)(ha:acc.length≤1000):
  QaP v0 v1 v2 acc f v5 v6 v7 v8 v9 v10 v11 v12 v13 v14 tl nl N len i=QaP v0 v1 v2 (acc++[tr tl nl n]) f v5 v6 v7 v8 v9 v10 v11 v12 v13 v14 tl nl N len (Ev.wr .i64 (i+1)):=by
 have hs:=hin.small
 have hbr:=hs.br
 rw [Qhd,Qab hi,hx,Qaa,show Sy.at' f.2.2.2.2.1 x=some n from hn,Qaa,j1 nl n hs,Qaa]
 have g1:∀ (b:Bool) (l:List Int),(if b=true then l else l.map (numOf nl)).length=l.length:=fun b l=>by split<;>simp
 have s1:QaL (n.1,(n.2.1,(if QbR (nOp n)=true then QaO n else (QaO n).map (numOf nl),(n.2.2.2.1,(n.2.2.2.2.1,(n.2.2.2.2.2.1,(if QbR (nOp n)=true then QbS n else (QbS n).map (numOf nl),n.2.2.2.2.2.2.2))))))):=
  QsN hs (g1 _ _) (g1 _ _) rfl
 rw [j2 nl _ s1 hin.var,Qaa]
 have s2:QaL (n.1,(if nOp n≠9∧Qbp (nOp n)=true then numOf nl (nVar n) else nVar n,(if QbR (nOp n)=true then QaO n else (QaO n).map (numOf nl),(n.2.2.2.1,(n.2.2.2.2.1,(n.2.2.2.2.2.1,(if QbR (nOp n)=true then QbS n else (QbS n).map (numOf nl),n.2.2.2.2.2.2.2))))))):=
  QsN hs (g1 _ _) (g1 _ _) rfl
 rw [j3 tl _ s2 hin.next,Qaa]
 simp only
 by_cases h9:n.1=9
 ·rw [Qab h9]
  rw [show QcC v0 v1 v2 acc ([]:List Qas) f v5 v6 v7 v8 v9 v10 v11 v12 v13 v14 n.1 _ _ n.2.2.2.1 n.2.2.2.2.1 n.2.2.2.2.2.1 _ n.2.2.2.2.2.2.2.1 _ tl nl N len i n.2.2.2.2.2.2.2.2.1 (n.2.2.2.2.2.2.2.2.1.length:Int) (0:Int)=some ([]++(nBr n).map (trBr tl nl)) from QE5 v0 v1 v2 acc f v5 v6 v7 v8 v9 v10 v11 v12 v13 v14 _ _ _ _ _ _ _ _ _ _ _ _ tl nl (nBr n) (by omega) (fun b hb=>Nat.le_trans (hs.bs b hb) (by decide)) (hin.br h9) (nBr n) [] [] rfl (by simp)]
  simp only [Qaa]
  obtain ⟨z,hz⟩:=j5 (n.1,(if nOp n≠9∧Qbp (nOp n)=true then numOf nl (nVar n) else nVar n,(if QbR (nOp n)=true then QaO n else (QaO n).map (numOf nl),(n.2.2.2.1,(n.2.2.2.2.1,(n.2.2.2.2.2.1,(if QbR (nOp n)=true then QbS n else (QbS n).map (numOf nl),(n.2.2.2.2.2.2.2.1,(n.2.2.2.2.2.2.2.2.1,if nOp n≠9∧Qd4 (nOp n)=true then toOf tl (Qf2 n) else Qf2 n))))))))) (by rw [show ((QaO _).length)=_ from g1 _ _]; exact Nat.le_trans hs.args (by decide)) (by rw [show ((QbS _).length)=_ from g1 _ _]; exact Nat.le_trans hs.more (by decide))
  simp only at hz
  rw [hz,Qaa]
  have e:tr tl nl n=(n.1,(if nOp n≠9∧Qbp (nOp n)=true then numOf nl (nVar n) else nVar n,(if QbR (nOp n)=true then QaO n else (QaO n).map (numOf nl),(n.2.2.2.1,(n.2.2.2.2.1,(n.2.2.2.2.2.1,(if QbR (nOp n)=true then QbS n else (QbS n).map (numOf nl),(n.2.2.2.2.2.2.2.1,([]++(nBr n).map (trBr tl nl),if nOp n≠9∧Qd4 (nOp n)=true then toOf tl (Qf2 n) else Qf2 n))))))))):=by
   unfold tr
   rw [if_pos (show nOp n=9 from h9)]
   rfl
  rw [e]
  cases z with
  | inl _=>simp only; rw [Qab (by omega)]
  | inr _=>simp only; rw [Qab (by omega)]
 ·rw [Qac h9,QwY n.2.2.2.2.2.2.2.2.1 (Nat.le_trans hbr (by decide)) (fun b hb=>Nat.le_trans (hs.bs b hb) (by decide)),Qaa,Qaa]
  simp only
  obtain ⟨z,hz⟩:=j5 (n.1,(if nOp n≠9∧Qbp (nOp n)=true then numOf nl (nVar n) else nVar n,(if QbR (nOp n)=true then QaO n else (QaO n).map (numOf nl),(n.2.2.2.1,(n.2.2.2.2.1,(n.2.2.2.2.2.1,(if QbR (nOp n)=true then QbS n else (QbS n).map (numOf nl),(n.2.2.2.2.2.2.2.1,(n.2.2.2.2.2.2.2.2.1,if nOp n≠9∧Qd4 (nOp n)=true then toOf tl (Qf2 n) else Qf2 n))))))))) (by rw [show ((QaO _).length)=_ from g1 _ _]; exact Nat.le_trans hs.args (by decide)) (by rw [show ((QbS _).length)=_ from g1 _ _]; exact Nat.le_trans hs.more (by decide))
  simp only at hz
  rw [hz,Qaa]
  have e:tr tl nl n=(n.1,(if nOp n≠9∧Qbp (nOp n)=true then numOf nl (nVar n) else nVar n,(if QbR (nOp n)=true then QaO n else (QaO n).map (numOf nl),(n.2.2.2.1,(n.2.2.2.2.1,(n.2.2.2.2.2.1,(if QbR (nOp n)=true then QbS n else (QbS n).map (numOf nl),(n.2.2.2.2.2.2.2.1,(n.2.2.2.2.2.2.2.2.1,if nOp n≠9∧Qd4 (nOp n)=true then toOf tl (Qf2 n) else Qf2 n))))))))):=by
   unfold tr
   rw [if_neg (show ¬ nOp n=9 from h9)]
  rw [e]
  cases z with
  | inl _=>simp only; rw [Qab (by omega)]
  | inr _=>simp only; rw [Qab (by omega)]
end
def QrS (vs:List GVar)(is:List Int):List GVar:=is.map fun v=>(vs[v.toNat]?).getD (0,false)
def Qdo (f:GFun)(x:Int):Qae:=((Qaj f)[x.toNat]?).getD default
def nf (f:GFun)(N V tl nl:List Int):GFun:=(f.1,(fPar f,(f.2.2.1,((Qad f).take (fPar f).toNat++QrS (Qad f) V,(N.map fun x=>tr tl nl (Qdo f x),((0:Int),fExt f))))))
section
variable (v0:List GVar) (v1:List Qae) (v3:List Qae) (f:GFun) (v5:List UInt8) (v6 v7 v8:Int) (v9:Bool) (v10:List UInt8) (v11 v12 v13:Int) (v14:Bool) (v15:List Int)
theorem QG0 (V:List Int)(hl:V.length≤1000)(hr:∀ v∈V,0≤v∧v<((Qad f).length:Int)):∀ (r pre:List Int) (acc:List GVar),V=pre++r→acc.length≤1000+pre.length→
  QcA v0 v1 acc v3 f v5 v6 v7 v8 v9 v10 v11 v12 v13 v14 v15 V (V.length:Int) (pre.length:Int)=some (acc++QrS (Qad f) r):=by
 intro r
 induction r with
 | nil=>
  intro pre acc h ha
  rw [Qhb]
  subst h
  rw [Qcp (QdD pre)]
  simp [QrS]
 | cons x r ih=>
  intro pre acc h ha
  rw [Qhb]
  subst h
  have hp:(pre++x::r).length=pre.length+(r.length+1):=by simp
  obtain ⟨h0,h1⟩:=hr x (by simp)
  obtain ⟨w,hw,hw'⟩:=Qc2 (l:=Qad f) (i:=x) h0 h1
  rw [Qc3 (QmX pre x r),QkC,Qaa,show Sy.at' f.2.2.2.1 x=some w from hw,Qaa,Qab (by omega),QlH (pre:=pre) (x:=x) (r:=r) (by omega),ih (pre++[x]) (acc++[w]) (Qh3 ..) (by simp; omega)]
  simp [QrS,hw']
theorem QG1 (v2:List GVar)(tl nl N:List Int)(hl:N.length≤1000)(hr:∀ x∈N,(0≤x∧x<((Qaj f).length:Int))∧Qnx tl nl (Qdo f x)):∀ (r pre:List Int) (acc:List Qae),N=pre++r→acc.length≤pre.length→
  QaP v0 v1 v2 acc f v5 v6 v7 v8 v9 v10 v11 v12 v13 v14 tl nl N (N.length:Int) (pre.length:Int)=some (acc++r.map fun x=>tr tl nl (Qdo f x)):=by
 intro r
 induction r with
 | nil=>
  intro pre acc h ha
  rw [Qhd]
  subst h
  rw [Qcp (QdD pre)]
  simp
 | cons x r ih=>
  intro pre acc h ha
  subst h
  have hp:(pre++x::r).length=pre.length+(r.length+1):=by simp
  obtain ⟨⟨h0,h1⟩,hin⟩:=hr x (by simp)
  obtain ⟨w,hw,hw'⟩:=Qc2 (l:=Qaj f) (i:=x) h0 h1
  have hwc:Qdo f x=w:=by unfold Qdo; rw [hw']; rfl
  rw [QDo v0 v1 v2 f v5 v6 v7 v8 v9 v10 v11 v12 v13 v14 tl nl (pre++x::r) acc _ (pre.length:Int) x w (by rw [hp]; omega) (QkC pre x r) hw (hwc▸hin) (by omega)]
  rw [QlH (pre:=pre) (x:=x) (r:=r) (by omega),ih (pre++[x]) (acc++[tr tl nl w]) (Qh3 ..) (by simp; omega)]
  simp [hwc]
end
theorem QwZ (f:GFun)(hf:Small f){N V tl nl:List Int}(h:Qfq f=some (N,V))(hm:Qjj f=some (tl,nl,0))(hmo:Qnw f N V tl nl):Qbs f=some (nf f N V tl nl,0):=by
 have hc:=hf.code
 have hv:=hf.vars
 have sh:=QeB h
 obtain ⟨a,b,k,hs1,hs2⟩:=Qrn f hf
 rw [h] at hs2
 simp only [Prod.mk.injEq] at hs2
 obtain ⟨⟨rfl,rfl⟩,rfl⟩:=hs2
 have hp0:=sh.par0
 have hp1:=sh.par1
 have hNl:=sh.nl
 have hVl:=sh.vl
 have hVr:∀ x∈b,0≤x∧x<((Qad f).length:Int):=fun x hx=>⟨by have:=(sh.vg x hx).1; omega,(sh.vg x hx).2⟩
 have hNr:∀ x∈a,(0≤x∧x<((Qaj f).length:Int))∧Qnx tl nl (Qdo f x):=fun x hx=>by
  have hg:=sh.ng x hx
  obtain ⟨n,hn,hin⟩:=Qvt hf hmo hg
  refine ⟨⟨hg.1,hg.2.1⟩,?_⟩
  unfold Qdo
  rw [hn]
  exact hin
 have htk:((Qad f).take (fPar f).toNat).length≤1000+(([]:List Int)).length:=by rw [List.length_take]; simp only [List.length_nil]; omega
 rw [Qo7,hs1,Qaa]
 simp only [cond_true]
 rw [Qac (show ¬ f.2.1<0 from by have:0≤f.2.1:=hp0; omega),Qac (show ¬ (f.2.2.2.1.length:Int)<f.2.1 from by have:f.2.1≤(f.2.2.2.1.length:Int):=hp1; omega)]
 rw [Qab (show (List.take f.2.1.toNat f.2.2.2.1).length * 16≤35184372088832 from by have:(List.take f.2.1.toNat f.2.2.2.1).length≤1000+(([]:List Int)).length:=htk; simp only [List.length_nil] at this; omega)]
 rw [show QcA ([]:List GVar) ([]:List Qae) (List.take f.2.1.toNat f.2.2.2.1) ([]:List Qae) f ([]:List UInt8) (0:Int) (0:Int) (0:Int) false f.1 f.2.1 f.2.2.1 (0:Int) f.2.2.2.2.2.2 a b (b.length:Int) (0:Int)=some ((Qad f).take (fPar f).toNat++QrS (Qad f) b) from
  QG0 _ _ _ f _ _ _ _ _ _ _ _ _ _ a b (by omega) hVr b [] _ rfl htk,Qaa,hm,Qaa]
 simp only
 rw [show QaP ([]:List GVar) ([]:List Qae) ((Qad f).take (fPar f).toNat++QrS (Qad f) b) ([]:List Qae) f ([]:List UInt8) (0:Int) (0:Int) (0:Int) false f.1 f.2.1 f.2.2.1 (0:Int) f.2.2.2.2.2.2 tl nl a (a.length:Int) (0:Int)=some ([]++a.map fun x=>tr tl nl (Qdo f x)) from
  QG1 _ _ f _ _ _ _ _ _ _ _ _ _ _ tl nl a (by omega) hNr a [] [] rfl (by simp),Qaa]
 rfl
end Go.Proofs.YtkecfadnfnnfaaaGreatDoor.LabB.V
