/- Of the models: the normal form of the reference is the program's. -/
import Derived.Test.YtkecfadnfnnfaaaGreatDoorPlB15
set_option linter.unusedVariables false
set_option linter.unusedSimpArgs false
namespace Go.Proofs.YtkecfadnfnnfaaaGreatDoor.LabB.V
open Go Go.Ev Go.Sy Go.Proofs.YtkecfadnfnnfaaaGreatDoor.LabB
theorem Qne (b:Int):∀ (l:List Int) (i:Nat) (t:List Int) (x:Int),QcR b (l++[x]) i t=(QcR b l i t).set x.toNat (b+((i+l.length:Nat):Int))
 | [],i,t,x=>by simp [QcR]
 | y::l,i,t,x=>by
  rw [List.cons_append,QcR,Qne b l (i+1),QcR]
  congr 2
  simp only [List.length_cons]
  omega
def Qn6 (f:GFun):List Int:=(List.range (Qac f).length).map fun i:Nat=>if (i:Int)<fPar f then (i:Int) else -1
theorem Qup (f:GFun):(Qn6 f).length=(Qac f).length:=by simp [Qn6]
theorem Qxh (f:GFun)(i:Nat)(h:i<(Qac f).length):(Qn6 f)[i]?=some (if (i:Int)<fPar f then (i:Int) else -1):=by
 unfold Qn6
 rw [List.getElem?_map,List.getElem?_range h]
 rfl
def NS (f:GFun)(nodes:List Int):List Int:=QcR 0 nodes 0 (List.replicate (Qag f).length (-1))
def VS (f:GFun)(va:List Int):List Int:=QcR (fPar f) va 0 (Qn6 f)
structure Inv (f:GFun)(s:S):Prop where
 nodes:∀ x∈s.nodes,0≤x∧s.re[x.toNat]?=some true
 va:∀ v∈s.va,0≤v∧s.bo[v.toNat]?=some true
 par:∀ i:Nat,(i:Int)<fPar f→s.bo[i]?=some true
 sub:∀ i:Nat,s.sc[i]?=some true→s.bo[i]?=some true
section
variable (f:GFun)
theorem QG3 (N order l:List Int)(va:List Int)(v:Int)(hp0:0≤fPar f)(h0:0≤v)(h1:v<((Qac f).length:Int))(hpar:fPar f≤v)(hva:∀ w∈va,0≤w∧w≠v)(hc:fPar f+(va.length:Int)≤100000):
  Qgu N (VS f va) order f.1 f.2.1 f.2.2.1 f.2.2.2.1 f.2.2.2.2.1 f.2.2.2.2.2.1 f.2.2.2.2.2.2 (fPar f+(va.length:Int)) false v=some (VS f (va++[v]),fPar f+((va++[v]).length:Int),false):=by
 have hat:at' (VS f va) v=some (-1):=by
  refine QvC h0 ?_
  unfold VS
  rw [Qh0 _ _ _ _ _ (fun w hw he=>by
   have:=hva w hw
   omega),Qxh f _ (by omega),if_neg (by omega)]
 rw [Qmj]
 simp only [QaJ,Qaa,cond_true,cond_false,Qda]
 rw [Qaf (show ¬ v<f.2.1 from by show ¬ v<fPar f; omega),Qad (show v<(f.2.2.2.1.length:Int) from h1),hat,Qaa]
 rw [show (!decide ((-1:Int)<0))=false from rfl,Qaa,cond_false,Qaa]
 have e1:Ev.wr .i64 (fPar f+(va.length:Int)+1)=fPar f+((va++[v]).length:Int):=by
  rw [QfI (by omega) (by omega)]
  simp
  omega
 rw [e1]
 congr 2
 unfold VS
 rw [Qne,Nat.zero_add]
theorem QGm (N order:List Int)(sl:List Int)(n:Qab)(ks:List Int)(i0:Int)(l:List Int)(hl:l.length≤100000)(hp0:0≤fPar f):
  ∀ (r pre:List Int) (bo sc:List Bool) (va acc:List Int) (bo' sc':List Bool) (va':List Int),l=pre++r→Qd2 (Qac f).length r (bo,sc,va)=some (bo',sc',va')→(∀ i:Nat,(i:Int)<fPar f→bo[i]?=some true)→(∀ w∈va,0≤w∧bo[w.toNat]?=some true)→fPar f+(va.length:Int)+(r.length:Int)≤100000→acc.length≤1000000+pre.length→
  Qbz sl N (VS f va) order acc f.1 f.2.1 f.2.2.1 f.2.2.2.1 f.2.2.2.2.1 f.2.2.2.2.2.1 f.2.2.2.2.2.2 (fPar f+(va.length:Int)) false n ks i0 l (pre.length:Int)=some (VS f va',acc++r,fPar f+(va'.length:Int),false):=by
 intro r
 induction r with
 | nil=>
  intro pre bo sc va acc bo' sc' va' h hb hpar hva hc hac
  simp only [Qd2,Option.some.injEq,Prod.mk.injEq] at hb
  obtain ⟨rfl,rfl,rfl⟩:=hb
  subst h
  rw [QeH,Qg3,cond_false,List.append_nil]
 | cons v r ih=>
  intro pre bo sc va acc bo' sc' va' h hb hpar hva hc hac
  have hv:l[pre.length]?=some v:=by rw [h,List.getElem?_append_right (Nat.le_refl _)]; simp
  have hpl:l.length=pre.length+(r.length+1):=by rw [h]; simp
  simp only [Qd2] at hb
  cases hm:mark (Qac f).length bo v with
  | none=>rw [hm] at hb; cases hb
  | some bo1=>
   rw [hm] at hb
   obtain ⟨m0,m1,m2,rfl⟩:=Qcu hm
   simp only [List.length_cons] at hc
   have hge:fPar f≤v:=by
    by_cases hlt:v<fPar f
    ·have:=hpar v.toNat (by omega)
     rw [m2] at this; cases this
    ·omega
   rw [QeH,Qaz hv,cond_true,Qao hv,Qaa,QG3 f N order l va v hp0 m0 m1 hge (fun w hw=>⟨(hva w hw).1,fun e=>by
    subst e
    have:=(hva w hw).2
    rw [m2] at this; cases this⟩) (by omega),Qaa]
   simp only
   rw [Qad (by omega),QaC hv (by omega)]
   have:=ih (pre++[v]) (bo.set v.toNat true) (sc.set v.toNat true) (va++[v]) (acc++[v]) bo' sc' va' (by rw [h]; simp) hb (fun i hi=>Qkw (hpar i hi)) (fun w hw=>by
    simp only [List.mem_append,List.mem_cons,List.not_mem_nil,or_false] at hw
    rcases hw with hw |rfl
    ·exact ⟨(hva w hw).1,Qkw (hva w hw).2⟩
    ·exact ⟨m0,QnQ m2⟩) (by simp; omega) (by simp; omega)
   simpa using this
theorem QG4 (l:List Int)(hl:l.length≤9223372036854775807)(v:Int):QsE l v=some (decide (v∈l)):=by
 rw [QvJ,Qcf (L:=fun i=>Qiv l v i) (l:=l) (p:=fun x=>!decide (x=v)) (A:=.inl ()) (B:=.inr ()) (fun i x hx=>by
  rw [QkV,Qaz hx,cond_true,Qao hx,Qaa,QaC hx hl,Qan]
  cases decide (x=v)<;>rfl) (by rw [QkV,QaF,cond_false]),Qaa]
 have:decide (v∈l)=!l.all fun x=>!decide (x=v):=by
  rw [Bool.eq_iff_iff]
  simp
 rw [this]
 cases l.all _<;>rfl
theorem QG5 (sl N VV order:List Int)(c:Int)(n:Qab)(sc:List Bool)(hs:SR sl sc)(hsl:sl.length≤9223372036854775807)(l:List Int)(hl:l.length≤9223372036854775807)(hu:V.Qd0 (Qac f).length sc l=true):
  Qa8 sl N VV order f.1 f.2.1 f.2.2.1 f.2.2.2.1 f.2.2.2.2.1 f.2.2.2.2.2.1 f.2.2.2.2.2.2 c false n l 0=some false:=by
 have:=Qsz (L:=fun (s:Unit) i=>Qa8 sl N VV order f.1 f.2.1 f.2.2.1 f.2.2.2.1 f.2.2.2.2.1 f.2.2.2.2.2.1 f.2.2.2.2.2.2 c false n l i) (l:=l) (F:=fun _ s (x:Int)=>.inl s) (E:=fun _=>false) (fun _ _=>True) (fun s i x hx _=>by
  have hx2:=List.all_eq_true.1 hu x (List.mem_of_getElem? hx)
  rw [decide_eq_true_eq] at hx2
  refine ⟨?_,trivial⟩
  rw [QeF,Qaz hx,cond_true,Qao hx,Qaa,QG4 sl hsl x,Qaa,Qad ((hs.mem x).2 ⟨hx2.1,hx2.2.2⟩),QaC hx hl]) (fun s _=>by rw [QeF,QaF,cond_false]) () trivial
 rw [this]
 congr 1
 have e:∀ (l:List Int) (i:Nat),runI (fun (_:Nat) (s:Unit) (x:Int)=>(.inl s:Unit⊕Bool)) (fun _=>false) i () l=false:=by
  intro l
  induction l with
  | nil=>intro i; rfl
  | cons x l ih=>intro i; rw [runI]; exact ih _
 exact e l 0
def Sub (s:S):Prop:=∀ i:Nat,s.sc[i]?=some true→s.bo[i]?=some true
theorem QBq (h:S→Int→Option S)(hh:∀ s a s',Wf f s→Sub s→h s a=some s'→s'.sc=s.sc∧Wf f s'∧∀ i:Nat,s.bo[i]?=some true→s'.bo[i]?=some true):∀ (r:List (Int×List Int)) (s s':S),Wf f s→Sub s→visL f h r s=some s'→s'.sc=s.sc∧Wf f s'∧∀ i:Nat,s.bo[i]?=some true→s'.bo[i]?=some true
 | [],s,s',hw,hs,hv=>by
  simp only [visL,Option.some.injEq] at hv
  subst hv
  exact ⟨rfl,hw,fun i h=>h⟩
 | (k,l)::r,s,s',hw,hs,hv=>by
  simp only [visL] at hv
  cases hmk:mark (Qag f).length s.re k with
  | none=>rw [hmk] at hv; cases hv
  | some re1=>
   rw [hmk] at hv
   simp only at hv
   cases hbs:Qd2 (Qac f).length l (s.bo,s.sc,s.va) with
   | none=>rw [hbs] at hv; cases hv
   | some t=>
    obtain ⟨bo1,sc1,va1⟩:=t
    rw [hbs] at hv
    simp only at hv
    cases hgk:h ⟨s.nodes,sc1,re1,bo1,va1⟩ k with
    | none=>rw [hgk] at hv; cases hv
    | some s2=>
     rw [hgk] at hv
     simp only at hv
     obtain ⟨m0,m1,m2,rfl⟩:=Qcu hmk
     obtain ⟨b1,b2,b3,b4,b5⟩:=QdM hbs
     obtain ⟨b6,b7,b8⟩:=QiG hbs
     have hsc1:sc1=setS true l s.sc:=by
      obtain ⟨bo2,e1,_,_⟩:=Qos l s.bo s.sc s.va hw.bo b6 (fun v hv=>⟨(b5 v hv).1,(b5 v hv).2,(b7 v hv).1⟩)
      rw [hbs] at e1
      simp only [Option.some.injEq,Prod.mk.injEq] at e1
      exact e1.2.1
     subst hsc1
     obtain ⟨q1,q2,q3⟩:=hh ⟨s.nodes,setS true l s.sc,s.re.set k.toNat true,bo1,va1⟩ k s2 ⟨by simp [hw.re],by rw [b1]; exact hw.bo,by rw [b2]; exact hw.sc⟩ (fun i hi=>by
      simp only at hi ⊢
      rw [Qhc] at hi
      split at hi
      ·rename_i h3
       obtain ⟨⟨v,hv,rfl⟩,_⟩:=h3
       exact (b7 v hv).2
      ·exact b8 i (hs i hi)) hgk
     have hs3:QeI l s2.sc=s.sc:=by
      rw [q1,Qkx]
      exact Qmt l s.sc (fun v hv h3=>by
       have:=hs _ h3
       rw [(b7 v hv).1] at this; cases this)
     obtain ⟨w1,w2,w3⟩:=QBq h hh r ⟨s2.nodes,QeI l s2.sc,s2.re,s2.bo,s2.va⟩ s' ⟨q2.re,q2.bo,by rw [QfS]; exact q2.sc⟩ (fun i hi=>by
      simp only at hi ⊢
      rw [hs3] at hi
      exact q3 i (b8 i (hs i hi))) hv
     exact ⟨by rw [w1]; exact hs3,w2,fun i hi=>w3 i (q3 i (b8 i hi))⟩
theorem QDQ:∀ (d:Nat) (s:S) (a:Int) (s':S),Wf f s→Sub s→vis f d s a=some s'→s'.sc=s.sc∧Wf f s'∧∀ i:Nat,s.bo[i]?=some true→s'.bo[i]?=some true
 | 0,s,a,s',hw,hs,h=>by simp [vis] at h
 | d+1,s,a,s',hw,hs,h=>by
  simp only [vis] at h
  cases hn:(Qag f)[a.toNat]? with
  | none=>rw [hn] at h; cases h
  | some n=>
   rw [hn] at h
   simp only at h
   split at h
   ·exact QBq f (vis f d) (QDQ d) (kb n) ⟨s.nodes++[a],s.sc,s.re,s.bo,s.va⟩ s' ⟨hw.re,hw.bo,hw.sc⟩ hs h
   ·cases h
def RVis (h:S→Int→Option S)(s:S)(k:Int):Prop:=∀ s' (sl:List Int),h s k=some s'→SR sl s.sc→sl.length+cf s.bo≤(Qac f).length→
 Qco (NS f s.nodes) (VS f s.va) s.nodes sl f.1 f.2.1 f.2.2.1 f.2.2.2.1 f.2.2.2.2.1 f.2.2.2.2.2.1 f.2.2.2.2.2.2 (fPar f+(s.va.length:Int)) false k=some (NS f s'.nodes,VS f s'.va,s'.nodes,fPar f+(s'.va.length:Int),false)
theorem QG6 (hf:Small f)(hp0:0≤fPar f)(hp1:fPar f≤((Qac f).length:Int))(n:Qab)(hn:QaQ n)(h:S→Int→Option S)(hk:∀ s a s',Wf f s→h s a=some s'→Kept f s s' 1)
  (hm:∀ s a s',Wf f s→0≤a→s.re[a.toNat]?=some true→h s a=some s'→∃ (r u:List Int),Marks f s s' r u∧a∈r∧∀ x∈r,x=a∨s.re[x.toNat]?=some false)
  (hsc:∀ s a s',Wf f s→Sub s→h s a=some s'→s'.sc=s.sc∧Wf f s'∧∀ i:Nat,s.bo[i]?=some true→s'.bo[i]?=some true)
  (hg:∀ s k,Wf f s→Inv f s→0≤k→k<((Qag f).length:Int)→s.re[k.toNat]?=some true→(∀ x∈s.nodes,x≠k)→s.nodes.length+cf s.re<(Qag f).length→(fPar f).toNat+s.va.length+cf s.bo≤(Qac f).length→RVis f h s k) (sl:List Int):
  ∀ (r pre:List (Int×List Int)) (s s':S),kb n=pre++r→visL f h r s=some s'→Wf f s→Inv f s→SR sl s.sc→sl.length+cf s.bo≤(Qac f).length→s.nodes.length+cf s.re≤(Qag f).length→(fPar f).toNat+s.va.length+cf s.bo≤(Qac f).length→
    Qbx sl (NS f s.nodes) (VS f s.va) s.nodes f.1 f.2.1 f.2.2.1 f.2.2.2.1 f.2.2.2.2.1 f.2.2.2.2.2.1 f.2.2.2.2.2.2 (fPar f+(s.va.length:Int)) false n (kids n) (pre.length:Int)=some (NS f s'.nodes,VS f s'.va,s'.nodes,fPar f+(s'.va.length:Int),false):=by
 have hkl:=QsS n hn.big
 have hvl:=hf.vars
 intro r
 induction r with
 | nil=>
  intro pre s s' hkb hv hw hi hsl hlen hnn hvv
  simp only [visL,Option.some.injEq] at hv
  subst hv
  rw [QeG,Qaf (by rw [QbW,hkb]; simp),Qaa,cond_false]
 | cons x r ih=>
  obtain ⟨k,l⟩:=x
  intro pre s s' hkb hv hw hi hsl hlen hnn hvv
  have hlen2:(kids n).length=pre.length+(r.length+1):=by rw [QbW,hkb]; simp
  have hmem:(k,l)∈kb n:=by rw [hkb]; simp
  have hat:(kids n)[pre.length]?=some k:=by
   rw [QbW,hkb,List.map_append,List.getElem?_append_right (by simp)]
   simp
  simp only [visL] at hv
  cases hmk:mark (Qag f).length s.re k with
  | none=>rw [hmk] at hv; cases hv
  | some re1=>
   rw [hmk] at hv
   simp only at hv
   cases hbs:Qd2 (Qac f).length l (s.bo,s.sc,s.va) with
   | none=>rw [hbs] at hv; cases hv
   | some t=>
    obtain ⟨bo1,sc1,va1⟩:=t
    rw [hbs] at hv
    simp only at hv
    cases hgk:h ⟨s.nodes,sc1,re1,bo1,va1⟩ k with
    | none=>rw [hgk] at hv; cases hv
    | some s2=>
     rw [hgk] at hv
     simp only at hv
     obtain ⟨m0,m1,m2,rfl⟩:=Qcu hmk
     obtain ⟨b1,b2,b3,b4,b5⟩:=QdM hbs
     obtain ⟨b6,b7,b8⟩:=QiG hbs
     have hcs:=Qhb s.re k.toNat m2
     have hll:l.length≤100000:=by
      have:va1.length=s.va.length+l.length:=by rw [b3]; simp
      omega
     have hva1:va1.length=s.va.length+l.length:=by rw [b3]; simp
     have hsc1:sc1=setS true l s.sc:=by
      obtain ⟨bo2,e1,_,_⟩:=Qos l s.bo s.sc s.va hw.bo b6 (fun v hv=>⟨(b5 v hv).1,(b5 v hv).2,(b7 v hv).1⟩)
      rw [hbs] at e1
      simp only [Option.some.injEq,Prod.mk.injEq] at e1
      exact e1.2.1
     rw [QeG,Qaz hat,cond_true,Qaa,Bool.not_false,cond_true,QEQ n hn.big,Qaa]
     have hjoin:(bif decide (n.1=(9:Int)) then Option.bind (Sy.at' n.2.2.2.2.2.2.2.2.1 (pre.length:Int)) fun v18=>some v18.1 else some (binds n))=some l:=by
      by_cases h9:nOp n=9
      ·rw [Qad h9,QkO]
       have hkb2:kb n=(nBr n).map (fun b=>(b.2,b.1)):=by unfold kb; rw [if_pos h9]
       have:(kb n)[pre.length]?=some (k,l):=by rw [hkb,List.getElem?_append_right (Nat.le_refl _)]; simp
       rw [hkb2,List.getElem?_map] at this
       cases hb:(nBr n)[pre.length]? with
       | none=>rw [hb] at this; simp at this
       | some b=>
        rw [hb] at this
        simp only [Option.map_some,Option.some.injEq,Prod.mk.injEq] at this
        rw [Qaa,this.2]
      ·rw [Qaf h9]
       have hkb2:kb n=(kids n).map (fun k=>(k,binds n)):=by unfold kb; rw [if_neg h9]
       rw [hkb2] at hmem
       simp only [List.mem_map,Prod.mk.injEq] at hmem
       obtain ⟨_,_,_,hm⟩:=hmem
       rw [hm]
     rw [hjoin,Qaa,Qad (by omega)]
     rw [show Qbz sl (NS f s.nodes) (VS f s.va) s.nodes sl f.1 f.2.1 f.2.2.1 f.2.2.2.1 f.2.2.2.2.1 f.2.2.2.2.2.1 f.2.2.2.2.2.2 (fPar f+(s.va.length:Int)) false n (kids n) (pre.length:Int) l 0=_ from
      QGm f (NS f s.nodes) s.nodes sl n (kids n) (pre.length:Int) l hll hp0 l [] s.bo s.sc s.va sl bo1 sc1 va1 rfl hbs hi.par hi.va (by omega) (by omega),Qaa,Qao hat]
     simp only
     rw [Qaa]
     have hw1:Wf f ⟨s.nodes,sc1,s.re.set k.toNat true,bo1,va1⟩:=⟨by simp [hw.re],by rw [b1]; exact hw.bo,by rw [b2]; exact hw.sc⟩
     have hi1:Inv f ⟨s.nodes,sc1,s.re.set k.toNat true,bo1,va1⟩:=⟨fun x hx=>⟨(hi.nodes x hx).1,Qkw (hi.nodes x hx).2⟩,fun v hv=>by
      simp only at hv
      rw [b3,List.mem_append] at hv
      rcases hv with hv |hv
      ·exact ⟨(hi.va v hv).1,b8 _ (hi.va v hv).2⟩
      ·exact ⟨(b5 v hv).1,(b7 v hv).2⟩,fun i hii=>b8 i (hi.par i hii),fun i hii=>by
      simp only at hii ⊢
      rw [hsc1,Qhc] at hii
      split at hii
      ·rename_i h3
       obtain ⟨⟨v,hv,rfl⟩,_⟩:=h3
       exact (b7 v hv).2
      ·exact b8 i (hi.sub i hii)⟩
     have hne:∀ x∈s.nodes,x≠k:=fun x hx e=>by
      subst e
      have:=(hi.nodes x hx).2
      rw [m2] at this; cases this
     have hrl:∀ v∈l,0≤v∧v<(s.sc.length:Int):=fun v hv=>by rw [hw.sc]; exact b5 v hv
     have key:=hg ⟨s.nodes,sc1,s.re.set k.toNat true,bo1,va1⟩ k hw1 hi1 m0 m1 (QnQ m2) hne (by simp only; omega) (by simp only; omega) s2 (sl++l) hgk (by simp only; rw [hsc1]; exact hsl.add l hrl) (by simp only [List.length_append]; omega)
     simp only at key
     rw [key,Qaa]
     simp only
     have K:=hk _ _ _ hw1 hgk
     obtain ⟨r1,u1,M,_,_⟩:=hm _ _ _ hw1 m0 (QnQ m2) hgk
     have K1:=K.nodes
     have K2:=K.vars
     have K3:=K.le
     simp only at K1 K2 K3
     have hsc2:s2.sc=sc1:=(hsc _ _ _ hw1 hi1.sub hgk).1
     have hs3:QeI l s2.sc=s.sc:=by
      rw [hsc2,hsc1,Qkx]
      exact Qmt l s.sc (fun v hv h3=>by
       have:=hi.sub _ h3
       rw [(b7 v hv).1] at this; cases this)
     have hcb:cf s2.bo≤cf bo1:=by
      obtain ⟨r2,hr2⟩:=K.prev
      simp only at hr2
      rw [hr2,List.length_append] at K2
      omega
     have e1:Ev.wr .i64 ((pre.length:Int)+1)=((pre++[(k,l)]).length:Int):=by
      rw [Sy.Qeb (by omega)]
      simp
     rw [e1]
     exact ih (pre++[(k,l)]) ⟨s2.nodes,QeI l s2.sc,s2.re,s2.bo,s2.va⟩ s' (by rw [hkb]; simp) hv ⟨K.wf.re,K.wf.bo,by rw [QfS]; exact K.wf.sc⟩
      ⟨fun x hx=>by
       simp only at hx
       rw [M.nodes,List.mem_append] at hx
       rcases hx with hx |hx
       ·exact ⟨(hi1.nodes x hx).1,M.QvU _ (hi1.nodes x hx).2⟩
       ·exact ⟨(M.rok x hx).1,M.rnew x hx⟩,fun v hv=>by
       simp only at hv
       rw [M.va,List.mem_append] at hv
       rcases hv with hv |hv
       ·exact ⟨(hi1.va v hv).1,M.Qqd _ (hi1.va v hv).2⟩
       ·obtain ⟨_,a2,a3,_⟩:=M.unew v hv
        exact ⟨a3,a2⟩,fun i hii=>M.Qqd i (hi1.par i hii),fun i hii=>by
       simp only at hii ⊢
       rw [hs3] at hii
       exact M.Qqd i (b8 i (hi.sub i hii))⟩ (by simp only; rw [hs3]; exact hsl) (by simp only; omega) (by simp only; omega) (by simp only; omega)
end
end Go.Proofs.YtkecfadnfnnfaaaGreatDoor.LabB.V
namespace Go.Proofs.YtkecfadnfnnfaaaGreatDoor.LabB.V
open Go Go.Ev Go.Sy Go.Proofs.YtkecfadnfnnfaaaGreatDoor.LabB
section
variable (f:GFun)
theorem rvis (hf:Small f)(hp0:0≤fPar f)(hp1:fPar f≤((Qac f).length:Int)):∀ (d:Nat) (s:S) (k:Int),Wf f s→Inv f s→0≤k→k<((Qag f).length:Int)→s.re[k.toNat]?=some true→(∀ x∈s.nodes,x≠k)→s.nodes.length+cf s.re<(Qag f).length→(fPar f).toNat+s.va.length+cf s.bo≤(Qac f).length→RVis f (vis f d) s k
 | 0,s,k,hw,hi,h0,h1,hr,hne,hnn,hvv=>by
  intro s' sl h
  simp [vis] at h
 | d+1,s,k,hw,hi,h0,h1,hr,hne,hnn,hvv=>by
  intro s' sl h hsl hlen
  have hcl:=hf.code
  have hvl:=hf.vars
  simp only [vis] at h
  obtain ⟨n,hn1,hn2⟩:=Qeg (l:=Qag f) h0 h1
  rw [hn2] at h
  simp only at h
  split at h
  ·rename_i hu
   have hn:QaQ n:=hf.nodes n (List.mem_of_getElem? hn2)
   have hul:=LabB.Qoq n hn.big
   have hat:at' (NS f s.nodes) k=some (-1):=by
    refine QvC h0 ?_
    unfold NS
    rw [Qh0 _ _ _ _ _ (fun x hx he=>by
     have h3:=hne x hx
     have h4:=(hi.nodes x hx).1
     omega),List.getElem?_replicate,if_pos (by omega)]
   rw [Qlo]
   simp only [QaJ,Qaa,cond_true,cond_false,Qda]
   rw [Qaf (show ¬ k<0 by omega),Qad (show k<(f.2.2.2.2.1.length:Int) from h1),hat,Qaa]
   rw [show (!decide ((-1:Int)<0))=false from rfl,Qaa,cond_false,Qaa,Qad (by omega),show at' f.2.2.2.2.1 k=some n from hn1,Qaa,QFY n hn.big,Qaa]
   have hns:List.set (NS f s.nodes) k.toNat (s.nodes.length:Int)=NS f (s.nodes++[k]):=by
    unfold NS
    rw [Qne]
    simp
   rw [hns,QG5 f sl _ _ _ _ n s.sc hsl (by omega) _ (by omega) hu,Qaa,QFX n hn.big,Qaa]
   have key:=QG6 f hf hp0 hp1 n hn (vis f d) (Qkv f d) (Qqe f d) (QDQ f d) (fun s k hw hi h0 h1 hr hne hnn hvv=>rvis hf hp0 hp1 d s k hw hi h0 h1 hr hne hnn hvv) sl (kb n) [] ⟨s.nodes++[k],s.sc,s.re,s.bo,s.va⟩ s' rfl h ⟨hw.re,hw.bo,hw.sc⟩
    ⟨fun x hx=>by
     simp only [List.mem_append,List.mem_cons,List.not_mem_nil,or_false] at hx
     rcases hx with hx |rfl
     ·exact hi.nodes x hx
     ·exact ⟨h0,hr⟩,hi.va,hi.par,hi.sub⟩ hsl hlen (by simp; omega) hvv
   simp only at key
   rw [show Qbx sl (NS f (s.nodes++[k])) (VS f s.va) (s.nodes++[k]) f.1 f.2.1 f.2.2.1 f.2.2.2.1 f.2.2.2.2.1 f.2.2.2.2.2.1 f.2.2.2.2.2.2 (fPar f+(s.va.length:Int)) false n (kids n) 0=_ from key,Qaa]
  ·cases h
def parL (f:GFun):List Int:=(List.range (fPar f).toNat).map fun i:Nat=>(i:Int)
theorem ofL0 (a b:List Int)(e:Int)(bd:Bool)(hv:(Qac f).length≤120)(hp0:0≤fPar f)(hp1:fPar f≤((Qac f).length:Int)):∀ (j i:Nat) (V sl:List Int),i+j=(Qac f).length→V=(Qn6 f).take i→sl=(parL f).take i→QeU a V b sl f f.1 f.2.1 f.2.2.1 f.2.2.2.1 f.2.2.2.2.1 f.2.2.2.2.2.1 f.2.2.2.2.2.2 e bd (i:Int)=some (Qn6 f,parL f)
 | 0,i,V,sl,h,hV,hs=>by
  have:i=(Qac f).length:=by omega
  subst this
  rw [QkT,QaF,cond_false,hV,hs,List.take_of_length_le (by rw [Qup]; exact Nat.le_refl _),List.take_of_length_le (by unfold parL; simp; omega)]
 | j+1,i,V,sl,h,hV,hs=>by
  have hil:i<(Qac f).length:=by omega
  have hVl:V.length=i:=by rw [hV,List.length_take,Qup]; omega
  have hsl:sl.length≤120:=by rw [hs,List.length_take]; unfold parL; simp; omega
  have hnext:(Qn6 f).take (i+1)=V++[if (i:Int)<fPar f then (i:Int) else -1]:=by
   rw [List.take_add_one,← hV,Qxh f i hil]
   rfl
  rw [QkT,Qad (show (i:Int)<(f.2.2.2.1.length:Int) by show (i:Int)<((Qac f).length:Int); omega),Qad (by omega),Sy.Qeb (by omega),Int.toNat_natCast]
  by_cases hp:(i:Int)<fPar f
  ·have hpn:(parL f)[i]?=some (i:Int):=by
    unfold parL
    rw [List.getElem?_map,List.getElem?_range (by omega)]
    rfl
   rw [Qad hp,show at' (V++[-1]) (i:Int)=some (-1) from by rw [← hVl]; exact QhJ V (-1) [],Qaa,Qad (by omega)]
   refine ofL0 a b e bd hv hp0 hp1 j (i+1) _ _ (by omega) ?_ ?_
   ·rw [hnext,if_pos hp,← hVl]
    simp
   ·rw [List.take_add_one,← hs,hpn]
    rfl
  ·have hpn:(parL f)[i]?=none:=List.getElem?_eq_none (by unfold parL; simp; omega)
   rw [Qaf hp]
   refine ofL0 a b e bd hv hp0 hp1 j (i+1) _ _ (by omega) ?_ ?_
   ·rw [hnext,if_neg hp]
   ·rw [List.take_add_one,← hs,hpn]
    simp
theorem ofL2 (b c d:List Int)(e:Int)(bd:Bool)(hv:(Qag f).length≤80):∀ (j i:Nat),i+j=(Qag f).length→Qgj (List.replicate i (-1)) b c d f f.1 f.2.1 f.2.2.1 f.2.2.2.1 f.2.2.2.2.1 f.2.2.2.2.2.1 f.2.2.2.2.2.2 e bd (i:Int)=some (List.replicate (Qag f).length (-1))
 | 0,i,h=>by
  have:i=(Qag f).length:=by omega
  subst this
  rw [QkU,QaF,cond_false]
 | j+1,i,h=>by
  rw [QkU,Qad (show (i:Int)<(f.2.2.2.2.1.length:Int) by show (i:Int)<((Qag f).length:Int); omega),Qad (by simp; omega),Sy.Qeb (by omega),show (List.replicate i (-1:Int))++[-1]=List.replicate (i+1) (-1) from (List.replicate_succ' ..).symm]
  exact ofL2 b c d e bd hv j (i+1) (by omega)
theorem Qp1 (hf:Small f){N V:List Int}(h:Qc4 f=some (N,V))(hext:fExt f=true→N=[]∧V=[]):QsC f=some (NS f N,VS f V,N,f.1,f.2.1,f.2.2.1,f.2.2.2.1,f.2.2.2.2.1,f.2.2.2.2.2.1,f.2.2.2.2.2.2,fPar f+(V.length:Int),false):=by
 have hcl:=hf.code
 have hvl:=hf.vars
 unfold Qc4 at h
 split at h
 ·cases h
 rename_i hp
 have hp0:0≤fPar f:=by omega
 have hp1:fPar f≤((Qac f).length:Int):=by omega
 have hpn:(fPar f).toNat≤(Qac f).length:=by omega
 rw [QvF]
 simp only [Qaj,Qaa,Qbq]
 rw [QcM (show (decide (f.2.1<0)||decide ((f.2.2.2.1.length:Int)<f.2.1))=false by simp only [Bool.or_eq_false_iff,decide_eq_false_iff_not]; show ¬ fPar f<0∧¬ ((Qac f).length:Int)<fPar f; omega)]
 rw [show QeU [] [] [] [] f f.1 f.2.1 f.2.2.1 f.2.2.2.1 f.2.2.2.2.1 f.2.2.2.2.2.1 f.2.2.2.2.2.2 0 false 0=_ from ofL0 f [] [] 0 false hvl hp0 hp1 (Qac f).length 0 [] [] (by omega) rfl rfl,Qaa]
 simp only
 rw [show Qgj [] (Qn6 f) [] (parL f) f f.1 f.2.1 f.2.2.1 f.2.2.2.1 f.2.2.2.2.1 f.2.2.2.2.2.1 f.2.2.2.2.2.2 f.2.1 false 0=_ from ofL2 f (Qn6 f) [] (parL f) f.2.1 false hcl (Qag f).length 0 (by omega),Qaa]
 split at h
 ·rename_i he
  obtain ⟨rfl,rfl⟩:=hext he
  rw [show f.2.2.2.2.2.2=true from he,cond_true,Qaa]
  simp only
  show some (List.replicate (Qag f).length (-1),Qn6 f,[],f.1,f.2.1,f.2.2.1,f.2.2.2.1,f.2.2.2.2.1,f.2.2.2.2.2.1,true,f.2.1,false)=_
  simp [NS,VS,QcR]
 ·rename_i he
  have he:fExt f=false:=by simpa using he
  split at h
  ·cases h
  rename_i re hm
  obtain ⟨m0,m1,m2,rfl⟩:=Qcu hm
  split at h
  ·cases h
  rename_i s' hvis
  simp only [Option.some.injEq,Prod.mk.injEq] at h
  obtain ⟨rfl,rfl⟩:=h
  have hws:Wf f ⟨[],ini (fPar f).toNat (Qac f).length,(List.replicate (Qag f).length false).set (QaM f).toNat true,ini (fPar f).toNat (Qac f).length,[]⟩:=⟨by simp,Qc3 hpn,Qc3 hpn⟩
  have hcs:=Qhb (List.replicate (Qag f).length false) (QaM f).toNat m2
  rw [Qrw] at hcs
  have hci:=QBl (fPar f).toNat (Qac f).length
  have key:=rvis f hf hp0 hp1 _ _ (QaM f) hws ⟨fun x hx=>by simp at hx,fun x hx=>by simp at hx,fun i hi=>by
   simp only
   rw [QnP hpn (by omega),decide_eq_true (by omega)],fun i hi=>hi⟩ m0 m1 (QnQ m2) (fun x hx=>by simp at hx) (by simp only [List.length_nil]; omega) (by simp only [List.length_nil]; omega) s' (parL f) hvis
   ⟨fun v=>by
    simp only
    unfold parL
    constructor
    ·intro h
     simp only [List.mem_map,List.mem_range] at h
     obtain ⟨j,hj,rfl⟩:=h
     exact ⟨by omega,by rw [Int.toNat_natCast,QnP hpn (by omega),decide_eq_true hj]⟩
    ·rintro ⟨h0,h1⟩
     have hlt:=Qat h1
     rw [Qc3 hpn] at hlt
     rw [QnP hpn hlt] at h1
     simp only [Option.some.injEq,decide_eq_true_eq] at h1
     simp only [List.mem_map,List.mem_range]
     exact ⟨v.toNat,h1,by omega⟩⟩ (by simp only; unfold parL; simp; omega)
  simp only [List.length_nil] at key
  have key':Qco (List.replicate (Qag f).length (-1)) (Qn6 f) [] (parL f) f.1 f.2.1 f.2.2.1 f.2.2.2.1 f.2.2.2.2.1 f.2.2.2.2.2.1 f.2.2.2.2.2.2 f.2.1 false f.2.2.2.2.2.1=some (NS f s'.nodes,VS f s'.va,s'.nodes,fPar f+(s'.va.length:Int),false):=by
   have e:fPar f+((0:Nat):Int)=f.2.1:=by show fPar f+((0:Nat):Int)=fPar f; omega
   rw [e] at key
   exact key
  rw [show f.2.2.2.2.2.2=false from he,cond_false]
  rw [show f.2.2.2.2.2.2=false from he] at key'
  rw [key',Qaa,Qaa]
end
end Go.Proofs.YtkecfadnfnnfaaaGreatDoor.LabB.V
namespace Go.Proofs.YtkecfadnfnnfaaaGreatDoor.LabB.V
open Go Go.Ev Go.Sy Go.Proofs.YtkecfadnfnnfaaaGreatDoor.LabB
section
variable (f:GFun) {N V tl nl:List Int}
variable (a:List GVar) (b:List Qab) (N' O':List Int) (c:List Qab) (x1:List UInt8) (x2 x3 x4:Int) (x5:Bool) (x6:List UInt8) (x7 x8:Int) (x9:List GVar) (x10:List Qab) (x11:Int) (x12:Bool) (x13:Int) (x14:Bool) (x15:List UInt8) (x16 x17 x18:Int) (x19:Bool)
end
end Go.Proofs.YtkecfadnfnnfaaaGreatDoor.LabB.V
