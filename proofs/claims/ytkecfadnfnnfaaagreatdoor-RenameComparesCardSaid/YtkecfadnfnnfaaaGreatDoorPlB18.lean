/- Of the models: the normal form of the reference is the program's. -/
import Derived.Test.YtkecfadnfnnfaaaGreatDoorPlB15
set_option linter.unusedVariables false
set_option linter.unusedSimpArgs false
namespace Go.Proofs.YtkecfadnfnnfaaaGreatDoor.LabB.V
open Go Go.Ev Go.Sy Go.Proofs.YtkecfadnfnnfaaaGreatDoor.LabB
theorem Qoq (b:Int):∀ (l:List Int) (i:Nat) (t:List Int) (x:Int),Qdn b (l++[x]) i t=(Qdn b l i t).set x.toNat (b+((i+l.length:Nat):Int))
 | [],i,t,x=>by simp [Qdn]
 | y::l,i,t,x=>by
  rw [List.cons_append,Qdn,Qoq b l (i+1),Qdn]
  congr 2
  simp only [List.length_cons]
  omega
def Qor (f:GFun):List Int:=(List.range (Qad f).length).map fun i:Nat=>if (i:Int)<fPar f then (i:Int) else -1
theorem Qny (f:GFun):(Qor f).length=(Qad f).length:=by simp [Qor]
theorem Qt9 (f:GFun)(i:Nat)(h:i<(Qad f).length):(Qor f)[i]?=some (if (i:Int)<fPar f then (i:Int) else -1):=by
 unfold Qor
 rw [List.getElem?_map,List.getElem?_range h]
 rfl
def NS (f:GFun)(nodes:List Int):List Int:=Qdn 0 nodes 0 (List.replicate (Qaj f).length (-1))
def VS (f:GFun)(va:List Int):List Int:=Qdn (fPar f) va 0 (Qor f)
theorem QGp (f:GFun)(l:List Int):(NS f l).length=(Qaj f).length:=by unfold NS; rw [QiU]; simp
theorem QGq (f:GFun)(l:List Int):(VS f l).length=(Qad f).length:=by unfold VS; rw [QiU,Qny]
structure Inv (f:GFun)(s:S):Prop where
 nodes:∀ x∈s.nodes,0≤x∧s.re[x.toNat]?=some true
 va:∀ v∈s.va,0≤v∧s.bo[v.toNat]?=some true
 par:∀ i:Nat,(i:Int)<fPar f→s.bo[i]?=some true
 sub:∀ i:Nat,s.sc[i]?=some true→s.bo[i]?=some true
section
variable (f:GFun)
theorem QG2 (N order l:List Int)(va:List Int)(v:Int)(hp0:0≤fPar f)(h0:0≤v)(h1:v<((Qad f).length:Int))(hpar:fPar f≤v)(hva:∀ w∈va,0≤w∧w≠v)(hc:fPar f+(va.length:Int)≤100000):
  Qg1 N (VS f va) order f.1 f.2.1 f.2.2.1 f.2.2.2.1 f.2.2.2.2.1 f.2.2.2.2.2.1 f.2.2.2.2.2.2 (fPar f+(va.length:Int)) false v=some (VS f (va++[v]),fPar f+((va++[v]).length:Int),false):=by
 have hat:at' (VS f va) v=some (-1):=by
  refine QqO h0 ?_
  unfold VS
  rw [Qgv _ _ _ _ _ (fun w hw he=>by
   have:=hva w hw
   omega),Qt9 f _ (by omega),if_neg (by omega)]
 rw [Qni]
 simp only [Qar,Qaa,cond_true,cond_false,QdF]
 rw [Qac (show ¬ v<f.2.1 from by show ¬ v<fPar f; omega),Qab (show v<(f.2.2.2.1.length:Int) from h1),hat,Qaa]
 rw [show (!decide ((-1:Int)<0))=false from rfl,Qaa,cond_false,Qaa]
 have e1:Ev.wr .i64 (fPar f+(va.length:Int)+1)=fPar f+((va++[v]).length:Int):=by
  rw [Qpt (by omega) (by omega)]
  simp
  omega
 rw [e1]
 congr 2
 unfold VS
 rw [Qoq,Nat.zero_add]
theorem QGr (N order:List Int)(sl:List Int)(n:Qae)(ks:List Int)(i0:Int)(l:List Int)(hl:l.length≤100000)(hp0:0≤fPar f):
  ∀ (r pre:List Int) (bo sc:List Bool) (va acc:List Int) (bo' sc':List Bool) (va':List Int),l=pre++r→QfY (Qad f).length r (bo,sc,va)=some (bo',sc',va')→(∀ i:Nat,(i:Int)<fPar f→bo[i]?=some true)→(∀ w∈va,0≤w∧bo[w.toNat]?=some true)→fPar f+(va.length:Int)+(r.length:Int)≤100000→acc.length≤1000000+pre.length→
  QbD sl N (VS f va) order acc f.1 f.2.1 f.2.2.1 f.2.2.2.1 f.2.2.2.2.1 f.2.2.2.2.2.1 f.2.2.2.2.2.2 (fPar f+(va.length:Int)) false n ks i0 l (pre.length:Int)=some (VS f va',acc++r,fPar f+(va'.length:Int),false):=by
 intro r
 induction r with
 | nil=>
  intro pre bo sc va acc bo' sc' va' h hb hpar hva hc hac
  simp only [QfY,Option.some.injEq,Prod.mk.injEq] at hb
  obtain ⟨rfl,rfl,rfl⟩:=hb
  subst h
  rw [Qfe,QdD,cond_false,List.append_nil]
 | cons v r ih=>
  intro pre bo sc va acc bo' sc' va' h hb hpar hva hc hac
  have hv:l[pre.length]?=some v:=by rw [h,List.getElem?_append_right (Nat.le_refl _)]; simp
  have hpl:l.length=pre.length+(r.length+1):=by rw [h]; simp
  simp only [QfY] at hb
  cases hm:mark (Qad f).length bo v with
  | none=>rw [hm] at hb; cases hb
  | some bo1=>
   rw [hm] at hb
   obtain ⟨m0,m1,m2,rfl⟩:=Qdm hm
   simp only [List.length_cons] at hc
   have hge:fPar f≤v:=by
    by_cases hlt:v<fPar f
    ·have:=hpar v.toNat (by omega)
     rw [m2] at this; cases this
    ·omega
   rw [Qfe,Qam hv,cond_true,Qah hv,Qaa,QG2 f N order l va v hp0 m0 m1 hge (fun w hw=>⟨(hva w hw).1,fun e=>by
    subst e
    have:=(hva w hw).2
    rw [m2] at this; cases this⟩) (by omega),Qaa]
   simp only
   rw [Qab (by omega),Qan hv (by omega)]
   have:=ih (pre++[v]) (bo.set v.toNat true) (sc.set v.toNat true) (va++[v]) (acc++[v]) bo' sc' va' (by rw [h]; simp) hb (fun i hi=>Qlt (hpar i hi)) (fun w hw=>by
    simp only [List.mem_append,List.mem_cons,List.not_mem_nil,or_false] at hw
    rcases hw with hw |rfl
    ·exact ⟨(hva w hw).1,Qlt (hva w hw).2⟩
    ·exact ⟨m0,QoX m2⟩) (by simp; omega) (by simp; omega)
   simpa using this
theorem QG3 (l:List Int)(hl:l.length≤9223372036854775807)(v:Int):QtN l v=some (decide (v∈l)):=by
 rw [QwC,QaF (L:=fun i=>Qjl l v i) (l:=l) (p:=fun x=>!decide (x=v)) (A:=.inl ()) (B:=.inr ()) (fun i x hx=>by
  rw [QlN,Qam hx,cond_true,Qah hx,Qaa,Qan hx hl,Qai]
  cases decide (x=v)<;>rfl) (by rw [QlN,Qap,cond_false]),Qaa]
 have:decide (v∈l)=!l.all fun x=>!decide (x=v):=by
  rw [Bool.eq_iff_iff]
  simp
 rw [this]
 cases l.all _<;>rfl
theorem QG4 (sl N VV order:List Int)(c:Int)(n:Qae)(sc:List Bool)(hs:SR sl sc)(hsl:sl.length≤9223372036854775807)(l:List Int)(hl:l.length≤9223372036854775807)(hu:V.Qhi (Qad f).length sc l=true):
  Qbb sl N VV order f.1 f.2.1 f.2.2.1 f.2.2.2.1 f.2.2.2.2.1 f.2.2.2.2.2.1 f.2.2.2.2.2.2 c false n l 0=some false:=by
 have:=QtL (L:=fun (s:Unit) i=>Qbb sl N VV order f.1 f.2.1 f.2.2.1 f.2.2.2.1 f.2.2.2.2.1 f.2.2.2.2.2.1 f.2.2.2.2.2.2 c false n l i) (l:=l) (F:=fun _ s (x:Int)=>.inl s) (E:=fun _=>false) (fun _ _=>True) (fun s i x hx _=>by
  have hx2:=List.all_eq_true.1 hu x (List.mem_of_getElem? hx)
  rw [decide_eq_true_eq] at hx2
  refine ⟨?_,trivial⟩
  rw [Qfa,Qam hx,cond_true,Qah hx,Qaa,QG3 sl hsl x,Qaa,Qab ((hs.mem x).2 ⟨hx2.1,hx2.2.2⟩),Qan hx hl]) (fun s _=>by rw [Qfa,Qap,cond_false]) () trivial
 rw [this]
 congr 1
 have e:∀ (l:List Int) (i:Nat),runI (fun (_:Nat) (s:Unit) (x:Int)=>(.inl s:Unit⊕Bool)) (fun _=>false) i () l=false:=by
  intro l
  induction l with
  | nil=>intro i; rfl
  | cons x l ih=>intro i; rw [runI]; exact ih _
 exact e l 0
def Sub (s:S):Prop:=∀ i:Nat,s.sc[i]?=some true→s.bo[i]?=some true
theorem QBM (h:S→Int→Option S)(hh:∀ s a s',Wf f s→Sub s→h s a=some s'→s'.sc=s.sc∧Wf f s'∧∀ i:Nat,s.bo[i]?=some true→s'.bo[i]?=some true):∀ (r:List (Int×List Int)) (s s':S),Wf f s→Sub s→visL f h r s=some s'→s'.sc=s.sc∧Wf f s'∧∀ i:Nat,s.bo[i]?=some true→s'.bo[i]?=some true
 | [],s,s',hw,hs,hv=>by
  simp only [visL,Option.some.injEq] at hv
  subst hv
  exact ⟨rfl,hw,fun i h=>h⟩
 | (k,l)::r,s,s',hw,hs,hv=>by
  simp only [visL] at hv
  cases hmk:mark (Qaj f).length s.re k with
  | none=>rw [hmk] at hv; cases hv
  | some re1=>
   rw [hmk] at hv
   simp only at hv
   cases hbs:QfY (Qad f).length l (s.bo,s.sc,s.va) with
   | none=>rw [hbs] at hv; cases hv
   | some t=>
    obtain ⟨bo1,sc1,va1⟩:=t
    rw [hbs] at hv
    simp only at hv
    cases hgk:h ⟨s.nodes,sc1,re1,bo1,va1⟩ k with
    | none=>rw [hgk] at hv; cases hv
    | some s2=>
     rw [hgk] at hv
     simp only at hv
     obtain ⟨m0,m1,m2,rfl⟩:=Qdm hmk
     obtain ⟨b1,b2,b3,b4,b5⟩:=Qem hbs
     obtain ⟨b6,b7,b8⟩:=Qjx hbs
     have hsc1:sc1=setS true l s.sc:=by
      obtain ⟨bo2,e1,_,_⟩:=Qpw l s.bo s.sc s.va hw.bo b6 (fun v hv=>⟨(b5 v hv).1,(b5 v hv).2,(b7 v hv).1⟩)
      rw [hbs] at e1
      simp only [Option.some.injEq,Prod.mk.injEq] at e1
      exact e1.2.1
     subst hsc1
     obtain ⟨q1,q2,q3⟩:=hh ⟨s.nodes,setS true l s.sc,s.re.set k.toNat true,bo1,va1⟩ k s2 ⟨by simp [hw.re],by rw [b1]; exact hw.bo,by rw [b2]; exact hw.sc⟩ (fun i hi=>by
      simp only at hi ⊢
      rw [Qgp] at hi
      split at hi
      ·rename_i h3
       obtain ⟨⟨v,hv,rfl⟩,_⟩:=h3
       exact (b7 v hv).2
      ·exact b8 i (hs i hi)) hgk
     have hs3:QfZ l s2.sc=s.sc:=by
      rw [q1,Qpx]
      exact Qnu l s.sc (fun v hv h3=>by
       have:=hs _ h3
       rw [(b7 v hv).1] at this; cases this)
     obtain ⟨w1,w2,w3⟩:=QBM h hh r ⟨s2.nodes,QfZ l s2.sc,s2.re,s2.bo,s2.va⟩ s' ⟨q2.re,q2.bo,by rw [Qgu]; exact q2.sc⟩ (fun i hi=>by
      simp only at hi ⊢
      rw [hs3] at hi
      exact q3 i (b8 i (hs i hi))) hv
     exact ⟨by rw [w1]; exact hs3,w2,fun i hi=>w3 i (q3 i (b8 i hi))⟩
theorem QDU:∀ (d:Nat) (s:S) (a:Int) (s':S),Wf f s→Sub s→vis f d s a=some s'→s'.sc=s.sc∧Wf f s'∧∀ i:Nat,s.bo[i]?=some true→s'.bo[i]?=some true
 | 0,s,a,s',hw,hs,h=>by simp [vis] at h
 | d+1,s,a,s',hw,hs,h=>by
  simp only [vis] at h
  cases hn:(Qaj f)[a.toNat]? with
  | none=>rw [hn] at h; cases h
  | some n=>
   rw [hn] at h
   simp only at h
   split at h
   ·exact QBM f (vis f d) (QDU d) (kb n) ⟨s.nodes++[a],s.sc,s.re,s.bo,s.va⟩ s' ⟨hw.re,hw.bo,hw.sc⟩ hs h
   ·cases h
def RVis (h:S→Int→Option S)(s:S)(k:Int):Prop:=∀ s' (sl:List Int),h s k=some s'→SR sl s.sc→sl.length+cf s.bo≤(Qad f).length→
 Qcy (NS f s.nodes) (VS f s.va) s.nodes sl f.1 f.2.1 f.2.2.1 f.2.2.2.1 f.2.2.2.2.1 f.2.2.2.2.2.1 f.2.2.2.2.2.2 (fPar f+(s.va.length:Int)) false k=some (NS f s'.nodes,VS f s'.va,s'.nodes,fPar f+(s'.va.length:Int),false)
theorem QG5 (hf:Small f)(hp0:0≤fPar f)(hp1:fPar f≤((Qad f).length:Int))(n:Qae)(hn:QaL n)(h:S→Int→Option S)(hk:∀ s a s',Wf f s→h s a=some s'→Kept f s s' 1)
  (hm:∀ s a s',Wf f s→0≤a→s.re[a.toNat]?=some true→h s a=some s'→∃ (r u:List Int),Marks f s s' r u∧a∈r∧∀ x∈r,x=a∨s.re[x.toNat]?=some false)
  (hsc:∀ s a s',Wf f s→Sub s→h s a=some s'→s'.sc=s.sc∧Wf f s'∧∀ i:Nat,s.bo[i]?=some true→s'.bo[i]?=some true)
  (hg:∀ s k,Wf f s→Inv f s→0≤k→k<((Qaj f).length:Int)→s.re[k.toNat]?=some true→(∀ x∈s.nodes,x≠k)→s.nodes.length+cf s.re<(Qaj f).length→(fPar f).toNat+s.va.length+cf s.bo≤(Qad f).length→RVis f h s k) (sl:List Int):
  ∀ (r pre:List (Int×List Int)) (s s':S),kb n=pre++r→visL f h r s=some s'→Wf f s→Inv f s→SR sl s.sc→sl.length+cf s.bo≤(Qad f).length→s.nodes.length+cf s.re≤(Qaj f).length→(fPar f).toNat+s.va.length+cf s.bo≤(Qad f).length→
    QbA sl (NS f s.nodes) (VS f s.va) s.nodes f.1 f.2.1 f.2.2.1 f.2.2.2.1 f.2.2.2.2.1 f.2.2.2.2.2.1 f.2.2.2.2.2.2 (fPar f+(s.va.length:Int)) false n (kids n) (pre.length:Int)=some (NS f s'.nodes,VS f s'.va,s'.nodes,fPar f+(s'.va.length:Int),false):=by
 have hkl:=Qnt n hn.big
 have hvl:=hf.vars
 intro r
 induction r with
 | nil=>
  intro pre s s' hkb hv hw hi hsl hlen hnn hvv
  simp only [visL,Option.some.injEq] at hv
  subst hv
  rw [Qfc,Qac (by rw [Qbc,hkb]; simp),Qaa,cond_false]
 | cons x r ih=>
  obtain ⟨k,l⟩:=x
  intro pre s s' hkb hv hw hi hsl hlen hnn hvv
  have hlen2:(kids n).length=pre.length+(r.length+1):=by rw [Qbc,hkb]; simp
  have hmem:(k,l)∈kb n:=by rw [hkb]; simp
  have hat:(kids n)[pre.length]?=some k:=by
   rw [Qbc,hkb,List.map_append,List.getElem?_append_right (by simp)]
   simp
  simp only [visL] at hv
  cases hmk:mark (Qaj f).length s.re k with
  | none=>rw [hmk] at hv; cases hv
  | some re1=>
   rw [hmk] at hv
   simp only at hv
   cases hbs:QfY (Qad f).length l (s.bo,s.sc,s.va) with
   | none=>rw [hbs] at hv; cases hv
   | some t=>
    obtain ⟨bo1,sc1,va1⟩:=t
    rw [hbs] at hv
    simp only at hv
    cases hgk:h ⟨s.nodes,sc1,re1,bo1,va1⟩ k with
    | none=>rw [hgk] at hv; cases hv
    | some s2=>
     rw [hgk] at hv
     simp only at hv
     obtain ⟨m0,m1,m2,rfl⟩:=Qdm hmk
     obtain ⟨b1,b2,b3,b4,b5⟩:=Qem hbs
     obtain ⟨b6,b7,b8⟩:=Qjx hbs
     have hcs:=Qhh s.re k.toNat m2
     have hll:l.length≤100000:=by
      have:va1.length=s.va.length+l.length:=by rw [b3]; simp
      omega
     have hva1:va1.length=s.va.length+l.length:=by rw [b3]; simp
     have hsc1:sc1=setS true l s.sc:=by
      obtain ⟨bo2,e1,_,_⟩:=Qpw l s.bo s.sc s.va hw.bo b6 (fun v hv=>⟨(b5 v hv).1,(b5 v hv).2,(b7 v hv).1⟩)
      rw [hbs] at e1
      simp only [Option.some.injEq,Prod.mk.injEq] at e1
      exact e1.2.1
     rw [Qfc,Qam hat,cond_true,Qaa,Bool.not_false,cond_true,Qt6 n hn.big,Qaa]
     have hjoin:(bif decide (n.1=(9:Int)) then Option.bind (Sy.at' n.2.2.2.2.2.2.2.2.1 (pre.length:Int)) fun v18=>some v18.1 else some (binds n))=some l:=by
      by_cases h9:nOp n=9
      ·rw [Qab h9,QjC]
       have hkb2:kb n=(nBr n).map (fun b=>(b.2,b.1)):=by unfold kb; rw [if_pos h9]
       have:(kb n)[pre.length]?=some (k,l):=by rw [hkb,List.getElem?_append_right (Nat.le_refl _)]; simp
       rw [hkb2,List.getElem?_map] at this
       cases hb:(nBr n)[pre.length]? with
       | none=>rw [hb] at this; simp at this
       | some b=>
        rw [hb] at this
        simp only [Option.map_some,Option.some.injEq,Prod.mk.injEq] at this
        rw [Qaa,this.2]
      ·rw [Qac h9]
       have hkb2:kb n=(kids n).map (fun k=>(k,binds n)):=by unfold kb; rw [if_neg h9]
       rw [hkb2] at hmem
       simp only [List.mem_map,Prod.mk.injEq] at hmem
       obtain ⟨_,_,_,hm⟩:=hmem
       rw [hm]
     rw [hjoin,Qaa,Qab (by omega)]
     rw [show QbD sl (NS f s.nodes) (VS f s.va) s.nodes sl f.1 f.2.1 f.2.2.1 f.2.2.2.1 f.2.2.2.2.1 f.2.2.2.2.2.1 f.2.2.2.2.2.2 (fPar f+(s.va.length:Int)) false n (kids n) (pre.length:Int) l 0=_ from
      QGr f (NS f s.nodes) s.nodes sl n (kids n) (pre.length:Int) l hll hp0 l [] s.bo s.sc s.va sl bo1 sc1 va1 rfl hbs hi.par hi.va (by omega) (by omega),Qaa,Qah hat]
     simp only
     rw [Qaa]
     have hw1:Wf f ⟨s.nodes,sc1,s.re.set k.toNat true,bo1,va1⟩:=⟨by simp [hw.re],by rw [b1]; exact hw.bo,by rw [b2]; exact hw.sc⟩
     have hi1:Inv f ⟨s.nodes,sc1,s.re.set k.toNat true,bo1,va1⟩:=⟨fun x hx=>⟨(hi.nodes x hx).1,Qlt (hi.nodes x hx).2⟩,fun v hv=>by
      simp only at hv
      rw [b3,List.mem_append] at hv
      rcases hv with hv |hv
      ·exact ⟨(hi.va v hv).1,b8 _ (hi.va v hv).2⟩
      ·exact ⟨(b5 v hv).1,(b7 v hv).2⟩,fun i hii=>b8 i (hi.par i hii),fun i hii=>by
      simp only at hii ⊢
      rw [hsc1,Qgp] at hii
      split at hii
      ·rename_i h3
       obtain ⟨⟨v,hv,rfl⟩,_⟩:=h3
       exact (b7 v hv).2
      ·exact b8 i (hi.sub i hii)⟩
     have hne:∀ x∈s.nodes,x≠k:=fun x hx e=>by
      subst e
      have:=(hi.nodes x hx).2
      rw [m2] at this; cases this
     have hrl:∀ v∈l,0≤v∧v<(s.sc.length:Int):=fun v hv=>by rw [hw.sc]; exact b5 v hv
     have key:=hg ⟨s.nodes,sc1,s.re.set k.toNat true,bo1,va1⟩ k hw1 hi1 m0 m1 (QoX m2) hne (by simp only; omega) (by simp only; omega) s2 (sl++l) hgk (by simp only; rw [hsc1]; exact hsl.add l hrl) (by simp only [List.length_append]; omega)
     simp only at key
     rw [key,Qaa]
     simp only
     have K:=hk _ _ _ hw1 hgk
     obtain ⟨r1,u1,M,_,_⟩:=hm _ _ _ hw1 m0 (QoX m2) hgk
     have K1:=K.nodes
     have K2:=K.vars
     have K3:=K.le
     simp only at K1 K2 K3
     have hsc2:s2.sc=sc1:=(hsc _ _ _ hw1 hi1.sub hgk).1
     have hs3:QfZ l s2.sc=s.sc:=by
      rw [hsc2,hsc1,Qpx]
      exact Qnu l s.sc (fun v hv h3=>by
       have:=hi.sub _ h3
       rw [(b7 v hv).1] at this; cases this)
     have hcb:cf s2.bo≤cf bo1:=by
      obtain ⟨r2,hr2⟩:=K.prev
      simp only at hr2
      rw [hr2,List.length_append] at K2
      omega
     have e1:Ev.wr .i64 ((pre.length:Int)+1)=((pre++[(k,l)]).length:Int):=by
      rw [Sy.QcZ (by omega)]
      simp
     rw [e1]
     exact ih (pre++[(k,l)]) ⟨s2.nodes,QfZ l s2.sc,s2.re,s2.bo,s2.va⟩ s' (by rw [hkb]; simp) hv ⟨K.wf.re,K.wf.bo,by rw [Qgu]; exact K.wf.sc⟩
      ⟨fun x hx=>by
       simp only at hx
       rw [M.nodes,List.mem_append] at hx
       rcases hx with hx |hx
       ·exact ⟨(hi1.nodes x hx).1,M.QwX _ (hi1.nodes x hx).2⟩
       ·exact ⟨(M.rok x hx).1,M.rnew x hx⟩,fun v hv=>by
       simp only at hv
       rw [M.va,List.mem_append] at hv
       rcases hv with hv |hv
       ·exact ⟨(hi1.va v hv).1,M.Qro _ (hi1.va v hv).2⟩
       ·obtain ⟨_,a2,a3,_⟩:=M.unew v hv
        exact ⟨a3,a2⟩,fun i hii=>M.Qro i (hi1.par i hii),fun i hii=>by
       simp only at hii ⊢
       rw [hs3] at hii
       exact M.Qro i (b8 i (hi.sub i hii))⟩ (by simp only; rw [hs3]; exact hsl) (by simp only; omega) (by simp only; omega) (by simp only; omega)
end
end Go.Proofs.YtkecfadnfnnfaaaGreatDoor.LabB.V
namespace Go.Proofs.YtkecfadnfnnfaaaGreatDoor.LabB.V
open Go Go.Ev Go.Sy Go.Proofs.YtkecfadnfnnfaaaGreatDoor.LabB
section
variable (f:GFun)
theorem rvis (hf:Small f)(hp0:0≤fPar f)(hp1:fPar f≤((Qad f).length:Int)):∀ (d:Nat) (s:S) (k:Int),Wf f s→Inv f s→0≤k→k<((Qaj f).length:Int)→s.re[k.toNat]?=some true→(∀ x∈s.nodes,x≠k)→s.nodes.length+cf s.re<(Qaj f).length→(fPar f).toNat+s.va.length+cf s.bo≤(Qad f).length→RVis f (vis f d) s k
 | 0,s,k,hw,hi,h0,h1,hr,hne,hnn,hvv=>by
  intro s' sl h
  simp [vis] at h
 | d+1,s,k,hw,hi,h0,h1,hr,hne,hnn,hvv=>by
  intro s' sl h hsl hlen
  have hcl:=hf.code
  have hvl:=hf.vars
  simp only [vis] at h
  obtain ⟨n,hn1,hn2⟩:=Qc2 (l:=Qaj f) h0 h1
  rw [hn2] at h
  simp only at h
  split at h
  ·rename_i hu
   have hn:QaL n:=hf.nodes n (List.mem_of_getElem? hn2)
   have hul:=LabB.Qnr n hn.big
   have hat:at' (NS f s.nodes) k=some (-1):=by
    refine QqO h0 ?_
    unfold NS
    rw [Qgv _ _ _ _ _ (fun x hx he=>by
     have h3:=hne x hx
     have h4:=(hi.nodes x hx).1
     omega),List.getElem?_replicate,if_pos (by omega)]
   rw [Qmk]
   simp only [Qar,Qaa,cond_true,cond_false,QdF]
   rw [Qac (show ¬ k<0 by omega),Qab (show k<(f.2.2.2.2.1.length:Int) from h1),hat,Qaa]
   rw [show (!decide ((-1:Int)<0))=false from rfl,Qaa,cond_false,Qaa,Qab (by omega),show at' f.2.2.2.2.1 k=some n from hn1,Qaa,QDN n hn.big,Qaa]
   have hns:List.set (NS f s.nodes) k.toNat (s.nodes.length:Int)=NS f (s.nodes++[k]):=by
    unfold NS
    rw [Qoq]
    simp
   rw [hns,QG4 f sl _ _ _ _ n s.sc hsl (by omega) _ (by omega) hu,Qaa,QxW n hn.big,Qaa]
   have key:=QG5 f hf hp0 hp1 n hn (vis f d) (Qls f d) (Qrp f d) (QDU f d) (fun s k hw hi h0 h1 hr hne hnn hvv=>rvis hf hp0 hp1 d s k hw hi h0 h1 hr hne hnn hvv) sl (kb n) [] ⟨s.nodes++[k],s.sc,s.re,s.bo,s.va⟩ s' rfl h ⟨hw.re,hw.bo,hw.sc⟩
    ⟨fun x hx=>by
     simp only [List.mem_append,List.mem_cons,List.not_mem_nil,or_false] at hx
     rcases hx with hx |rfl
     ·exact hi.nodes x hx
     ·exact ⟨h0,hr⟩,hi.va,hi.par,hi.sub⟩ hsl hlen (by simp; omega) hvv
   simp only at key
   rw [show QbA sl (NS f (s.nodes++[k])) (VS f s.va) (s.nodes++[k]) f.1 f.2.1 f.2.2.1 f.2.2.2.1 f.2.2.2.2.1 f.2.2.2.2.2.1 f.2.2.2.2.2.2 (fPar f+(s.va.length:Int)) false n (kids n) 0=_ from key,Qaa]
  ·cases h
def parL (f:GFun):List Int:=(List.range (fPar f).toNat).map fun i:Nat=>(i:Int)
theorem ofL0 (a b:List Int)(e:Int)(bd:Bool)(hv:(Qad f).length≤120)(hp0:0≤fPar f)(hp1:fPar f≤((Qad f).length:Int)):∀ (j i:Nat) (V sl:List Int),i+j=(Qad f).length→V=(Qor f).take i→sl=(parL f).take i→Qfo a V b sl f f.1 f.2.1 f.2.2.1 f.2.2.2.1 f.2.2.2.2.1 f.2.2.2.2.2.1 f.2.2.2.2.2.2 e bd (i:Int)=some (Qor f,parL f)
 | 0,i,V,sl,h,hV,hs=>by
  have:i=(Qad f).length:=by omega
  subst this
  rw [QlK,Qap,cond_false,hV,hs,List.take_of_length_le (by rw [Qny]; exact Nat.le_refl _),List.take_of_length_le (by unfold parL; simp; omega)]
 | j+1,i,V,sl,h,hV,hs=>by
  have hil:i<(Qad f).length:=by omega
  have hVl:V.length=i:=by rw [hV,List.length_take,Qny]; omega
  have hsl:sl.length≤120:=by rw [hs,List.length_take]; unfold parL; simp; omega
  have hnext:(Qor f).take (i+1)=V++[if (i:Int)<fPar f then (i:Int) else -1]:=by
   rw [List.take_add_one,← hV,Qt9 f i hil]
   rfl
  rw [QlK,Qab (show (i:Int)<(f.2.2.2.1.length:Int) by show (i:Int)<((Qad f).length:Int); omega),Qab (by omega),Sy.QcZ (by omega),Int.toNat_natCast]
  by_cases hp:(i:Int)<fPar f
  ·have hpn:(parL f)[i]?=some (i:Int):=by
    unfold parL
    rw [List.getElem?_map,List.getElem?_range (by omega)]
    rfl
   rw [Qab hp,show at' (V++[-1]) (i:Int)=some (-1) from by rw [← hVl]; exact QkC V (-1) [],Qaa,Qab (by omega)]
   refine ofL0 a b e bd hv hp0 hp1 j (i+1) _ _ (by omega) ?_ ?_
   ·rw [hnext,if_pos hp,← hVl]
    simp
   ·rw [List.take_add_one,← hs,hpn]
    rfl
  ·have hpn:(parL f)[i]?=none:=List.getElem?_eq_none (by unfold parL; simp; omega)
   rw [Qac hp]
   refine ofL0 a b e bd hv hp0 hp1 j (i+1) _ _ (by omega) ?_ ?_
   ·rw [hnext,if_neg hp]
   ·rw [List.take_add_one,← hs,hpn]
    simp
theorem ofL2 (b c d:List Int)(e:Int)(bd:Bool)(hv:(Qaj f).length≤80):∀ (j i:Nat),i+j=(Qaj f).length→QgT (List.replicate i (-1)) b c d f f.1 f.2.1 f.2.2.1 f.2.2.2.1 f.2.2.2.2.1 f.2.2.2.2.2.1 f.2.2.2.2.2.2 e bd (i:Int)=some (List.replicate (Qaj f).length (-1))
 | 0,i,h=>by
  have:i=(Qaj f).length:=by omega
  subst this
  rw [QlL,Qap,cond_false]
 | j+1,i,h=>by
  rw [QlL,Qab (show (i:Int)<(f.2.2.2.2.1.length:Int) by show (i:Int)<((Qaj f).length:Int); omega),Qab (by simp; omega),Sy.QcZ (by omega),show (List.replicate i (-1:Int))++[-1]=List.replicate (i+1) (-1) from (List.replicate_succ' ..).symm]
  exact ofL2 b c d e bd hv j (i+1) (by omega)
theorem Qoi (hf:Small f){N V:List Int}(h:Qfq f=some (N,V))(hext:fExt f=true→N=[]∧V=[]):QtM f=some (NS f N,VS f V,N,f.1,f.2.1,f.2.2.1,f.2.2.2.1,f.2.2.2.2.1,f.2.2.2.2.2.1,f.2.2.2.2.2.2,fPar f+(V.length:Int),false):=by
 have hcl:=hf.code
 have hvl:=hf.vars
 unfold Qfq at h
 split at h
 ·cases h
 rename_i hp
 have hp0:0≤fPar f:=by omega
 have hp1:fPar f≤((Qad f).length:Int):=by omega
 have hpn:(fPar f).toNat≤(Qad f).length:=by omega
 rw [QwA]
 simp only [Qaf,Qaa,QaG]
 rw [Qcp (show (decide (f.2.1<0)||decide ((f.2.2.2.1.length:Int)<f.2.1))=false by simp only [Bool.or_eq_false_iff,decide_eq_false_iff_not]; show ¬ fPar f<0∧¬ ((Qad f).length:Int)<fPar f; omega)]
 rw [show Qfo [] [] [] [] f f.1 f.2.1 f.2.2.1 f.2.2.2.1 f.2.2.2.2.1 f.2.2.2.2.2.1 f.2.2.2.2.2.2 0 false 0=_ from ofL0 f [] [] 0 false hvl hp0 hp1 (Qad f).length 0 [] [] (by omega) rfl rfl,Qaa]
 simp only
 rw [show QgT [] (Qor f) [] (parL f) f f.1 f.2.1 f.2.2.1 f.2.2.2.1 f.2.2.2.2.1 f.2.2.2.2.2.1 f.2.2.2.2.2.2 f.2.1 false 0=_ from ofL2 f (Qor f) [] (parL f) f.2.1 false hcl (Qaj f).length 0 (by omega),Qaa]
 split at h
 ·rename_i he
  obtain ⟨rfl,rfl⟩:=hext he
  rw [show f.2.2.2.2.2.2=true from he,cond_true,Qaa]
  simp only
  show some (List.replicate (Qaj f).length (-1),Qor f,[],f.1,f.2.1,f.2.2.1,f.2.2.2.1,f.2.2.2.2.1,f.2.2.2.2.2.1,true,f.2.1,false)=_
  simp [NS,VS,Qdn]
 ·rename_i he
  have he:fExt f=false:=by simpa using he
  split at h
  ·cases h
  rename_i re hm
  obtain ⟨m0,m1,m2,rfl⟩:=Qdm hm
  split at h
  ·cases h
  rename_i s' hvis
  simp only [Option.some.injEq,Prod.mk.injEq] at h
  obtain ⟨rfl,rfl⟩:=h
  have hws:Wf f ⟨[],ini (fPar f).toNat (Qad f).length,(List.replicate (Qaj f).length false).set (QaM f).toNat true,ini (fPar f).toNat (Qad f).length,[]⟩:=⟨by simp,Qdz hpn,Qdz hpn⟩
  have hcs:=Qhh (List.replicate (Qaj f).length false) (QaM f).toNat m2
  rw [QsL] at hcs
  have hci:=QBH (fPar f).toNat (Qad f).length
  have key:=rvis f hf hp0 hp1 _ _ (QaM f) hws ⟨fun x hx=>by simp at hx,fun x hx=>by simp at hx,fun i hi=>by
   simp only
   rw [QoW hpn (by omega),decide_eq_true (by omega)],fun i hi=>hi⟩ m0 m1 (QoX m2) (fun x hx=>by simp at hx) (by simp only [List.length_nil]; omega) (by simp only [List.length_nil]; omega) s' (parL f) hvis
   ⟨fun v=>by
    simp only
    unfold parL
    constructor
    ·intro h
     simp only [List.mem_map,List.mem_range] at h
     obtain ⟨j,hj,rfl⟩:=h
     exact ⟨by omega,by rw [Int.toNat_natCast,QoW hpn (by omega),decide_eq_true hj]⟩
    ·rintro ⟨h0,h1⟩
     have hlt:=Qau h1
     rw [Qdz hpn] at hlt
     rw [QoW hpn hlt] at h1
     simp only [Option.some.injEq,decide_eq_true_eq] at h1
     simp only [List.mem_map,List.mem_range]
     exact ⟨v.toNat,h1,by omega⟩⟩ (by simp only; unfold parL; simp; omega)
  simp only [List.length_nil] at key
  have key':Qcy (List.replicate (Qaj f).length (-1)) (Qor f) [] (parL f) f.1 f.2.1 f.2.2.1 f.2.2.2.1 f.2.2.2.2.1 f.2.2.2.2.2.1 f.2.2.2.2.2.2 f.2.1 false f.2.2.2.2.2.1=some (NS f s'.nodes,VS f s'.va,s'.nodes,fPar f+(s'.va.length:Int),false):=by
   have e:fPar f+((0:Nat):Int)=f.2.1:=by show fPar f+((0:Nat):Int)=fPar f; omega
   rw [e] at key
   exact key
  rw [show f.2.2.2.2.2.2=false from he,cond_false]
  rw [show f.2.2.2.2.2.2=false from he] at key'
  rw [key',Qaa,Qaa]
theorem QE8 (hf:Small f){N V:List Int}(h:Qfq f=some (N,V)):Qnw f N V (NS f N) (VS f V):=by
 have sh:=QeB h
 have hp0:=sh.par0
 have hp1:=sh.par1
 have hNr:∀ x∈N,0≤x∧x<((List.replicate (Qaj f).length (-1:Int)).length:Int):=fun x hx=>by rw [List.length_replicate]; exact ⟨(sh.ng x hx).1,(sh.ng x hx).2.1⟩
 have hVr:∀ x∈V,0≤x∧x<((Qor f).length:Int):=fun x hx=>by rw [Qny]; exact ⟨by have:=(sh.vg x hx).1; omega,(sh.vg x hx).2⟩
 refine ⟨QGp f N,QGq f V,fun j x hx=>?_,fun j v hx=>?_,fun i hi=>?_⟩
 ·unfold NS
  rw [Qk2 0 N 0 _ sh.nn hNr j x hx]
  simp
 ·unfold VS
  rw [Qk2 (fPar f) V 0 _ sh.vn hVr j v hx]
  simp
 ·unfold VS
  rw [Qgv (fPar f) V 0 _ i fun x hx hxi=>by
   have:=(sh.vg x hx).1
   omega]
  rw [Qt9 f i (by omega),if_pos hi]
theorem QDp {N V tl nl tl' nl':List Int}(hw:Whole f N V)(h:Qnw f N V tl nl)(h':Qnw f N V tl' nl'):tl=tl'∧nl=nl':=by
 have sh:=QeB hw.shaped
 have hp0:=sh.par0
 have hp1:=sh.par1
 constructor
 ·apply List.ext_getElem?
  intro i
  by_cases hi:i<(Qaj f).length
  ·have hm:(i:Int)∈N:=QBK sh.nn 0 (Qaj f).length (fun x hx=>⟨(sh.ng x hx).1,by have:=(sh.ng x hx).2.1; omega⟩) hw.nodes (i:Int) (by omega) (by omega)
   obtain ⟨j,hj⟩:=List.getElem?_of_mem hm
   have e1:=h.to j _ hj
   have e2:=h'.to j _ hj
   rw [Int.toNat_natCast] at e1 e2
   rw [e1,e2]
  ·rw [List.getElem?_eq_none (by rw [h.tlen]; omega),List.getElem?_eq_none (by rw [h'.tlen]; omega)]
 ·apply List.ext_getElem?
  intro i
  by_cases hi:i<(Qad f).length
  ·by_cases hp:(i:Int)<fPar f
   ·rw [h.par i hp,h'.par i hp]
   ·have hvars:=hw.vars
    have hm:(i:Int)∈V:=QBK sh.vn (fPar f) ((Qad f).length - (fPar f).toNat) (fun x hx=>⟨(sh.vg x hx).1,by have:=(sh.vg x hx).2; omega⟩) (by omega) (i:Int) (by omega) (by omega)
    obtain ⟨j,hj⟩:=List.getElem?_of_mem hm
    have e1:=h.num j _ hj
    have e2:=h'.num j _ hj
    rw [Int.toNat_natCast] at e1 e2
    rw [e1,e2]
  ·rw [List.getElem?_eq_none (by rw [h.nlen]; omega),List.getElem?_eq_none (by rw [h'.nlen]; omega)]
theorem rto (nl l:List Int)(hl:l.length≤1000):Qm7 l nl=some (l.map (numOf nl)):=by
 rw [QwE]
 have:=QbZ (L:=fun s i=>Qjo s l nl i) (l:=l) (F:=fun s x=>s++[numOf nl x]) (E:=id) (fun i s=>s.length≤i)
  (fun s i x hx hI=>⟨by
   have:=Qau hx
   rw [QlP,Qam hx,cond_true,Qah hx,Qaa]
   have hj:(Option.bind (bif decide (x<0) then some false else some (decide (x<(nl.length:Int)))) fun v5=>bif v5 then Option.bind (Sy.at' nl x) fun v6=>some v6 else some x)=some (numOf nl x):=by
    simp only [Qar,Qaa,cond_true,cond_false]
    by_cases h0:x<0
    ·rw [Qab h0,numOf,if_neg (by omega)]
    ·rw [Qac h0]
     by_cases h1:x<(nl.length:Int)
     ·rw [Qab h1,Qx4 (by omega) h1]
      rfl
     ·rw [Qac h1,numOf,if_neg (by omega)]
   rw [hj,Qaa,Qab (by omega),Qan hx (by omega)],by simp; omega⟩)
  (fun s hI=>by rw [QlP,Qap,cond_false]; rfl) [] (by simp)
 rw [this,Qgs]
 rfl
theorem QG6 (tl nl:List Int)(n:Qae)(hin:Qnx tl nl n)(hop:0≤nOp n∧nOp n<10):Qiw n tl nl=some (tr tl nl n):=by
 have hs:=hin.small
 have ha:=hs.args
 have hm:=hs.more
 have hbr:=hs.br
 rw [Qne,QxW n hs.big]
 have hbare:QbR (nOp n)=decide (nOp n=1):=by
  unfold QbR
  rw [Bool.eq_iff_iff,decide_eq_true_eq,decide_eq_true_eq]
  omega
 have e1:(Option.bind (bif decide (n.1<0) then some false else some !decide (9<n.1)) fun v3=>Option.bind (bif v3 then some !decide (n.1=1) else some false) fun v4=>(some v4:Option Bool))=some (!decide (nOp n=1)):=by
  simp only [Qaf,Qaa,Qc5]
  rw [show decide (n.1<0)=false from QaD (show ¬ nOp n<0 by omega),show decide (9<n.1)=false from QaD (show ¬ 9<nOp n by omega)]
  rfl
 have e2:(decide (n.1=1)||decide (n.1=2)||decide (n.1=3)||decide (n.1=4)||decide (n.1=6))=Qbp (nOp n):=by
  unfold Qbp
  rw [Bool.eq_iff_iff]
  simp only [Bool.or_eq_true,decide_eq_true_eq]
  show (((nOp n=1∨nOp n=2)∨nOp n=3)∨nOp n=4)∨nOp n=6↔1≤nOp n∧nOp n≤6∧nOp n≠5
  omega
 have e3:(decide (n.1<0))=false:=QaD (show ¬ nOp n<0 by omega)
 have e4:(decide (9<n.1))=false:=QaD (show ¬ 9<nOp n by omega)
 simp only [Qaf,Qaa,Qc5,QaG,e3,e4,Bool.not_false,Bool.and_true,cond_true]
 rw [rto nl n.2.2.1 (by have:n.2.2.1.length≤12:=ha; omega),rto nl n.2.2.2.2.2.2.1 (by have:n.2.2.2.2.2.2.1.length≤12:=hm; omega),e2]
 simp only [Qaa,QmZ]
 have hkl:decide (0<((kids n).length:Int))=true→nOp n≠9→Qd4 (nOp n)=true:=by
  intro h h9
  unfold kids at h
  rw [if_neg h9] at h
  by_cases hn:Qd4 (nOp n)=true
  ·exact hn
  ·rw [if_neg hn] at h; simp at h
 have hkl2:nOp n≠9→Qd4 (nOp n)=true→decide (0<((kids n).length:Int))=true:=by
  intro h9 hn
  unfold kids
  rw [if_neg h9,if_pos hn]
  rfl
 unfold tr
 rw [hbare]
 by_cases h9:nOp n=9
 ·have hb0:Qbp (nOp n)=false:=by rw [h9]; rfl
  have h1:decide (n.1=1)=false:=QaD (show ¬ nOp n=1 by omega)
  have h1':¬ decide (nOp n=1)=true:=by rw [decide_eq_true_eq]; omega
  have h9':decide (n.1=9)=true:=QaY h9
  have key:∀ a b c d e1 e2 e3 e4 e5 e6 x1 x2 x3 x4 x5 x6 x7 x8 x9,QeX a b c [] n d e1 e2 e3 e4 e5 e6 x1 x2 x3 x4 x5 x6 x7 x8 x9 tl nl 0=some ((nBr n).map (trBr tl nl)):=by
   intro a b c d e1 e2 e3 e4 e5 e6 x1 x2 x3 x4 x5 x6 x7 x8 x9
   have:=QbZ (L:=fun s i=>QeX a b c s n d e1 e2 e3 e4 e5 e6 x1 x2 x3 x4 x5 x6 x7 x8 x9 tl nl i) (l:=nBr n) (F:=fun s x=>s++[trBr tl nl x]) (E:=id) (fun i s=>s.length≤i)
    (fun s i x hx hI=>⟨by
     have:=Qau hx
     have hxm:=List.mem_of_getElem? hx
     obtain ⟨t0,t1⟩:=hin.br h9 x hxm
     have:=hs.bs x hxm
     rw [QjR,Qam hx,cond_true,Qah hx,Qaa,QBJ t0 t1,Qaa,rto nl x.1 (by omega),Qaa,Qab (by omega),Qan hx (by omega)]
     rfl,by simp; omega⟩)
    (fun s hI=>by rw [QjR,Qap,cond_false]; rfl) [] (by simp)
   rw [this,Qgs]
   rfl
  rw [hb0]
  simp only [h1,h9',Bool.not_false,Bool.not_true,cond_true,cond_false,Qaa]
  rw [if_neg (fun h=>h.1 h9),if_neg ft,if_neg ft,if_pos h9,if_neg (fun h=>h.1 h9)]
  cases decide (0<((kids n).length:Int))
  ·simp only [cond_false,Qaa]
   rw [key]
   rfl
  ·simp only [cond_true,cond_false,Qaa]
   rw [key]
   rfl
 ·have h9':decide (n.1=9)=false:=QaD h9
  rw [if_neg h9]
  simp only [h9',Bool.not_false,cond_false]
  cases hb:Qbp (nOp n) with
  | true=>
   obtain ⟨v0,v1⟩:=hin.var h9 hb
   rw [show at' nl n.2.1=_ from Qx4 v0 v1]
   simp only [cond_true,Qaa]
   rw [if_pos (show nOp n≠9∧True from ⟨h9,trivial⟩)]
   have hnext:Qd4 (nOp n)=true:=by unfold Qbp at hb; unfold Qd4; rw [decide_eq_true_eq] at hb ⊢; omega
   obtain ⟨n0,n1⟩:=hin.next h9 hnext
   rw [hkl2 h9 hnext,if_pos (show nOp n≠9∧Qd4 (nOp n)=true from ⟨h9,hnext⟩),show at' tl n.2.2.2.2.2.2.2.2.2=_ from QBJ n0 n1]
   simp only [cond_true,Qaa]
   by_cases h1:nOp n=1
   ·rw [show decide (n.1=1)=true from QaY h1,if_pos (show true=true from rfl)]
    rfl
   ·rw [show decide (n.1=1)=false from QaD h1,if_neg ft]
    rfl
  | false=>
   simp only [cond_false,Qaa]
   rw [if_neg (show ¬ (nOp n≠9∧false=true) from fun h=>by cases h.2)]
   by_cases hnext:Qd4 (nOp n)=true
   ·obtain ⟨n0,n1⟩:=hin.next h9 hnext
    rw [hkl2 h9 hnext,if_pos (show nOp n≠9∧Qd4 (nOp n)=true from ⟨h9,hnext⟩),show at' tl n.2.2.2.2.2.2.2.2.2=_ from QBJ n0 n1]
    simp only [cond_true,Qaa]
    by_cases h1:nOp n=1
    ·rw [show decide (n.1=1)=true from QaY h1,if_pos (show true=true from rfl)]
     rfl
    ·rw [show decide (n.1=1)=false from QaD h1,if_neg ft]
     rfl
   ·have hk0:decide (0<((kids n).length:Int))=false:=by
     cases hd:decide (0<((kids n).length:Int)) with
     | false=>rfl
     | true=>exact absurd (hkl hd h9) hnext
    rw [hk0,if_neg (show ¬ (nOp n≠9∧Qd4 (nOp n)=true) from fun h=>hnext h.2)]
    simp only [cond_false,Qaa]
    by_cases h1:nOp n=1
    ·rw [show decide (n.1=1)=true from QaY h1,if_pos (show true=true from rfl)]
     rfl
    ·rw [show decide (n.1=1)=false from QaD h1,if_neg ft]
     rfl
end
end Go.Proofs.YtkecfadnfnnfaaaGreatDoor.LabB.V
namespace Go.Proofs.YtkecfadnfnnfaaaGreatDoor.LabB.V
open Go Go.Ev Go.Sy Go.Proofs.YtkecfadnfnnfaaaGreatDoor.LabB
theorem QDV (tl nl:List Int)(n:Qae)(hin:Qnx tl nl n):Qiw n tl nl=some (tr tl nl n):=by
 by_cases hop:0≤nOp n∧nOp n<10
 ·exact QG6 tl nl n hin hop
 ·have hs:=hin.small
  have hb0:Qbp (nOp n)=false:=by unfold Qbp; rw [decide_eq_false_iff_not]; omega
  have hn0:Qd4 (nOp n)=false:=by unfold Qd4; rw [decide_eq_false_iff_not]; omega
  have h9:¬ nOp n=9:=by omega
  have hk:kids n=[]:=by unfold kids; rw [if_neg h9,hn0]; rfl
  have hbare:QbR (nOp n)=true:=by unfold QbR; rw [decide_eq_true_eq]; omega
  have e2:(decide (n.1=1)||decide (n.1=2)||decide (n.1=3)||decide (n.1=4)||decide (n.1=6))=Qbp (nOp n):=by
   unfold Qbp
   rw [Bool.eq_iff_iff]
   simp only [Bool.or_eq_true,decide_eq_true_eq]
   show (((nOp n=1∨nOp n=2)∨nOp n=3)∨nOp n=4)∨nOp n=6↔1≤nOp n∧nOp n≤6∧nOp n≠5
   omega
  have e5:(!decide (n.1<0)&&!decide (9<n.1))=false:=by
   rw [Bool.and_eq_false_iff,Bool.not_eq_false',Bool.not_eq_false',decide_eq_true_eq,decide_eq_true_eq]
   show nOp n<0∨9<nOp n
   omega
  rw [Qne,QxW n hs.big,hk]
  simp only [Qaf,Qaa,Qc5,QaG,e5,QbF,Bool.false_and,cond_false,e2,hb0,List.length_nil]
  rw [show decide ((0:Int)<((0:Nat):Int))=false from rfl,show decide (n.1=9)=false from QaD h9]
  simp only [Bool.false_and,cond_false,Qaa]
  unfold tr
  rw [hb0,hn0,if_pos hbare,if_pos hbare,if_neg h9,if_neg (show ¬ (nOp n≠9∧false=true) from fun h=>by cases h.2),if_neg (show ¬ (nOp n≠9∧false=true) from fun h=>by cases h.2)]
section
variable (f:GFun) {N V tl nl:List Int}
def outV (f:GFun)(V:List Int):List GVar:=(Qad f).take (fPar f).toNat++QrS (Qad f) V
theorem Qx6 (hw:Whole f N V):(outV f V).length=(Qad f).length:=by
 have sh:=QeB hw.shaped
 have hp0:=sh.par0
 have hp1:=sh.par1
 have:=hw.vars
 unfold outV QrS
 rw [List.length_append,List.length_take,List.length_map]
 omega
theorem QGs (hw:Whole f N V)(hm:Qnw f N V tl nl)(i:Nat)(x:GVar)(hx:(Qad f)[i]?=some x):∃ j:Nat,nl[i]?=some (j:Int)∧j<(Qad f).length∧(outV f V)[j]?=some x:=by
 have sh:=QeB hw.shaped
 have hp0:=sh.par0
 have hp1:=sh.par1
 have hvars:=hw.vars
 have hi:=Qau hx
 by_cases hp:(i:Int)<fPar f
 ·refine ⟨i,hm.par i hp,hi,?_⟩
  unfold outV
  rw [List.getElem?_append_left (by rw [List.length_take]; omega),List.getElem?_take,if_pos (by omega),hx]
 ·have hmem:(i:Int)∈V:=QBK sh.vn (fPar f) ((Qad f).length - (fPar f).toNat) (fun x hx=>⟨(sh.vg x hx).1,by have:=(sh.vg x hx).2; omega⟩) (by omega) (i:Int) (by omega) (by omega)
  obtain ⟨j,hj⟩:=List.getElem?_of_mem hmem
  have hjl:=Qau hj
  have e:=hm.num j _ hj
  rw [Int.toNat_natCast] at e
  refine ⟨(fPar f).toNat+j,by rw [e]; congr 1; omega,by omega,?_⟩
  unfold outV
  rw [List.getElem?_append_right (by rw [List.length_take]; omega),List.length_take,show (fPar f).toNat+j - min (fPar f).toNat (Qad f).length=j by omega]
  unfold QrS
  rw [List.getElem?_map,hj]
  simp [hx]
theorem QGt (hw:Whole f N V)(hm:Qnw f N V tl nl)(j:Nat)(hj:j<(Qad f).length):∃ i:Nat,i<(Qad f).length∧nl[i]?=some (j:Int):=by
 have sh:=QeB hw.shaped
 have hp0:=sh.par0
 have hp1:=sh.par1
 have hvars:=hw.vars
 by_cases hp:(j:Int)<fPar f
 ·exact ⟨j,hj,hm.par j hp⟩
 ·have hjv:j - (fPar f).toNat<V.length:=by omega
  have hv:V[j - (fPar f).toNat]?=some V[j - (fPar f).toNat]:=List.getElem?_eq_getElem hjv
  have hg:=sh.vg _ (List.mem_of_getElem? hv)
  refine ⟨V[j - (fPar f).toNat].toNat,by omega,?_⟩
  rw [hm.num _ _ hv]
  congr 1
  omega
variable (a:List GVar) (b:List Qae) (N' O':List Int) (c:List Qae) (x1:List UInt8) (x2 x3 x4:Int) (x5:Bool) (x6:List UInt8) (x7 x8:Int) (x9:List GVar) (x10:List Qae) (x11:Int) (x12:Bool) (x13:Int) (x14:Bool) (x15:List UInt8) (x16 x17 x18:Int) (x19:Bool)
theorem QBN (hf:Small f)(hw:Whole f N V)(hm:Qnw f N V tl nl):
  Qch a b N' nl O' (List.replicate (Qad f).length (0,false)) c f x1 x2 x3 x4 x5 x6 x7 x8 x9 x10 x11 x12 x13 x14 x15 x16 x17 x18 x19 0=some (outV f V):=by
 have hvl:=hf.vars
 have hol:=Qx6 f hw
 have key:∀ (k i:Nat) (O:List GVar),i+k=(Qad f).length→O.length=(Qad f).length→(∀ i' j:Nat,i'<i→nl[i']?=some (j:Int)→O[j]?=(outV f V)[j]?)→Qch a b N' nl O' O c f x1 x2 x3 x4 x5 x6 x7 x8 x9 x10 x11 x12 x13 x14 x15 x16 x17 x18 x19 (i:Int)=some (outV f V):=by
  intro k
  induction k with
  | zero=>
   intro i O h hO hinv
   have:i=(Qad f).length:=by omega
   subst this
   rw [QhR,Qap,cond_false]
   congr 1
   apply List.ext_getElem?
   intro j
   by_cases hj:j<(Qad f).length
   ·obtain ⟨i,hi,hn⟩:=QGt f hw hm j hj
    exact hinv i j hi hn
   ·rw [List.getElem?_eq_none (by omega),List.getElem?_eq_none (by omega)]
  | succ k ih=>
   intro i O h hO hinv
   have hx:(Qad f)[i]?=some ((Qad f)[i]'(by omega)):=List.getElem?_eq_getElem (by omega)
   obtain ⟨j,hj1,hj2,hj3⟩:=QGs f hw hm i _ hx
   have hOj:at' O (j:Int)=some (O[j]'(by omega)):=by rw [QjC]; exact List.getElem?_eq_getElem (by omega)
   rw [QhR,Qam hx,cond_true,Qah hj1,Qaa,Qac (by omega),Qah hx,Qaa,hOj,Qaa,Qan hx (by omega),Int.toNat_natCast]
   refine ih (i+1) _ (by omega) (by simp [hO]) (fun i' j' hi' hn=>?_)
   rw [List.getElem?_set]
   by_cases hjj:j=j'
   ·subst hjj
    rw [if_pos rfl,if_pos (by omega),hj3]
   ·rw [if_neg hjj]
    by_cases hii:i'=i
    ·subst hii
     rw [hj1] at hn
     simp only [Option.some.injEq] at hn
     omega
    ·exact hinv i' j' (by omega) hn
 exact key (Qad f).length 0 _ (by omega) (by simp) (fun i' j h=>absurd h (Nat.not_lt_zero _))
theorem QGu (hf:Small f)(ov:List GVar)(hN:N.length≤1000)(hr:∀ x∈N,(0≤x∧x<((Qaj f).length:Int))∧Qnx tl nl (Qdo f x)):∀ (r pre:List Int) (acc:List Qae),N=pre++r→acc.length≤pre.length→
  Qck a b tl nl N ov acc f x1 x2 x3 x4 x5 x6 x7 x8 x9 x10 x11 x12 x13 x14 x15 x16 x17 x18 x19 (pre.length:Int)=some (acc++r.map fun x=>tr tl nl (Qdo f x)):=by
 intro r
 induction r with
 | nil=>
  intro pre acc h ha
  subst h
  rw [Qga,QdD,cond_false]
  simp
 | cons x r ih=>
  intro pre acc h ha
  have hx:N[pre.length]?=some x:=by rw [h,List.getElem?_append_right (Nat.le_refl _)]; simp
  have hpl:N.length=pre.length+(r.length+1):=by rw [h]; simp
  obtain ⟨⟨h0,h1⟩,hin⟩:=hr x (List.mem_of_getElem? hx)
  obtain ⟨w,hw,hw'⟩:=Qc2 (l:=Qaj f) (i:=x) h0 h1
  have hwc:Qdo f x=w:=by unfold Qdo; rw [hw']; rfl
  rw [Qga,Qam hx,cond_true,Qah hx,Qaa,show at' f.2.2.2.2.1 x=some w from hw,Qaa,QDV tl nl w (hwc▸hin),Qaa,Qab (by omega),Qan hx (by omega)]
  have:=ih (pre++[x]) (acc++[tr tl nl w]) (by rw [h]; simp) (by simp; omega)
  simp only [List.length_append,List.length_cons,List.length_nil] at this
  rw [this,List.map_cons,hwc]
  simp
theorem QG7 (hf:Small f)(ov:List GVar)(hN:N.length≤1000)(hr:∀ x∈N,(0≤x∧x<((Qaj f).length:Int))∧Qnx tl nl (Qdo f x)):
  QgY a b tl nl N ov [] f x1 x2 x3 x4 x5 x6 x7 x8 x9 x10 x11 x12 x13 x14 x15 x16 x17 x18 x19 0=some (N.map fun x=>tr tl nl (Qdo f x)):=by
 cases N with
 | nil=>rw [QhU,Qac (by simp)]; rfl
 | cons x r=>
  have hx:(x::r)[0]?=some x:=rfl
  obtain ⟨⟨h0,h1⟩,hin⟩:=hr x (by simp)
  obtain ⟨w,hw,hw'⟩:=Qc2 (l:=Qaj f) (i:=x) h0 h1
  have hwc:Qdo f x=w:=by unfold Qdo; rw [hw']; rfl
  rw [QhU,Qab (by simp),at_0,Qaa,show at' f.2.2.2.2.1 x=some w from hw,Qaa,QDV tl nl w (hwc▸hin),Qaa,Qab (by simp),show Ev.wr .i64 ((0:Int)+1)=((0+1:Nat):Int) from Qan hx (by omega)]
  rw [show Qck a b tl nl (x::r) ov ([]++[tr tl nl w]) f x1 x2 x3 x4 x5 x6 x7 x8 x9 x10 x11 x12 x13 x14 x15 x16 x17 x18 x19 ((0+1:Nat):Int)=_ from QGu f a b x1 x2 x3 x4 x5 x6 x7 x8 x9 x10 x11 x12 x13 x14 x15 x16 x17 x18 x19 hf ov hN hr r [x] _ rfl (by simp),Qaa,List.map_cons,hwc]
  simp
end
theorem Qw3 (f:GFun)(hf:Small f){N V:List Int}(hw:Whole f N V)(hext:fExt f=true→N=[]∧V=[]):∃ x,Qbs f=some (x,0)∧Qc6 f=some (x,0)∧(Qaj x).length≤80∧(Qad x).length≤120∧∀ n∈Qaj x,QaL n:=by
 have hcl:=hf.code
 have hvl:=hf.vars
 have sh:=QeB hw.shaped
 have hp0:=sh.par0
 have hp1:=sh.par1
 have hNl:=hw.nodes
 have hVl:=hw.vars
 obtain ⟨tl,nl,h1,h2⟩:=QBI f hf hw.shaped
 have hmo:=QE8 f hf hw.shaped
 obtain ⟨rfl,rfl⟩:=QDp f hw h2 hmo
 have hNr:∀ x∈N,(0≤x∧x<((Qaj f).length:Int))∧Qnx (NS f N) (VS f V) (Qdo f x):=fun x hx=>by
  have hg:=sh.ng x hx
  obtain ⟨n,hn,hin⟩:=Qvt hf hmo hg
  refine ⟨⟨hg.1,hg.2.1⟩,?_⟩
  unfold Qdo
  rw [hn]
  exact hin
 refine ⟨_,QwZ f hf hw.shaped h1 h2,?_,?_,?_,?_⟩
 ·rw [QqT,Qoi f hf hw.shaped hext,Qaa]
  simp only [cond_false]
  have hcnt:(fPar f+(V.length:Int)).toNat=(Qad f).length:=by omega
  rw [Qac (show ¬ fPar f+(V.length:Int)<0 by omega),hcnt,Qab (by omega)]
  rw [QBN f _ _ _ _ _ _ _ _ _ _ _ _ _ _ _ _ _ _ _ _ _ _ _ _ hf hw hmo,Qaa,QG7 f _ _ _ _ _ _ _ _ _ _ _ _ _ _ _ _ _ _ _ _ _ hf _ (by omega) hNr,Qaa]
  rfl
 ·show (N.map fun x=>tr (NS f N) (VS f V) (Qdo f x)).length≤80
  rw [List.length_map]; omega
 ·have:=Qx6 f hw
  unfold outV at this
  show ((Qad f).take (fPar f).toNat++QrS (Qad f) V).length≤120
  omega
 ·intro n hn
  have hn:n∈N.map fun x=>tr (NS f N) (VS f V) (Qdo f x):=hn
  obtain ⟨x,hx,rfl⟩:=List.mem_map.1 hn
  obtain ⟨⟨h0,h1⟩,hin⟩:=hNr x hx
  have hs:=hin.small
  refine ⟨?_,?_,?_,?_⟩
  ·show (if QbR _=true then _ else _:List Int).length≤12
   have:=hs.args
   split
   ·exact this
   ·rw [List.length_map]; exact this
  ·show (if QbR _=true then _ else _:List Int).length≤12
   have:=hs.more
   split
   ·exact this
   ·rw [List.length_map]; exact this
  ·show (if _ then _ else _:List Qas).length≤20
   have:=hs.br
   split
   ·rw [List.length_map]; exact this
   ·exact this
  ·intro y hy
   have hy:y∈(if nOp (Qdo f x)=9 then (nBr (Qdo f x)).map (trBr (NS f N) (VS f V)) else nBr (Qdo f x)):=hy
   split at hy
   ·obtain ⟨z,hz,rfl⟩:=List.mem_map.1 hy
    have:=hs.bs z hz
    unfold trBr
    rw [List.length_map]
    exact this
   ·exact hs.bs y hy
end Go.Proofs.YtkecfadnfnnfaaaGreatDoor.LabB.V
