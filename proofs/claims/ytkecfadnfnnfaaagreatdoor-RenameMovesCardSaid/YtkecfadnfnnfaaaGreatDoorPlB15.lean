/- A valid function is well-shaped: the check's walk and the visit. -/
import Derived.Test.YtkecfadnfnnfaaaGreatDoorPlB14
set_option linter.unusedVariables false
set_option linter.unusedSimpArgs false
namespace Go.Proofs.YtkecfadnfnnfaaaGreatDoor.LabB.V
open Go Go.Ev Go.Sy Go.Proofs.YtkecfadnfnnfaaaGreatDoor.LabB
def New (a b:List Bool)(i:Nat):Prop:=a[i]?=some false∧b[i]?=some true
theorem QsT {c:Nat}{l:List Bool}{k:Int}(h0:0≤k)(h1:k<(c:Int))(h2:l[k.toNat]?=some false):mark c l k=some (l.set k.toNat true):=by
 unfold mark
 rw [if_pos ⟨h0,h1,h2⟩]
theorem Qnd (l:List Bool)(k i:Nat)(hk:k<l.length):(l.set k true)[i]?=some true↔(l[i]?=some true∨i=k):=by
 rw [List.getElem?_set]
 by_cases h:k=i
 ·subst h
  rw [if_pos rfl,if_pos hk]
  simp
 ·rw [if_neg h]
  constructor
  ·exact Or.inl
  ·rintro (h1 |h1)
   ·exact h1
   ·exact absurd h1.symm h
theorem false_or {l:List Bool}{i:Nat}(h:i<l.length):l[i]?=some false∨l[i]?=some true:=by
 rw [List.getElem?_eq_getElem h]
 cases l[i]<;>simp
theorem not_true {l:List Bool}{i:Nat}(h:i<l.length)(h2:¬ l[i]?=some true):l[i]?=some false:=(false_or h).resolve_right h2
theorem Qos {c:Nat}:∀ (l:List Int) (bo sc:List Bool) (va:List Int),bo.length=c→l.Nodup→(∀ v∈l,0≤v∧v<(c:Int)∧bo[v.toNat]?=some false)→
  ∃ bo',Qd2 c l (bo,sc,va)=some (bo',setS true l sc,va++l)∧bo'.length=c∧∀ i:Nat,bo'[i]?=some true↔(bo[i]?=some true∨∃ v∈l,v.toNat=i)
 | [],bo,sc,va,hb,hn,h=>⟨bo,by simp [Qd2,setS],hb,fun i=>by simp⟩
 | v::l,bo,sc,va,hb,hn,h=>by
  obtain ⟨h0,h1,h2⟩:=h v (by simp)
  obtain ⟨hv,hn'⟩:=List.nodup_cons.1 hn
  have hvl:=Qat h2
  obtain ⟨bo',e1,e2,e3⟩:=Qos (c:=c) l (bo.set v.toNat true) (sc.set v.toNat true) (va++[v]) (by simp [hb]) hn' (fun w hw=>by
   obtain ⟨w0,w1,w2⟩:=h w (by simp [hw])
   refine ⟨w0,w1,?_⟩
   rw [List.getElem?_set,if_neg (toNat_ne h0 w0 (fun h=>hv (h▸hw)))]
   exact w2)
  refine ⟨bo',?_,e2,fun i=>?_⟩
  ·rw [Qd2,QsT h0 h1 h2]
   simp only
   rw [e1]
   simp [setS]
  ·rw [e3 i,Qnd _ _ _ hvl]
   constructor
   ·rintro ((h3 |h3) |⟨w,hw,h3⟩)
    ·exact Or.inl h3
    ·exact Or.inr ⟨v,by simp,h3.symm⟩
    ·exact Or.inr ⟨w,by simp [hw],h3⟩
   ·rintro (h3 |⟨w,hw,h3⟩)
    ·exact Or.inl (Or.inl h3)
    ·rcases List.mem_cons.1 hw with rfl |hw
     ·exact Or.inl (Or.inr h3.symm)
     ·exact Or.inr ⟨w,hw,h3⟩
theorem Qkx (l:List Int)(sc:List Bool):QeI l sc=setS false l sc:=rfl
structure QE0 (f:GFun)(re bo re' bo':List Bool)(s s':S)(K:Nat→Prop)(B:Nat→Prop):Prop where
 sc:s'.sc=s.sc
 wf:V.Wf f s'
 re:∀ i:Nat,s'.re[i]?=some true↔(s.re[i]?=some true∨New re re' i∨K i)
 bo:∀ i:Nat,s'.bo[i]?=some true↔(s.bo[i]?=some true∨New bo bo' i∨B i)
theorem QE1 (p:Qae)(f:GFun)(g:List Bool→List Bool→List Bool→Int→Int⊕(List Bool×List Bool))(h:S→Int→Option S)
  (hk:∀ re bo sc k re' bo',g re bo sc k=.inr (re',bo')→Le re re'∧Le bo bo')
  (hg:∀ re bo sc k re' bo' s,g re bo sc k=.inr (re',bo')→LabB.Wf f re bo sc→0≤k→re[k.toNat]?=some true→V.Wf f s→s.sc=sc→s.re[k.toNat]?=some true→(∀ i,New re re' i→s.re[i]?=some false)→(∀ i,New bo bo' i→s.bo[i]?=some false)→
   ∃ s',h s k=some s'∧QE0 f re bo re' bo' s s' (fun _=>False) (fun _=>False)) (sc:List Bool):
  ∀ (r:List (Int×List Int)) (re bo re' bo':List Bool) (s:S),Qjf g r re bo sc=.inr (re',bo')→LabB.Wf f re bo sc→V.Wf f s→s.sc=sc→
    (r.map (·.1)).Nodup→(r.flatMap (·.2)).Nodup→
    (∀ x∈r,0≤x.1∧x.1<((Qag f).length:Int)∧re[x.1.toNat]?=some true∧s.re[x.1.toNat]?=some false)→
    (∀ x∈r,∀ v∈x.2,0≤v∧v<((Qac f).length:Int)∧bo[v.toNat]?=some true∧s.bo[v.toNat]?=some false∧sc[v.toNat]?≠some true)→
    (∀ i,New re re' i→s.re[i]?=some false)→(∀ i,New bo bo' i→s.bo[i]?=some false)→
    ∃ s',visL f h r s=some s'∧QE0 f re bo re' bo' s s' (fun i=>∃ x∈r,x.1.toNat=i) (fun i=>∃ x∈r,∃ v∈x.2,v.toNat=i):=by
 intro r
 induction r with
 | nil=>
  intro re bo re' bo' s hw _ hws _ _ _ _ _ _ _
  cases hw
  refine ⟨s,rfl,rfl,hws,fun i=>?_,fun i=>?_⟩
  ·constructor
   ·exact Or.inl
   ·rintro (h |⟨h1,h2⟩ |⟨x,hx,_⟩)
    ·exact h
    ·rw [h1] at h2; cases h2
    ·simp at hx
  ·constructor
   ·exact Or.inl
   ·rintro (h |⟨h1,h2⟩ |⟨x,hx,_⟩)
    ·exact h
    ·rw [h1] at h2; cases h2
    ·simp at hx
 | cons x r ih=>
  obtain ⟨k,l⟩:=x
  intro re bo re' bo' s hwalk hwf hws hsc hnk hnb hK hB hD1 hD2
  rw [Qjf] at hwalk
  split at hwalk
  ·cases hwalk
  rename_i re2 bo2 hg1
  obtain ⟨k1,k2⟩:=hk _ _ _ _ _ _ hg1
  have k3:=Qku hk _ _ _ _ _ _ hwalk
  obtain ⟨kk0,kk1,kk2,kk3⟩:=hK (k,l) (by simp)
  have hBl:=hB (k,l) (by simp)
  rw [List.map_cons,List.nodup_cons] at hnk
  rw [List.flatMap_cons,List.nodup_append] at hnb
  obtain ⟨hnl,hnr,hdis⟩:=hnb
  obtain ⟨bo1,e1,e2,e3⟩:=Qos l s.bo s.sc s.va hws.bo hnl (fun v hv=>⟨(hBl v hv).1,(hBl v hv).2.1,(hBl v hv).2.2.2.1⟩)
  have hkl:=Qat kk3
  have hw1:V.Wf f ⟨s.nodes,setS true l s.sc,s.re.set k.toNat true,bo1,s.va++l⟩:=⟨by simp [hws.re],e2,by rw [QiE]; exact hws.sc⟩
  have hwf1:LabB.Wf f re bo (setS true l sc):=⟨hwf.hre,hwf.hbo,by rw [QiE]; exact hwf.hsc,fun i hi=>by
   rw [Qhc] at hi
   split at hi
   ·rename_i h3
    obtain ⟨⟨v,hv,rfl⟩,_⟩:=h3
    exact (hBl v hv).2.2.1
   ·exact hwf.sub i hi⟩
  obtain ⟨s2,v1,v2⟩:=hg re bo (setS true l sc) k re2 bo2 ⟨s.nodes,setS true l s.sc,s.re.set k.toNat true,bo1,s.va++l⟩ hg1 hwf1 kk0 kk2 hw1 (by simp only [hsc]) (by simp only; rw [Qnd _ _ _ hkl]; exact Or.inr rfl)
   (fun i hi=>by
    have hs:=hD1 i ⟨hi.1,k3.1.2 i hi.2⟩
    simp only
    refine not_true (by simpa using Qat hs) (fun h3=>?_)
    rw [Qnd _ _ _ hkl] at h3
    rcases h3 with h3 |h3
    ·rw [hs] at h3; cases h3
    ·subst h3; rw [hi.1] at kk2; cases kk2)
   (fun i hi=>by
    have hs:=hD2 i ⟨hi.1,k3.2.2 i hi.2⟩
    simp only
    refine not_true (by rw [e2,← hws.bo]; exact Qat hs) (fun h3=>?_)
    rw [e3] at h3
    rcases h3 with h3 |⟨v,hv,h3⟩
    ·rw [hs] at h3; cases h3
    ·subst h3
     have:=(hBl v hv).2.2.1
     rw [hi.1] at this; cases this)
  have hre2:∀ i:Nat,s2.re[i]?=some true↔(s.re[i]?=some true∨i=k.toNat∨New re re2 i):=fun i=>by
   rw [v2.re i]
   simp only
   rw [Qnd _ _ _ hkl]
   constructor
   ·rintro ((h3 |h3) |h3 |h3)
    ·exact Or.inl h3
    ·exact Or.inr (Or.inl h3)
    ·exact Or.inr (Or.inr h3)
    ·exact absurd h3 id
   ·rintro (h3 |h3 |h3)
    ·exact Or.inl (Or.inl h3)
    ·exact Or.inl (Or.inr h3)
    ·exact Or.inr (Or.inl h3)
  have hbo2:∀ i:Nat,s2.bo[i]?=some true↔(s.bo[i]?=some true∨(∃ v∈l,v.toNat=i)∨New bo bo2 i):=fun i=>by
   rw [v2.bo i]
   simp only
   rw [e3]
   constructor
   ·rintro ((h3 |h3) |h3 |h3)
    ·exact Or.inl h3
    ·exact Or.inr (Or.inl h3)
    ·exact Or.inr (Or.inr h3)
    ·exact absurd h3 id
   ·rintro (h3 |h3 |h3)
    ·exact Or.inl (Or.inl h3)
    ·exact Or.inl (Or.inr h3)
    ·exact Or.inr (Or.inl h3)
  have hs3:QeI l s2.sc=sc:=by
   rw [Qkx,v2.sc]
   show setS false l (setS true l s.sc)=sc
   rw [hsc]
   exact Qmt l sc (fun v hv=>(hBl v hv).2.2.2.2)
  have hw3:V.Wf f ⟨s2.nodes,QeI l s2.sc,s2.re,s2.bo,s2.va⟩:=⟨v2.wf.re,v2.wf.bo,by rw [Qkx,QiE]; exact v2.wf.sc⟩
  obtain ⟨s',w1,w2⟩:=ih re2 bo2 re' bo' ⟨s2.nodes,QeI l s2.sc,s2.re,s2.bo,s2.va⟩ hwalk
   ⟨by rw [← k1.1]; exact hwf.hre,by rw [← k2.1]; exact hwf.hbo,hwf.hsc,fun i hi=>k2.2 i (hwf.sub i hi)⟩ hw3 hs3 hnk.2 hnr
   (fun x hx=>by
    obtain ⟨a0,a1,a2,a3⟩:=hK x (by simp [hx])
    refine ⟨a0,a1,k1.2 _ a2,not_true (by rw [v2.wf.re,← hws.re]; exact Qat a3) (fun h3=>?_)⟩
    rw [hre2] at h3
    rcases h3 with h3 |h3 |h3
    ·rw [a3] at h3; cases h3
    ·exact hnk.1 (List.mem_map.2 ⟨x,hx,by omega⟩)
    ·have:=h3.1; rw [a2] at this; cases this)
   (fun x hx v hv=>by
    obtain ⟨a0,a1,a2,a3,a4⟩:=hB x (by simp [hx]) v hv
    refine ⟨a0,a1,k2.2 _ a2,not_true (by rw [v2.wf.bo,← hws.bo]; exact Qat a3) (fun h3=>?_),a4⟩
    rw [hbo2] at h3
    rcases h3 with h3 |⟨w,hw,h3⟩ |h3
    ·rw [a3] at h3; cases h3
    ·have:=(hBl w hw).1
     have:w=v:=by omega
     subst this
     exact hdis w hw w (List.mem_flatMap.2 ⟨x,hx,hv⟩) rfl
    ·have:=h3.1; rw [a2] at this; cases this)
   (fun i hi=>by
    have hr:re[i]?=some false:=not_true (by rw [k1.1]; exact Qat hi.1) (fun h3=>by have:=k1.2 i h3; rw [hi.1] at this; cases this)
    have hs:=hD1 i ⟨hr,hi.2⟩
    refine not_true (by rw [v2.wf.re,← hws.re]; exact Qat hs) (fun h3=>?_)
    rw [hre2] at h3
    rcases h3 with h3 |h3 |h3
    ·rw [hs] at h3; cases h3
    ·subst h3; rw [kk3] at hs; rw [hr] at kk2; cases kk2
    ·have:=h3.2; rw [hi.1] at this; cases this)
   (fun i hi=>by
    have hr:bo[i]?=some false:=not_true (by rw [k2.1]; exact Qat hi.1) (fun h3=>by have:=k2.2 i h3; rw [hi.1] at this; cases this)
    have hs:=hD2 i ⟨hr,hi.2⟩
    refine not_true (by rw [v2.wf.bo,← hws.bo]; exact Qat hs) (fun h3=>?_)
    rw [hbo2] at h3
    rcases h3 with h3 |⟨w,hw,h3⟩ |h3
    ·rw [hs] at h3; cases h3
    ·subst h3; have:=(hBl w hw).2.2.1; rw [hr] at this; cases this
    ·have:=h3.2; rw [hi.1] at this; cases this)
  refine ⟨s',?_,?_⟩
  ·rw [visL,QsT kk0 kk1 kk3]
   simp only
   rw [e1]
   simp only
   rw [v1]
   exact w1
  ·refine ⟨by rw [w2.sc,hs3,hsc],w2.wf,fun i=>?_,fun i=>?_⟩
   ·rw [w2.re i]
    simp only
    rw [hre2]
    constructor
    ·rintro ((h3 |h3 |h3) |h3 |⟨x,hx,h3⟩)
     ·exact Or.inl h3
     ·exact Or.inr (Or.inr ⟨(k,l),by simp,h3.symm⟩)
     ·exact Or.inr (Or.inl ⟨h3.1,k3.1.2 i h3.2⟩)
     ·exact Or.inr (Or.inl ⟨not_true (by rw [k1.1]; exact Qat h3.1) (fun h4=>by have:=k1.2 i h4; rw [h3.1] at this; cases this),h3.2⟩)
     ·exact Or.inr (Or.inr ⟨x,by simp [hx],h3⟩)
    ·rintro (h3 |h3 |⟨x,hx,h3⟩)
     ·exact Or.inl (Or.inl h3)
     ·by_cases h4:re2[i]?=some true
      ·exact Or.inl (Or.inr (Or.inr ⟨h3.1,h4⟩))
      ·exact Or.inr (Or.inl ⟨not_true (by rw [← k1.1]; exact Qat h3.1) h4,h3.2⟩)
     ·rcases List.mem_cons.1 hx with rfl |hx
      ·exact Or.inl (Or.inr (Or.inl h3.symm))
      ·exact Or.inr (Or.inr ⟨x,hx,h3⟩)
   ·rw [w2.bo i]
    simp only
    rw [hbo2]
    constructor
    ·rintro ((h3 |h3 |h3) |h3 |⟨x,hx,h3⟩)
     ·exact Or.inl h3
     ·exact Or.inr (Or.inr ⟨(k,l),by simp,h3⟩)
     ·exact Or.inr (Or.inl ⟨h3.1,k3.2.2 i h3.2⟩)
     ·exact Or.inr (Or.inl ⟨not_true (by rw [k2.1]; exact Qat h3.1) (fun h4=>by have:=k2.2 i h4; rw [h3.1] at this; cases this),h3.2⟩)
     ·exact Or.inr (Or.inr ⟨x,by simp [hx],h3⟩)
    ·rintro (h3 |h3 |⟨x,hx,h3⟩)
     ·exact Or.inl (Or.inl h3)
     ·by_cases h4:bo2[i]?=some true
      ·exact Or.inl (Or.inr (Or.inr ⟨h3.1,h4⟩))
      ·exact Or.inr (Or.inl ⟨not_true (by rw [← k2.1]; exact Qat h3.1) h4,h3.2⟩)
     ·rcases List.mem_cons.1 hx with rfl |hx
      ·exact Or.inl (Or.inr (Or.inl h3))
      ·exact Or.inr (Or.inr ⟨x,hx,h3⟩)
theorem Qls:∀ (l:List Int) (re re':List Bool),Qlr re l=.inr re'→l.Nodup∧∀ i:Nat,re'[i]?=some true↔(re[i]?=some true∨∃ k∈l,k.toNat=i)
 | [],re,re',h=>by cases h; exact ⟨List.nodup_nil,fun i=>by simp⟩
 | k::l,re,re',h=>by
  have hall:=(QiF _ _ _ h).2.2
  rw [Qlr] at h
  split at h
  ·rename_i hk
   obtain ⟨h1,h2⟩:=Qls l _ _ h
   have h3:=(QiF _ _ _ h).2.2
   refine ⟨List.nodup_cons.2 ⟨fun hm=>?_,h1⟩,fun i=>?_⟩
   ·have:=(h3 k hm).2.1
    rw [List.getElem?_set_self (Qat hk.2)] at this
    cases this
   ·rw [h2 i,Qnd _ _ _ (Qat hk.2)]
    constructor
    ·rintro ((h4 |h4) |⟨w,hw,h4⟩)
     ·exact Or.inl h4
     ·exact Or.inr ⟨k,by simp,h4.symm⟩
     ·exact Or.inr ⟨w,by simp [hw],h4⟩
    ·rintro (h4 |⟨w,hw,h4⟩)
     ·exact Or.inl (Or.inl h4)
     ·rcases List.mem_cons.1 hw with rfl |hw
      ·exact Or.inl (Or.inr h4.symm)
      ·exact Or.inr ⟨w,hw,h4⟩
  ·cases h
theorem Qqg:∀ (l:List Int) (bo bo':List Bool),(∀ v∈l,0≤v)→Qje bo l=.inr bo'→l.Nodup∧∀ i:Nat,bo'[i]?=some true↔(bo[i]?=some true∨∃ v∈l,v.toNat=i)
 | [],bo,bo',hp,h=>by cases h; exact ⟨List.nodup_nil,fun i=>by simp⟩
 | k::l,bo,bo',hp,h=>by
  rw [Qje] at h
  split at h
  ·rename_i hk
   obtain ⟨h1,h2⟩:=Qqg l _ _ (fun v hv=>hp v (by simp [hv])) h
   have h3:=(Qms _ _ _ h).2
   refine ⟨List.nodup_cons.2 ⟨fun hm=>?_,h1⟩,fun i=>?_⟩
   ·have:=(h3 k hm).1
    rw [List.getElem?_set_self (Qat hk)] at this
    cases this
   ·rw [h2 i,Qnd _ _ _ (Qat hk)]
    constructor
    ·rintro ((h4 |h4) |⟨w,hw,h4⟩)
     ·exact Or.inl h4
     ·exact Or.inr ⟨k,by simp,h4.symm⟩
     ·exact Or.inr ⟨w,by simp [hw],h4⟩
    ·rintro (h4 |⟨w,hw,h4⟩)
     ·exact Or.inl (Or.inl h4)
     ·rcases List.mem_cons.1 hw with rfl |hw
      ·exact Or.inl (Or.inr h4.symm)
      ·exact Or.inr ⟨w,hw,h4⟩
  ·cases h
theorem QvX (n:Qab):(kb n).flatMap (·.2)=binds n:=by
 unfold kb
 split
 ·rename_i h
  unfold binds
  rw [if_pos h,List.flatMap_map]
 ·rename_i h9
  unfold kids binds
  rw [if_neg h9,if_neg h9]
  by_cases hn:QbY (nOp n)=true
  ·rw [if_pos hn]
   simp
  ·rw [if_neg hn,if_neg]
   ·rfl
   ·intro hb
    apply hn
    unfold QaS at hb
    unfold QbY
    rw [decide_eq_true_eq] at hb ⊢
    omega
theorem QDN (p:Qae)(f:GFun):∀ (d:Nat) (re bo sc:List Bool) (k:Int) (re' bo':List Bool) (s:S),walk p f d re bo sc k=.inr (re',bo')→LabB.Wf f re bo sc→0≤k→re[k.toNat]?=some true→V.Wf f s→s.sc=sc→s.re[k.toNat]?=some true→(∀ i,New re re' i→s.re[i]?=some false)→(∀ i,New bo bo' i→s.bo[i]?=some false)→
  ∃ s',vis f d s k=some s'∧QE0 f re bo re' bo' s s' (fun _=>False) (fun _=>False)
 | 0,re,bo,sc,k,re',bo',s,h,_,_,_,_,_,_,_,_=>by cases h
 | d+1,re,bo,sc,k,re',bo',s,h,hwf,hk0,hkr,hws,hsc,hsk,hD1,hD2=>by
  rw [walk] at h
  split at h
  ·cases h
  rename_i n hn
  split at h
  ·cases h
  rename_i bo1 ha
  split at h
  ·cases h
  rename_i re1 hm
  obtain ⟨_,hu,hbr,_,hmr,_,_⟩:=QhZ ha
  obtain ⟨m1,m2⟩:=Qms _ _ _ hmr
  obtain ⟨m3,m4,m5⟩:=QiF _ _ _ hm
  obtain ⟨q1,q2⟩:=Qls _ _ _ hm
  obtain ⟨q3,q4⟩:=Qqg _ _ _ (fun v hv=>(hbr v hv).1) hmr
  have hkept:=Qku (Qfs p f d) _ _ _ _ _ _ h
  have hmemk:∀ x∈kb n,x.1∈kids n:=fun x hx=>by rw [QbW]; exact List.mem_map.2 ⟨x,hx,rfl⟩
  have hmemb:∀ x∈kb n,∀ v∈x.2,v∈binds n:=fun x hx v hv=>by rw [← QvX]; exact List.mem_flatMap.2 ⟨x,hx,hv⟩
  obtain ⟨s',e1,e2⟩:=QE1 p f (walk p f d) (vis f d) (Qfs p f d) (fun re bo sc k re' bo' s h1 h2 h3 h4 h5 h6 h7 h8 h9=>QDN p f d re bo sc k re' bo' s h1 h2 h3 h4 h5 h6 h7 h8 h9) sc (kb n) re1 bo1 re' bo' ⟨s.nodes++[k],s.sc,s.re,s.bo,s.va⟩ h
   ⟨by rw [← m3.1]; exact hwf.hre,by rw [← m1.1]; exact hwf.hbo,hwf.hsc,fun i hi=>m1.2 i (hwf.sub i hi)⟩ ⟨hws.re,hws.bo,hws.sc⟩ hsc
   (by rw [← QbW]; exact q1) (by rw [QvX]; exact q3)
   (fun x hx=>by
    obtain ⟨a1,a2,a3⟩:=m5 x.1 (hmemk x hx)
    have:=Qat a2
    rw [hwf.hre] at this
    exact ⟨a1,by omega,a3,hD1 _ ⟨a2,hkept.1.2 _ a3⟩⟩)
   (fun x hx v hv=>by
    have hvb:=hmemb x hx v hv
    obtain ⟨a1,a2⟩:=hbr v hvb
    obtain ⟨a3,a4⟩:=m2 v hvb
    refine ⟨a1,a2,a4,hD2 _ ⟨a3,hkept.2.2 _ a4⟩,fun h3=>?_⟩
    have:=hwf.sub _ h3
    rw [a3] at this; cases this)
   (fun i hi=>by
    have hr:re[i]?=some false:=not_true (by rw [m3.1]; exact Qat hi.1) (fun h3=>by have:=m3.2 i h3; rw [hi.1] at this; cases this)
    exact hD1 i ⟨hr,hi.2⟩)
   (fun i hi=>by
    have hr:bo[i]?=some false:=not_true (by rw [m1.1]; exact Qat hi.1) (fun h3=>by have:=m1.2 i h3; rw [hi.1] at this; cases this)
    exact hD2 i ⟨hr,hi.2⟩)
  refine ⟨s',?_,e2.sc,e2.wf,fun i=>?_,fun i=>?_⟩
  ·rw [vis,hn]
   simp only
   have huo:V.Qd0 (Qac f).length s.sc (uses n)=true:=by
    unfold V.Qd0
    unfold LabB.Qd0 at hu
    rw [List.all_eq_true] at hu ⊢
    intro v hv
    have:=hu v hv
    rw [decide_eq_true_eq] at this ⊢
    have hl:=Qat this.2
    rw [hsc]
    rw [hwf.hsc] at hl
    exact ⟨this.1,by omega,this.2⟩
   rw [if_pos huo]
   exact e1
  ·rw [e2.re i]
   simp only
   constructor
   ·rintro (h3 |h3 |⟨x,hx,h3⟩)
    ·exact Or.inl h3
    ·exact Or.inr (Or.inl ⟨not_true (by rw [m3.1]; exact Qat h3.1) (fun h4=>by have:=m3.2 i h4; rw [h3.1] at this; cases this),h3.2⟩)
    ·obtain ⟨a1,a2,a3⟩:=m5 x.1 (hmemk x hx)
     rw [h3] at a2 a3
     exact Or.inr (Or.inl ⟨a2,hkept.1.2 _ a3⟩)
   ·rintro (h3 |h3 |h3)
    ·exact Or.inl h3
    ·by_cases h4:re1[i]?=some true
     ·rcases (q2 i).1 h4 with h5 |⟨w,hw,h5⟩
      ·rw [h3.1] at h5; cases h5
      ·rw [QbW] at hw
       obtain ⟨x,hx,hxw⟩:=List.mem_map.1 hw
       exact Or.inr (Or.inr ⟨x,hx,by rw [hxw]; exact h5⟩)
     ·exact Or.inr (Or.inl ⟨not_true (by rw [← m3.1]; exact Qat h3.1) h4,h3.2⟩)
    ·exact absurd h3 id
  ·rw [e2.bo i]
   simp only
   constructor
   ·rintro (h3 |h3 |⟨x,hx,v,hv,h3⟩)
    ·exact Or.inl h3
    ·exact Or.inr (Or.inl ⟨not_true (by rw [m1.1]; exact Qat h3.1) (fun h4=>by have:=m1.2 i h4; rw [h3.1] at this; cases this),h3.2⟩)
    ·obtain ⟨a3,a4⟩:=m2 v (hmemb x hx v hv)
     rw [h3] at a3 a4
     exact Or.inr (Or.inl ⟨a3,hkept.2.2 _ a4⟩)
   ·rintro (h3 |h3 |h3)
    ·exact Or.inl h3
    ·by_cases h4:bo1[i]?=some true
     ·rcases (q4 i).1 h4 with h5 |⟨w,hw,h5⟩
      ·rw [h3.1] at h5; cases h5
      ·rw [← QvX] at hw
       obtain ⟨x,hx,hxw⟩:=List.mem_flatMap.1 hw
       exact Or.inr (Or.inr ⟨x,hx,w,hxw,h5⟩)
     ·exact Or.inr (Or.inl ⟨not_true (by rw [← m1.1]; exact Qat h3.1) h4,h3.2⟩)
    ·exact absurd h3 id
theorem QyF {p:Qae}{f:GFun}{sc bo:List Bool}{n:Qab}{e:Int}(h:Qj6 p f sc bo n=.inl e):e≠0:=by
 unfold Qj6 at h
 split at h
 ·cases h; decide
 split at h
 ·cases h; decide
 split at h
 ·cases h; decide
 split at h
 ·cases h; decide
 split at h
 ·cases h; decide
 split at h
 ·cases h; decide
 split at h
 ·cases h; decide
 cases h
theorem Quo {g:List Bool→List Bool→List Bool→Int→Int⊕(List Bool×List Bool)}(hg:∀ re bo sc k e,g re bo sc k=.inl e→e≠0):∀ (r:List (Int×List Int)) (re bo sc:List Bool) (e:Int),Qjf g r re bo sc=.inl e→e≠0
 | [],re,bo,sc,e,h=>by cases h
 | (k,l)::r,re,bo,sc,e,h=>by
  rw [Qjf] at h
  split at h
  ·rename_i e2 h2; cases h; exact hg _ _ _ _ _ h2
  ·exact Quo hg r _ _ _ _ h
theorem Qot (p:Qae)(f:GFun):∀ (d:Nat) (re bo sc:List Bool) (k e:Int),walk p f d re bo sc k=.inl e→e≠0
 | 0,re,bo,sc,k,e,h=>by cases h; decide
 | d+1,re,bo,sc,k,e,h=>by
  rw [walk] at h
  split at h
  ·cases h; decide
  ·split at h
   ·rename_i e2 h2; cases h; exact QyF h2
   ·split at h
    ·cases h; decide
    ·exact Quo (Qot p f d) _ _ _ _ _ h
theorem ph:∀ (m:Nat) (l:List Nat),l.Nodup→(∀ x∈l,x<m)→l.length≤m
 | 0,l,hn,h=>by
  cases l with
  | nil=>simp
  | cons x l=>exact absurd (h x (by simp)) (Nat.not_lt_zero _)
 | m+1,l,hn,h=>by
  have h1:=ph m (l.erase m) (hn.erase m) (fun x hx=>by
   have:=h x (List.mem_of_mem_erase hx)
   have:x≠m:=fun e=>by
    subst e
    exact (List.Nodup.mem_erase_iff hn).1 hx |>.1 rfl
   omega)
  have h2:l.length≤(l.erase m).length+1:=by
   rw [List.length_erase]
   split<;>omega
  omega
theorem QDO {m:Nat}{l:List Nat}(hn:l.Nodup)(h:∀ x∈l,x<m)(hl:l.length=m)(x:Nat)(hx:x<m):x∈l:=by
 by_cases hm:x∈l
 ·exact hm
 ·have:=ph m (x::l) (List.nodup_cons.2 ⟨hm,hn⟩) (fun y hy=>by
   rcases List.mem_cons.1 hy with rfl |hy
   ·exact hx
   ·exact h y hy)
  rw [List.length_cons] at this
  omega
theorem Qqh {l:List Int}(hn:l.Nodup)(a:Int)(h:∀ x∈l,a≤x):(l.map fun x=>(x - a).toNat).Nodup:=by
 induction l with
 | nil=>exact List.nodup_nil
 | cons x l ih=>
  obtain ⟨h1,h2⟩:=List.nodup_cons.1 hn
  rw [List.map_cons,List.nodup_cons]
  refine ⟨fun hm=>?_,ih h2 (fun y hy=>h y (by simp [hy]))⟩
  obtain ⟨y,hy,he⟩:=List.mem_map.1 hm
  have:=h x (by simp)
  have:=h y (by simp [hy])
  have:x=y:=by omega
  exact h1 (this▸hy)
theorem QDP {l:List Int}(hn:l.Nodup)(a:Int)(m:Nat)(h:∀ x∈l,a≤x∧x<a+(m:Int))(hl:l.length=m)(x:Int)(h0:a≤x)(h1:x<a+(m:Int)):x∈l:=by
 have:=QDO (m:=m) (l:=l.map fun x=>(x - a).toNat) (Qqh hn a (fun x hx=>(h x hx).1)) (fun y hy=>by
  obtain ⟨z,hz,rfl⟩:=List.mem_map.1 hy
  have:=h z hz
  omega) (by rw [List.length_map]; exact hl) (x - a).toNat (by omega)
 obtain ⟨z,hz,he⟩:=List.mem_map.1 this
 have:=(h z hz).1
 have:z=x:=by omega
 exact this▸hz
theorem QBo:∀ l:List Bool,l.all id=true→cf l=0
 | [],h=>rfl
 | true::l,h=>QBo l (by simpa using h)
 | false::l,h=>by simp at h
theorem all_true {l:List Bool}(h:l.all id=true){i:Nat}(hi:i<l.length):l[i]?=some true:=by
 rw [List.getElem?_eq_getElem hi]
 have:=List.all_eq_true.1 h l[i] (List.getElem_mem hi)
 simpa using this
theorem QBp {l:List Bool}(h:∀ i,i<l.length→l[i]?=some true):l.all id=true:=by
 rw [List.all_eq_true]
 intro x hx
 obtain ⟨i,hi⟩:=List.getElem?_of_mem hx
 have:=h i (Qat hi)
 rw [hi] at this
 simpa using this
structure Whole (f:GFun)(N V:List Int):Prop where
 shaped:Qc4 f=some (N,V)
 nodes:N.length=(Qag f).length
 vars:(fPar f).toNat+V.length=(Qac f).length
theorem QvY (p:Qae)(k:Nat)(f:GFun)(h:chkF p k f=0):∃ N V,Whole f N V:=by
 unfold chkF at h
 split at h
 ·rename_i h1; exact absurd h h1
 rename_i hh
 have hh:hdr p k f=0:=by simpa using hh
 obtain ⟨ho,hbody,hext,_⟩:=Qrv hh
 obtain ⟨hp0,hp1⟩:=ho.par
 split at h
 ·rename_i he
  obtain ⟨h1,h2⟩:=hext he
  refine ⟨[],[],?_,by rw [h1]; rfl,by simp; omega⟩
  unfold Qc4
  rw [if_neg (by omega),if_pos he]
 ·rename_i he
  have he:fExt f=false:=by simpa using he
  obtain ⟨hb0,hb1⟩:=hbody he
  have hbn:(QaM f).toNat<(Qag f).length:=by omega
  have hpn:(fPar f).toNat≤(Qac f).length:=by omega
  split at h
  ·rename_i e hw
   exact absurd h (by
    have:=Qot p f _ _ _ _ _ _ hw
    exact this)
  ·rename_i re bo hw
   split at h
   ·cases h
   rename_i hre
   split at h
   ·cases h
   rename_i hbo
   have hre:re.all id=true:=by simpa using hre
   have hbo:bo.all id=true:=by simpa using hbo
   have hf0:(List.replicate (Qag f).length false)[(QaM f).toNat]?=some false:=by rw [List.getElem?_replicate,if_pos hbn]
   have hws:V.Wf f ⟨[],ini (fPar f).toNat (Qac f).length,(List.replicate (Qag f).length false).set (QaM f).toNat true,ini (fPar f).toNat (Qac f).length,[]⟩:=⟨by simp,Qc3 hpn,Qc3 hpn⟩
   obtain ⟨s',e1,e2⟩:=QDN p f _ _ _ _ _ _ _ ⟨[],ini (fPar f).toNat (Qac f).length,(List.replicate (Qag f).length false).set (QaM f).toNat true,ini (fPar f).toNat (Qac f).length,[]⟩ hw ⟨by simp,Qdz _ _ hpn,Qdz _ _ hpn,fun i h=>h⟩ hb0 (by rw [List.getElem?_set_self (by simpa using hbn)]) hws rfl (by rw [List.getElem?_set_self (by simpa using hbn)]) (fun i hi=>hi.1) (fun i hi=>hi.1)
   have K:=Qkv f _ _ _ _ hws e1
   obtain ⟨k1,k2⟩:=Qfs p f _ _ _ _ _ _ _ hw
   have hc1:cf s'.re=0:=QBo _ (QBp fun i hi=>by
    rw [e2.re i]
    by_cases h3:((List.replicate (Qag f).length false).set (QaM f).toNat true)[i]?=some true
    ·exact Or.inl h3
    ·refine Or.inr (Or.inl ⟨not_true ?_ h3,all_true hre ?_⟩)
     ·rw [e2.wf.re] at hi; simpa using hi
     ·rw [e2.wf.re] at hi; rw [← k1.1]; simpa using hi)
   have hc2:cf s'.bo=0:=QBo _ (QBp fun i hi=>by
    rw [e2.bo i]
    by_cases h3:(parS (Qac f).length (fPar f).toNat)[i]?=some true
    ·exact Or.inl h3
    ·refine Or.inr (Or.inl ⟨not_true ?_ h3,all_true hbo ?_⟩)
     ·rw [e2.wf.bo] at hi; rw [Qdz _ _ hpn]; exact hi
     ·rw [e2.wf.bo] at hi; rw [← k2.1,Qdz _ _ hpn]; exact hi)
   have hcs:=Qhb (List.replicate (Qag f).length false) (QaM f).toNat hf0
   rw [Qrw] at hcs
   have hci:=QBl (fPar f).toNat (Qac f).length
   have K1:=K.nodes
   have K2:=K.vars
   simp only [List.length_nil] at K1 K2
   refine ⟨s'.nodes,s'.va,?_,by omega,by omega⟩
   unfold Qc4
   rw [if_neg (by omega),if_neg (by rw [he]; simp),QsT hb0 hb1 hf0]
   simp only
   rw [e1]
end Go.Proofs.YtkecfadnfnnfaaaGreatDoor.LabB.V
