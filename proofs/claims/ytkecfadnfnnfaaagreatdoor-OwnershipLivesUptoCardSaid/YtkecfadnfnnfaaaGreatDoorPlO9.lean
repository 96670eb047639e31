/- Of the models of the ownership statements: what is used below a node, and what is live. -/
import Derived.Test.YtkecfadnfnnfaaaGreatDoorPlO7
set_option linter.unusedVariables false
set_option linter.unusedSimpArgs false
namespace Go.Proofs.YtkecfadnfnnfaaaGreatDoor.LabB.O
open Go Go.Ev Go.Sy Go.Proofs.YtkecfadnfnnfaaaGreatDoor.LabB
theorem QvY:∀ (l:List Int) (re re':List Bool),QmA re l=.inr re'→∀ i:Nat,re'[i]?=some true→(re[i]?=some true∨∃ k∈l,k.toNat=i)
 | [],re,re',h=>by cases h; exact fun i hi=>Or.inl hi
 | k::l,re,re',h=>by
  rw [QmA] at h
  split at h
  ·intro i hi
   rcases QvY l _ _ h i hi with h1 |⟨x,hx,h1⟩
   ·rw [List.getElem?_set] at h1
    split at h1
    ·rename_i h2; exact Or.inr ⟨k,by simp,h2⟩
    ·exact Or.inl h1
   ·exact Or.inr ⟨x,by simp [hx],h1⟩
  ·cases h
def sz (f:GFun):Nat→Int→Nat
 | 0,_=>0
 | d+1,k=>match (Qap f)[k.toNat]? with
  | none=>0
  | some n=>1+((kids n).map (sz f d)).sum
def In (f:GFun):Nat→Int→Int→Prop
 | 0,_,_=>False
 | d+1,k,i=>k=i∨∃ n,(Qap f)[k.toNat]?=some n∧∃ x∈kb n,In f d x.1 i
theorem QFC (p:Qae)(f:GFun):∀ (d:Nat) (re bo sc:List Bool) (k:Int) (re' bo':List Bool),walk p f d re bo sc k=.inr (re',bo')→sz f d k+cf re'=1+cf re∧∀ i:Int,0≤i→re'[i.toNat]?=some true→(re[i.toNat]?=some true∨In f d k i):=by
 intro d
 induction d with
 | zero=>intro re bo sc k re' bo' h; cases h
 | succ d ih=>
  intro re bo sc k re' bo' h
  unfold walk at h
  cases hn:(Qap f)[k.toNat]? with
  | none=>rw [hn] at h; cases h
  | some n=>
   rw [hn] at h
   simp only at h
   cases ha:Qjd p f sc bo n with
   | inl e=>rw [ha] at h; cases h
   | inr bo1=>
    rw [ha] at h
    simp only at h
    cases hm:QmA re (kids n) with
    | inl e=>rw [hm] at h; cases h
    | inr re1=>
     rw [hm] at h
     simp only at h
     obtain ⟨m1,m2,m3⟩:=QlK _ _ _ hm
     have hall:∀ (r:List (Int×List Int)) (re bo:List Bool),QjP (walk p f d) r re bo sc=.inr (re',bo')→(r.map fun x=>sz f d x.1).sum+cf re'=r.length+cf re∧(r≠[]→0<d)∧∀ i:Int,0≤i→re'[i.toNat]?=some true→(re[i.toNat]?=some true∨∃ x∈r,In f d x.1 i):=by
      intro r
      induction r with
      | nil=>
       intro re bo hq
       simp only [QjP,Sum.inr.injEq,Prod.mk.injEq] at hq
       obtain ⟨rfl,rfl⟩:=hq
       exact ⟨by simp,fun h=>absurd rfl h,fun i _ hi=>Or.inl hi⟩
      | cons y r ihr=>
       intro re bo hq
       obtain ⟨k1,l1⟩:=y
       simp only [QjP] at hq
       cases hg:walk p f d re bo (setS true l1 sc) k1 with
       | inl e=>rw [hg] at hq; cases hq
       | inr s=>
        obtain ⟨re2,bo2⟩:=s
        rw [hg] at hq
        simp only at hq
        obtain ⟨a1,a2⟩:=ih _ _ _ _ _ _ hg
        obtain ⟨b1,b2,b3⟩:=ihr _ _ hq
        refine ⟨?_,fun _=>?_,fun i h0 hi=>?_⟩
        ·simp only [List.map_cons,List.sum_cons,List.length_cons]; omega
        ·cases d with
         | zero=>cases hg
         | succ d=>omega
        ·rcases b3 i h0 hi with h1 |⟨x,hx,h1⟩
         ·rcases a2 i h0 h1 with h2 |h2
          ·exact Or.inl h2
          ·exact Or.inr ⟨(k1,l1),by simp,h2⟩
         ·exact Or.inr ⟨x,by simp [hx],h1⟩
     obtain ⟨c1,c2,c3⟩:=hall (kb n) re1 bo1 h
     refine ⟨?_,fun i h0 hi=>?_⟩
     ·rw [sz,hn]
      simp only
      have e:(kids n).map (sz f d)=(kb n).map fun x=>sz f d x.1:=by rw [QaU,List.map_map]; rfl
      have e2:(kids n).length=(kb n).length:=by rw [QaU,List.length_map]
      rw [e]
      omega
     ·rcases c3 i h0 hi with h1 |⟨x,hx,h1⟩
      ·rcases QvY _ _ _ hm _ h1 with h2 |⟨q,hq,h2⟩
       ·exact Or.inl h2
       ·have hq0:=(m3 q hq).1
        rw [QaU] at hq
        obtain ⟨x,hx,rfl⟩:=List.mem_map.1 hq
        have hd:=c2 (fun h=>by rw [h] at hx; cases hx)
        refine Or.inr (Or.inr ⟨n,hn,x,hx,?_⟩)
        cases d with
        | zero=>omega
        | succ d=>exact Or.inl (by omega)
      ·exact Or.inr (Or.inr ⟨n,hn,x,hx,h1⟩)
theorem QFD (p:Qae)(k:Nat)(f:GFun)(h:chkF p k f=0)(he:fExt f=false):sz f ((Qap f).length+1) (Qa0 f)≤(Qap f).length+1∧∀ i:Int,0≤i→i<((Qap f).length:Int)→In f ((Qap f).length+1) (Qa0 f) i:=by
 unfold chkF at h
 split at h
 ·rename_i h1; exact absurd h h1
 rename_i hh
 have hh:hdr p k f=0:=by simpa using hh
 obtain ⟨ho,hbody,hext,h1,h2,h3,h4⟩:=Qyu hh
 rw [if_neg (by rw [he]; simp)] at h
 obtain ⟨hb0,hb1⟩:=hbody he
 cases hw:walk p f ((Qap f).length+1) ((List.replicate (Qap f).length false).set (Qa0 f).toNat true) (parS (Qad f).length (fPar f).toNat) (parS (Qad f).length (fPar f).toNat) (Qa0 f) with
 | inl e=>
  rw [hw] at h
  exact absurd h (by simpa using Qum p f _ _ _ _ _ _ hw)
 | inr s=>
  obtain ⟨re',bo'⟩:=s
  rw [hw] at h
  simp only at h
  obtain ⟨a1,a2⟩:=QFC p f _ _ _ _ _ _ _ hw
  have hk:=(Qho p f _ _ _ _ _ _ _ hw).1.1
  have hl:re'.length=(Qap f).length:=by rw [← hk]; simp
  have hcf:=QzE ((List.replicate (Qap f).length false).set (Qa0 f).toNat true)
  rw [List.length_set,List.length_replicate] at hcf
  refine ⟨by omega,fun i i0 i1=>?_⟩
  have hall:re'.all id=true:=by
   split at h
   ·cases h
   ·rename_i h5; simpa using h5
  have hi:re'[i.toNat]?=some true:=by
   have hx:i.toNat<re'.length:=by omega
   have:=List.all_eq_true.1 hall re'[i.toNat] (List.getElem_mem hx)
   rw [List.getElem?_eq_getElem hx]
   simpa using this
  rcases a2 i i0 hi with h5 |h5
  ·rw [List.getElem?_set] at h5
   split at h5
   ·rename_i h6; exact Or.inl (by omega)
   ·rw [List.getElem?_replicate] at h5
    split at h5<;>cases h5
  ·exact h5
theorem QHz (p:Qae)(f:GFun):∀ (d:Nat) (sc:List Bool) (k i:Int),Ok p f d sc k→In f d k i→∃ d' sc',Ok p f d' sc' i∧sz f d' i≤sz f d k:=by
 intro d
 induction d with
 | zero=>intro sc k i h; exact absurd h id
 | succ d ih=>
  intro sc k i h hi
  rcases hi with rfl |⟨n,hn,x,hx,hi⟩
  ·exact ⟨d+1,sc,h,Nat.le_refl _⟩
  ·obtain ⟨_,_,n',hn',_,hkb⟩:=h
   rw [hn'] at hn
   obtain rfl:=Option.some.inj hn
   obtain ⟨d',sc',h1,h2⟩:=ih _ x.1 i (hkb x hx) hi
   refine ⟨d',sc',h1,Nat.le_trans h2 ?_⟩
   rw [sz,hn']
   simp only
   have hm:sz f d x.1∈(kids n').map (sz f d):=List.mem_map_of_mem (by rw [QaU]; exact List.mem_map_of_mem hx)
   have hs:∀ (l:List Nat) (a:Nat),a∈l→a≤l.sum:=by
    intro l
    induction l with
    | nil=>intro a ha; cases ha
    | cons b l ihl=>
     intro a ha
     rw [List.sum_cons]
     rw [List.mem_cons] at ha
     rcases ha with rfl |ha
     ·omega
     ·have:=ihl a ha; omega
   have:=hs _ _ hm
   omega
def QdP (p:Qae)(f:GFun)(s:List Int):Nat→Int→List Int
 | 0,_=>[]
 | d+1,k=>match (Qap f)[k.toNat]? with
  | none=>[]
  | some n=>(Qao p f n++reads p f n).map (rt s)++(kids n).flatMap (QdP p f s d)
theorem QCu {g:Int→List Int}{h:Int→Nat}:∀ (l:List Int),(∀ k∈l,(g k).length≤6000 * h k)→(l.flatMap g).length≤6000 * (l.map h).sum
 | [],_=>by simp
 | k::l,hl=>by
  have:=hl k (by simp)
  have:=QCu l (fun k hk=>hl k (by simp [hk]))
  simp only [List.flatMap_cons,List.length_append,List.map_cons,List.sum_cons]
  omega
section
variable (p:Qae) (f:GFun) (s:List Int)
theorem Qur (hs:RInv p f s)(hf:Qgp f):∀ (d:Nat) (sc:List Bool) (k:Int),Ok p f d sc k→(QdP p f s d k).length≤6000 * sz f d k∧∀ v∈QdP p f s d k,0≤v∧v<((Qad f).length:Int):=by
 intro d
 induction d with
 | zero=>intro sc k h; exact absurd h id
 | succ d ih=>
  intro sc k h
  obtain ⟨h0,hsc,n,hn,hno,hkb⟩:=h
  have hsm:=hf.nodes n (List.mem_of_getElem? hn)
  have hc:=hno.cons hsm hsc
  have hr:=hno.rds hsm hsc
  have hcl:=hc.len
  have hrl:=hr.len
  rw [QdP,sz,hn]
  simp only
  have hk:∀ k∈kids n,(QdP p f s d k).length≤6000 * sz f d k∧∀ v∈QdP p f s d k,0≤v∧v<((Qad f).length:Int):=fun k hk=>by
   obtain ⟨sc',ho'⟩:=QvQ p f hkb k hk
   exact ih sc' k ho'
  have hfl:=QCu (kids n) (fun k hkk=>(hk k hkk).1)
  refine ⟨by simp only [List.length_append,List.length_map]; omega,fun v hv=>?_⟩
  rw [List.mem_append] at hv
  rcases hv with hv |hv
  ·obtain ⟨w,hw,rfl⟩:=List.mem_map.1 hv
   obtain ⟨w0,w1,w2⟩:=hc.app p f hr w hw
   exact (hs.at_ w w0 w1).2.1 w2
  ·obtain ⟨k',hk',hv⟩:=List.mem_flatMap.1 hv
   exact (hk k' hk').2 v hv
theorem uo0 (hs:RInv p f s)(n:Qaf)(l:List Int)(hl:l.length≤1000000)(hr:∀ v∈l,0≤v∧v<((Qad f).length:Int)∧flV p f v=false)(U:List Bool)(hU:U.length=(Qad f).length):Qbf (Qbp p f) s U p.1 p.2 f.1 f.2.1 f.2.2.1 f.2.2.2.1 f.2.2.2.2.1 f.2.2.2.2.2.1 f.2.2.2.2.2.2 n l (l.length:Int) 0=some (setS true (l.map (rt s)) U):=by
 have:=QaM (L:=fun U i=>Qbf (Qbp p f) s U p.1 p.2 f.1 f.2.1 f.2.2.1 f.2.2.2.1 f.2.2.2.2.1 f.2.2.2.2.2.1 f.2.2.2.2.2.2 n l (l.length:Int) i) (l:=l) (F:=fun U v=>U.set (rt s v).toNat true) (E:=id) (fun _ U=>U.length=(Qad f).length) (fun U i v hv hI=>⟨?_,by simpa using hI⟩) (fun U hI=>by rw [QdU,Qar,cond_false]; rfl) U hU
 ·rw [this]
  unfold setS
  rw [List.foldl_map]
  rfl
 ·have hI':U.length=(Qad f).length:=hI
  obtain ⟨h0,h1,h2⟩:=hr v (List.mem_of_getElem? hv)
  obtain ⟨r0,r1⟩:=(hs.at_ v h0 h1).2.1 h2
  obtain ⟨x,hx,_⟩:=Qfp (l:=U) r0 (by omega)
  rw [QdU,Qal hv,cond_true,Qag hv,Qaa,Qr4 h0 (by rw [hs.len]; exact h1),Qaa,hx,Qaa,Qam hv (by omega)]
theorem uo2 (ks:List Int)(hl:ks.length≤1000)(g:Int→List Int)(hg:∀ k∈ks,∀ U:List Bool,U.length=(Qad f).length→Qbi (Qbp p f) s U p.1 p.2 f.1 f.2.1 f.2.2.1 f.2.2.2.1 f.2.2.2.2.1 f.2.2.2.2.2.1 f.2.2.2.2.2.2 k=some (setS true (g k) U)):∀ (r pre:List Int) (U:List Bool),ks=pre++r→U.length=(Qad f).length→
  Qbg (Qbp p f) s U p.1 p.2 f.1 f.2.1 f.2.2.1 f.2.2.2.1 f.2.2.2.2.1 f.2.2.2.2.2.1 f.2.2.2.2.2.2 ks (ks.length:Int) (pre.length:Int)=some (setS true (r.flatMap g) U):=by
 intro r
 induction r with
 | nil=>
  intro pre U h hU
  rw [QdV]
  subst h
  rw [Qdd (Qd5 pre)]
  rfl
 | cons k r ih=>
  intro pre U h hU
  have hlen:ks.length=pre.length+(r.length+1):=by rw [h]; simp
  have e2:ks[pre.length]?=some k:=by rw [h]; simp
  have e3:Ev.wr .i64 ((pre.length:Int)+1)=((pre++[k]).length:Int):=by rw [Sy.QaZ (by omega)]; simp
  rw [QdV,Qal e2,cond_true,Qag e2,Qaa,hg k (List.mem_of_getElem? e2) U hU,Qaa,e3,ih (pre++[k]) _ (by rw [h]; simp) (by rw [Qbv]; exact hU),List.flatMap_cons,Quq]
theorem QDX (hs:RInv p f s)(hf:Qgp f):∀ (d:Nat) (sc:List Bool) (k:Int) (U:List Bool),Ok p f d sc k→U.length=(Qad f).length→Qbi (Qbp p f) s U p.1 p.2 f.1 f.2.1 f.2.2.1 f.2.2.2.1 f.2.2.2.2.1 f.2.2.2.2.2.1 f.2.2.2.2.2.2 k=some (setS true (QdP p f s d k) U):=by
 intro d
 induction d with
 | zero=>intro sc k U h; exact absurd h id
 | succ d ih=>
  intro sc k U h hU
  obtain ⟨h0,hsc,n,hn,hno,hkb⟩:=h
  have hsm:=hf.nodes n (List.mem_of_getElem? hn)
  have hat:at' f.2.2.2.2.1 k=some n:=Qdl h0 hn
  have hc:=hno.cons hsm hsc
  have hr:=hno.rds hsm hsc
  have hcl:=hc.len
  have hrl:=hr.len
  have h2:=uo2 p f s (kids n) (Qeq n hsm) (QdP p f s d) (fun k hk U hU=>by
   obtain ⟨sc',ho'⟩:=QvQ p f hkb k hk
   exact ih sc' k U ho' hU) (kids n) [] (setS true ((Qao p f n++reads p f n).map (rt s)) U) rfl (by rw [Qbv]; exact hU)
  rw [QjM,hat,Qaa,QjR p f s n hsm hno hsc,Qaa]
  dsimp only
  rw [Qxs _ _ (by omega) (by omega),Qaa,uo0 p f s hs n _ (by rw [List.length_append]; omega) (hc.app p f hr) U hU,Qaa,Qjb n hsm,Qaa,show Qbg (Qbp p f) s (setS true ((Qao p f n++reads p f n).map (rt s)) U) p.1 p.2 f.1 f.2.1 f.2.2.1 f.2.2.2.1 f.2.2.2.2.1 f.2.2.2.2.2.1 f.2.2.2.2.2.2 (kids n) ((kids n).length:Int) 0=_ from h2,Qaa,QdP,hn,← Quq]
theorem ur0 (hs:RInv p f s)(n:Qaf)(l:List Int)(hl:l.length≤1000000)(hr:∀ v∈l,0≤v∧v<((Qad f).length:Int)∧flV p f v=false):∀ (r pre out:List Int),l=pre++r→out.length+r.length≤1000000000→
  Qfg out l p f n s (pre.length:Int)=some (out++r.map (rt s)):=by
 intro r
 induction r with
 | nil=>
  intro pre out h ho
  rw [Qkc]
  subst h
  rw [Qdd (Qd5 pre)]
  simp
 | cons v r ih=>
  intro pre out h ho
  have hlen:l.length=pre.length+(r.length+1):=by rw [h]; simp
  have e2:l[pre.length]?=some v:=by rw [h]; simp
  have e3:Ev.wr .i64 ((pre.length:Int)+1)=((pre++[v]).length:Int):=by rw [Sy.QaZ (by omega)]; simp
  obtain ⟨h0,h1,h2⟩:=hr v (List.mem_of_getElem? e2)
  rw [List.length_cons] at ho
  rw [Qkc,Qal e2,cond_true,Qag e2,Qaa,Qr4 h0 (by rw [hs.len]; exact h1),Qaa,Qac (show (out.length+1) * 8≤35184372088832 by omega),e3,ih (pre++[v]) _ (by rw [h]; simp) (by simp; omega)]
  simp
theorem QHA (hs:RInv p f s)(n:Qaf)(l:List Int)(hl:l.length≤1000000)(hr:∀ v∈l,0≤v∧v<((Qad f).length:Int)∧flV p f v=false):∀ (r pre out:List Int),l=pre++r→out.length+r.length≤1000000000→
  Qfh out l p f n s (pre.length:Int)=some (out++r.map (rt s)):=by
 intro r
 induction r with
 | nil=>
  intro pre out h ho
  rw [Qh9]
  subst h
  rw [Qdd (Qd5 pre)]
  simp
 | cons v r ih=>
  intro pre out h ho
  have hlen:l.length=pre.length+(r.length+1):=by rw [h]; simp
  have e2:l[pre.length]?=some v:=by rw [h]; simp
  have e3:Ev.wr .i64 ((pre.length:Int)+1)=((pre++[v]).length:Int):=by rw [Sy.QaZ (by omega)]; simp
  obtain ⟨h0,h1,h2⟩:=hr v (List.mem_of_getElem? e2)
  rw [List.length_cons] at ho
  rw [Qh9,Qal e2,cond_true,Qag e2,Qaa,Qr4 h0 (by rw [hs.len]; exact h1),Qaa,Qac (show (out.length+1) * 8≤35184372088832 by omega),e3,ih (pre++[v]) _ (by rw [h]; simp) (by simp; omega)]
  simp
theorem QHB (hs:RInv p f s)(n:Qaf)(l:List Int)(hl:l.length≤1000000)(hr:∀ v∈l,0≤v∧v<((Qad f).length:Int)∧flV p f v=false)(out:List Int)(ho:out.length+l.length≤1000000000):
  Qhf out l p f n s 0=some (if l=[] then .inl () else .inr (out++l.map (rt s))):=by
 cases l with
 | nil=>rw [Qh8,Qab (by simp)]; rfl
 | cons v r=>
  obtain ⟨h0,h1,h2⟩:=hr v (by simp)
  have e2:(v::r)[0]?=some v:=rfl
  rw [List.length_cons] at ho
  have:=QHA p f s hs n (v::r) hl hr r [v] (out++[rt s v]) rfl (by simp; omega)
  rw [Qh8,Qac (by simp),show at' (v::r) 0=some v from rfl,Qaa,Qr4 h0 (by rw [hs.len]; exact h1),Qaa,Qac (show (out.length+1) * 8≤35184372088832 by omega),show Ev.wr .i64 ((0:Int)+1)=(([v]:List Int).length:Int) from rfl,this,Qaa,if_neg (by simp)]
  simp
def Hg (ks:List Int)(g:Int→List Int)(h:Int→Nat):Prop:=∀ k∈ks,(g k).length≤6000 * h k∧∀ out:List Int,out.length+6000 * h k≤1000000000→QeK out p f s k=some (if g k=[] then .inl () else .inr (out++g k))
theorem ur2 (ks:List Int)(hl:ks.length≤1000)(g:Int→List Int)(h:Int→Nat)(hg:Hg p f s ks g h):∀ (r pre out:List Int),ks=pre++r→out.length+6000 * (r.map h).sum≤1000000000→
  QdO out p f s ks (ks.length:Int) (pre.length:Int)=some (out++r.flatMap g):=by
 intro r
 induction r with
 | nil=>
  intro pre out hk ho
  rw [Qkd]
  subst hk
  rw [Qdd (Qd5 pre)]
  simp
 | cons k r ih=>
  intro pre out hk ho
  have hlen:ks.length=pre.length+(r.length+1):=by rw [hk]; simp
  have e2:ks[pre.length]?=some k:=by rw [hk]; simp
  have e3:Ev.wr .i64 ((pre.length:Int)+1)=((pre++[k]).length:Int):=by rw [Sy.QaZ (by omega)]; simp
  obtain ⟨g1,g2⟩:=hg k (List.mem_of_getElem? e2)
  rw [List.map_cons,List.sum_cons] at ho
  rw [Qkd,Qal e2,cond_true,Qag e2,Qaa,g2 out (by omega),Qaa,e3,List.flatMap_cons]
  by_cases hz:g k=[]
  ·rw [if_pos hz,hz,List.nil_append]
   exact ih (pre++[k]) out (by rw [hk]; simp) (by omega)
  ·rw [if_neg hz,← List.append_assoc]
   exact ih (pre++[k]) (out++g k) (by rw [hk]; simp) (by rw [List.length_append]; omega)
theorem QG1 (ks:List Int)(hl:ks.length≤1000)(g:Int→List Int)(h:Int→Nat)(hg:Hg p f s ks g h):∀ (r pre out:List Int),ks=pre++r→out.length+6000 * (r.map h).sum≤1000000000→
  Qb4 out p f s ks (ks.length:Int) (pre.length:Int)=some (out++r.flatMap g):=by
 intro r
 induction r with
 | nil=>
  intro pre out hk ho
  rw [Qib]
  subst hk
  rw [Qdd (Qd5 pre)]
  simp
 | cons k r ih=>
  intro pre out hk ho
  have hlen:ks.length=pre.length+(r.length+1):=by rw [hk]; simp
  have e2:ks[pre.length]?=some k:=by rw [hk]; simp
  have e3:Ev.wr .i64 ((pre.length:Int)+1)=((pre++[k]).length:Int):=by rw [Sy.QaZ (by omega)]; simp
  obtain ⟨g1,g2⟩:=hg k (List.mem_of_getElem? e2)
  rw [List.map_cons,List.sum_cons] at ho
  rw [Qib,Qal e2,cond_true,Qag e2,Qaa,g2 out (by omega),Qaa,e3,List.flatMap_cons]
  by_cases hz:g k=[]
  ·rw [if_pos hz,hz,List.nil_append]
   exact ih (pre++[k]) out (by rw [hk]; simp) (by omega)
  ·rw [if_neg hz,← List.append_assoc]
   exact ih (pre++[k]) (out++g k) (by rw [hk]; simp) (by rw [List.length_append]; omega)
theorem QHC (ks:List Int)(hl:ks.length≤1000)(g:Int→List Int)(h:Int→Nat)(hg:Hg p f s ks g h)(out:List Int):∀ (r pre:List Int),ks=pre++r→out.length+6000 * (r.map h).sum≤1000000000→
  QdC out p f s ks (ks.length:Int) (pre.length:Int)=some (if r.flatMap g=[] then .inl () else .inr (out++r.flatMap g)):=by
 intro r
 induction r with
 | nil=>
  intro pre hk ho
  rw [Qia]
  subst hk
  rw [Qdd (Qd5 pre)]
  rfl
 | cons k r ih=>
  intro pre hk ho
  have hlen:ks.length=pre.length+(r.length+1):=by rw [hk]; simp
  have e2:ks[pre.length]?=some k:=by rw [hk]; simp
  have e3:Ev.wr .i64 ((pre.length:Int)+1)=((pre++[k]).length:Int):=by rw [Sy.QaZ (by omega)]; simp
  obtain ⟨g1,g2⟩:=hg k (List.mem_of_getElem? e2)
  rw [List.map_cons,List.sum_cons] at ho
  rw [Qia,Qal e2,cond_true,Qag e2,Qaa,g2 out (by omega),Qaa,e3,List.flatMap_cons]
  by_cases hz:g k=[]
  ·rw [if_pos hz,hz,List.nil_append]
   exact ih (pre++[k]) (by rw [hk]; simp) (by omega)
  ·rw [if_neg hz,if_neg (by simp [hz]),← List.append_assoc]
   dsimp only
   rw [QG1 p f s ks hl g h hg r (pre++[k]) (out++g k) (by rw [hk]; simp) (by rw [List.length_append]; omega),Qaa]
theorem QDY (hp:QbS p)(hk:HOk p f)(hs:RInv p f s)(hf:Qgp f):∀ (d:Nat) (sc:List Bool) (k:Int) (out:List Int),Ok p f d sc k→out.length+6000 * sz f d k≤1000000000→
  QeK out p f s k=some (if QdP p f s d k=[] then .inl () else .inr (out++QdP p f s d k)):=by
 intro d
 induction d with
 | zero=>intro sc k out h; exact absurd h id
 | succ d ih=>
  intro sc k out h ho
  obtain ⟨h0,hsc,n,hn,hno,hkb⟩:=h
  have hsm:=hf.nodes n (List.mem_of_getElem? hn)
  have hat:at' f.2.2.2.2.1 k=some n:=Qdl h0 hn
  have hc:=hno.cons hsm hsc
  have hr:=hno.rds hsm hsc
  have hcl:=hc.len
  have hrl:=hr.len
  have hkl:=Qeq n hsm
  have hap:(Qao p f n++reads p f n).length=(Qao p f n).length+(reads p f n).length:=by simp
  rw [sz,hn] at ho
  simp only at ho
  have hg:Hg p f s (kids n) (QdP p f s d) (sz f d):=fun k hkk=>by
   obtain ⟨sc',ho'⟩:=QvQ p f hkb k hkk
   exact ⟨(Qur p f s hs hf d sc' k ho').1,fun out h=>ih sc' k out ho' h⟩
  rw [Qrj,hat,Qaa,Qo6 p f hp hk n hsm hno hsc,Qaa,Qac (show (Qao p f n).length * 8≤35184372088832 by omega),QvP p f hp hk n hsm hno hsc,Qaa,Qac (show ((Qao p f n).length+(reads p f n).length) * 8≤35184372088832 by omega),
   QHB p f s hs n _ (by omega) (hc.app p f hr) out (by omega),Qaa,QsO n hsm,QdP,hn]
  simp only [Qaa]
  by_cases hl:Qao p f n++reads p f n=[]
  ·rw [if_pos hl,hl]
   dsimp only
   rw [show QdC out p f s (kids n) ((kids n).length:Int) 0=_ from QHC p f s (kids n) hkl _ _ hg out (kids n) [] rfl (by omega),Qaa,List.map_nil,List.nil_append]
   by_cases hz:(kids n).flatMap (QdP p f s d)=[]
   ·rw [if_pos hz]
   ·rw [if_neg hz]
  ·have hne:(Qao p f n++reads p f n).map (rt s)++(kids n).flatMap (QdP p f s d)≠[]:=fun h=>by
    rw [List.append_eq_nil_iff,List.map_eq_nil_iff] at h
    exact hl h.1
   rw [if_neg hl,if_neg hne]
   dsimp only
   rw [show Qb4 (out++(Qao p f n++reads p f n).map (rt s)) p f s (kids n) ((kids n).length:Int) 0=_ from QG1 p f s (kids n) hkl _ _ hg (kids n) [] _ rfl (by rw [List.length_append,List.length_map]; omega),Qaa,List.append_assoc]
theorem QCv (hp:QbS p)(hk:HOk p f)(hs:RInv p f s)(hf:Qgp f)(d:Nat)(sc:List Bool)(k:Int)(h:Ok p f d sc k)(ho:6000 * sz f d k≤1000000000):Qoh p f s k=some (QdP p f s d k):=by
 cases d with
 | zero=>exact absurd h id
 | succ d=>
  obtain ⟨h0,hsc,n,hn,hno,hkb⟩:=h
  have hsm:=hf.nodes n (List.mem_of_getElem? hn)
  have hat:at' f.2.2.2.2.1 k=some n:=Qdl h0 hn
  have hc:=hno.cons hsm hsc
  have hr:=hno.rds hsm hsc
  have hcl:=hc.len
  have hrl:=hr.len
  have hkl:=Qeq n hsm
  have hap:(Qao p f n++reads p f n).length=(Qao p f n).length+(reads p f n).length:=by simp
  rw [sz,hn] at ho
  simp only at ho
  have hg:Hg p f s (kids n) (QdP p f s d) (sz f d):=fun k hkk=>by
   obtain ⟨sc',ho'⟩:=QvQ p f hkb k hkk
   exact ⟨(Qur p f s hs hf d sc' k ho').1,fun out h=>QDY p f s hp hk hs hf d sc' k out ho' h⟩
  rw [Quf,hat,Qaa,Qo6 p f hp hk n hsm hno hsc,Qaa,Qac (show (Qao p f n).length * 8≤35184372088832 by omega),QvP p f hp hk n hsm hno hsc,Qaa,Qac (show ((Qao p f n).length+(reads p f n).length) * 8≤35184372088832 by omega),
   show Qfg ([]:List Int) (Qao p f n++reads p f n) p f n s 0=_ from ur0 p f s hs n _ (by omega) (hc.app p f hr) (Qao p f n++reads p f n) [] [] rfl (by simp; omega),Qaa,QsO n hsm,Qaa,show QdO ([]++(Qao p f n++reads p f n).map (rt s)) p f s (kids n) ((kids n).length:Int) 0=_ from ur2 p f s (kids n) hkl _ _ hg (kids n) [] _ rfl (by simp; omega),Qaa,QdP,hn]
  simp
end
end Go.Proofs.YtkecfadnfnnfaaaGreatDoor.LabB.O
