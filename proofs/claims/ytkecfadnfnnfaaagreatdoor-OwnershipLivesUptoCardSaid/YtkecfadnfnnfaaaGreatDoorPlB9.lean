/- Of the models: the check of the program. -/
import Derived.Test.YtkecfadnfnnfaaaGreatDoorPlB7
set_option linter.unusedVariables false
set_option linter.unusedSimpArgs false
namespace Go.Proofs.YtkecfadnfnnfaaaGreatDoor.LabB
open Go Go.Ev Go.Sy
def Le (a b:List Bool):Prop:=a.length=b.length∧∀ i:Nat,a[i]?=some true→b[i]?=some true
theorem Le.refl (a:List Bool):Le a a:=⟨rfl,fun _ h=>h⟩
theorem Le.trans {a b c:List Bool}(h:Le a b)(k:Le b c):Le a c:=⟨h.1.trans k.1,fun i hi=>k.2 i (h.2 i hi)⟩
theorem Le.set (a:List Bool)(i:Nat):Le a (a.set i true):=⟨by simp,fun j hj=>by
 rw [List.getElem?_set]
 split
 ·rename_i h
  subst h
  rw [if_pos (Qa7 hj)]
 ·exact hj⟩
theorem Le.cf:∀ {a b:List Bool},Le a b→cf b≤cf a
 | [],[],_=>Nat.le_refl _
 | [],y::b,h=>by have:=h.1; simp at this
 | x::a,[],h=>by have:=h.1; simp at this
 | x::a,y::b,h=>by
  have ih:=Le.cf (a:=a) (b:=b) ⟨by simpa using h.1,fun i hi=>by have:=h.2 (i+1) (by simpa using hi); simpa using this⟩
  cases x with
  | false=>cases y with
   | false=>exact Nat.succ_le_succ ih
   | true=>exact Nat.le_succ_of_le ih
  | true=>
   have:=h.2 0 rfl
   simp at this
   subst this
   exact ih
def QmA:List Bool→List Int→List Bool⊕List Bool
 | re,[]=>.inr re
 | re,k::l=>if 0≤k∧re[k.toNat]?=some false then QmA (re.set k.toNat true) l else .inl re
def setS (b:Bool)(l:List Int)(sc:List Bool):List Bool:=l.foldl (fun sc v=>sc.set v.toNat b) sc
theorem Qbv (b:Bool):∀ (l:List Int) (sc:List Bool),(setS b l sc).length=sc.length
 | [],sc=>rfl
 | v::l,sc=>by
  show (setS b l (sc.set v.toNat b)).length=_
  rw [Qbv b l,List.length_set]
def kb (n:Qaf):List (Int×List Int):=if nOp n=9 then (nBr n).map (fun b=>(b.2,b.1)) else (kids n).map (fun k=>(k,binds n))
def QjP (g:List Bool→List Bool→List Bool→Int→Int⊕(List Bool×List Bool)):List (Int×List Int)→List Bool→List Bool→List Bool→Int⊕(List Bool×List Bool)
 | [],re,bo,sc=>.inr (re,bo)
 | (k,l)::r,re,bo,sc=>match g re bo (setS true l sc) k with
  | .inl e=>.inl e
  | .inr (re2,bo2)=>QjP g r re2 bo2 sc
def walk (p:Qae)(f:GFun):Nat→List Bool→List Bool→List Bool→Int→Int⊕(List Bool×List Bool)
 | 0,_,_,_,_=>.inl 1
 | d+1,re,bo,sc,at_=>match (Qap f)[at_.toNat]? with
  | none=>.inl 1
  | some n=>match Qjd p f sc bo n with
   | .inl e=>.inl e
   | .inr bo'=>match QmA re (kids n) with
    | .inl _=>.inl 3
    | .inr re'=>QjP (walk p f d) (kb n) re' bo' sc
theorem Qnv:∀ (l:List Int) (bo bo':List Bool),Qkx bo l=.inr bo'→Le bo bo'∧(∀ v∈l,bo[v.toNat]?=some false∧bo'[v.toNat]?=some true)
 | [],bo,bo',h=>by cases h; exact ⟨Le.refl _,fun v hv=>by simp at hv⟩
 | v::l,bo,bo',h=>by
  rw [Qkx] at h
  split at h
  ·rename_i hv
   obtain ⟨h1,h2⟩:=Qnv l _ _ h
   have hs:(bo.set v.toNat true)[v.toNat]?=some true:=by rw [List.getElem?_set_self (Qa7 hv)]
   refine ⟨(Le.set _ _).trans h1,fun w hw=>?_⟩
   rcases List.mem_cons.1 hw with rfl |hw
   ·exact ⟨hv,h1.2 _ hs⟩
   ·obtain ⟨h3,h4⟩:=h2 w hw
    refine ⟨?_,h4⟩
    rw [List.getElem?_set] at h3
    split at h3
    ·split at h3<;>simp at h3
    ·exact h3
  ·cases h
theorem QlK:∀ (l:List Int) (re re':List Bool),QmA re l=.inr re'→Le re re'∧cf re'+l.length=cf re∧(∀ k∈l,0≤k∧re[k.toNat]?=some false∧re'[k.toNat]?=some true)
 | [],re,re',h=>by cases h; exact ⟨Le.refl _,rfl,fun v hv=>by simp at hv⟩
 | v::l,re,re',h=>by
  rw [QmA] at h
  split at h
  ·rename_i hv
   obtain ⟨h1,h2,h3⟩:=QlK l _ _ h
   have hs:(re.set v.toNat true)[v.toNat]?=some true:=by rw [List.getElem?_set_self (Qa7 hv.2)]
   have hc:=QsQ re v.toNat hv.2
   refine ⟨(Le.set _ _).trans h1,by rw [List.length_cons]; omega,fun w hw=>?_⟩
   rcases List.mem_cons.1 hw with rfl |hw
   ·exact ⟨hv.1,hv.2,h1.2 _ hs⟩
   ·obtain ⟨h4,h5,h6⟩:=h3 w hw
    refine ⟨h4,?_,h6⟩
    rw [List.getElem?_set] at h5
    split at h5
    ·split at h5<;>simp at h5
    ·exact h5
  ·cases h
theorem Qnw {p:Qae}{f:GFun}{sc bo bo':List Bool}{n:Qaf}(h:Qjd p f sc bo n=.inr bo'):QfF n=true∧Qo5 sc (uses n)=true∧(∀ v∈binds n,0≤v∧v<((Qad f).length:Int))∧Qic p n=false∧Qkx bo (binds n)=.inr bo'∧Qhm p f n=true∧Qns p f n=true:=by
 unfold Qjd at h
 split at h
 ·cases h
 rename_i h1
 split at h
 ·cases h
 rename_i h2
 split at h
 ·cases h
 rename_i h3
 split at h
 ·cases h
 rename_i h4
 split at h
 ·cases h
 rename_i bo2 h5
 split at h
 ·cases h
 rename_i h6
 split at h
 ·cases h
 rename_i h7
 cases h
 refine ⟨by simpa using h1,by simpa using h2,fun v hv=>?_,by simpa using h4,h5,by simpa using h6,by simpa using h7⟩
 have h3':(binds n).all (inR f)=true:=by simpa using h3
 have:=List.all_eq_true.1 h3' v hv
 unfold inR at this
 simpa using this
theorem QaU (n:Qaf):kids n=(kb n).map (·.1):=by
 unfold kb
 split
 ·rename_i h
  simp [kids,h,Function.comp_def]
 ·simp [Function.comp_def]
theorem Qeq (n:Qaf)(h:QbN n):(kids n).length≤1000:=by
 have hb:=h.br
 unfold kids
 split
 ·simp; omega
 ·split<;>simp
theorem QjQ {n:Qaf}{k:Int}{l:List Int}(h:(k,l)∈kb n):∀ v∈l,v∈binds n:=by
 unfold kb at h
 split at h
 ·rename_i h9
  simp only [List.mem_map,Prod.mk.injEq] at h
  obtain ⟨b,hb,_,rfl⟩:=h
  intro v hv
  unfold binds
  rw [if_pos h9,List.mem_flatMap]
  exact ⟨b,hb,hv⟩
 ·simp only [List.mem_map,Prod.mk.injEq] at h
  obtain ⟨_,_,_,rfl⟩:=h
  exact fun v hv=>hv
theorem QGO {n:Qaf}(hn:QbN n){k:Int}{l:List Int}(h:(k,l)∈kb n):l.length≤1073741824:=by
 unfold kb at h
 split at h
 ·simp only [List.mem_map,Prod.mk.injEq] at h
  obtain ⟨b,hb,_,rfl⟩:=h
  exact hn.bs b hb
 ·rename_i h9
  simp only [List.mem_map,Prod.mk.injEq] at h
  obtain ⟨_,_,_,rfl⟩:=h
  unfold binds
  rw [if_neg h9]
  split<;>simp
theorem QsT {g:List Bool→List Bool→List Bool→Int→Int⊕(List Bool×List Bool)}(hg:∀ re bo sc k re' bo',g re bo sc k=.inr (re',bo')→Le re re'∧Le bo bo'):∀ (r:List (Int×List Int)) (re bo sc re' bo':List Bool),QjP g r re bo sc=.inr (re',bo')→Le re re'∧Le bo bo'
 | [],re,bo,sc,re',bo',h=>by cases h; exact ⟨Le.refl _,Le.refl _⟩
 | (k,l)::r,re,bo,sc,re',bo',h=>by
  rw [QjP] at h
  split at h
  ·cases h
  ·rename_i re2 bo2 h2
   obtain ⟨h3,h4⟩:=hg _ _ _ _ _ _ h2
   obtain ⟨h5,h6⟩:=QsT hg r _ _ _ _ _ h
   exact ⟨h3.trans h5,h4.trans h6⟩
theorem Qho (p:Qae)(f:GFun):∀ (d:Nat) (re bo sc:List Bool) (k:Int) (re' bo':List Bool),walk p f d re bo sc k=.inr (re',bo')→Le re re'∧Le bo bo'
 | 0,re,bo,sc,k,re',bo',h=>by cases h
 | d+1,re,bo,sc,k,re',bo',h=>by
  rw [walk] at h
  split at h
  ·cases h
  ·split at h
   ·cases h
   ·rename_i bo2 ha
    split at h
    ·cases h
    ·rename_i re2 hm
     obtain ⟨h1,h2⟩:=QsT (Qho p f d) _ _ _ _ _ _ h
     exact ⟨(QlK _ _ _ hm).1.trans h1,(Qnv _ _ _ (Qnw ha).2.2.2.2.1).1.trans h2⟩
theorem Qie (b:Bool):∀ (l:List Int) (sc:List Bool) (i:Nat),(setS b l sc)[i]?=if (∃ v∈l,v.toNat=i)∧i<sc.length then some b else sc[i]?
 | [],sc,i=>by simp [setS]
 | v::l,sc,i=>by
  show (setS b l (sc.set v.toNat b))[i]?=_
  rw [Qie b l,List.length_set,List.getElem?_set]
  by_cases h1:∃ w∈l,w.toNat=i
  ·by_cases h2:i<sc.length
   ·rw [if_pos ⟨h1,h2⟩,if_pos ⟨by obtain ⟨w,hw,hwi⟩:=h1; exact ⟨w,by simp [hw],hwi⟩,h2⟩]
   ·rw [if_neg (show ¬ ((∃ w∈l,w.toNat=i)∧i<sc.length) from fun h=>h2 h.2),if_neg (show ¬ ((∃ w∈v::l,w.toNat=i)∧i<sc.length) from fun h=>h2 h.2)]
    by_cases h3:v.toNat=i
    ·subst h3
     rw [if_pos rfl,if_neg h2,List.getElem?_eq_none (by omega)]
    ·rw [if_neg h3]
  ·rw [if_neg (fun h=>h1 h.1)]
   by_cases h3:v.toNat=i
   ·rw [if_pos h3]
    by_cases h2:i<sc.length
    ·subst h3
     rw [if_pos h2,if_pos ⟨⟨v,by simp,rfl⟩,h2⟩]
    ·subst h3
     rw [if_neg h2,if_neg (fun h=>h2 h.2),List.getElem?_eq_none (by omega)]
   ·rw [if_neg h3,if_neg]
    rintro ⟨⟨w,hw,hwi⟩,h2⟩
    rcases List.mem_cons.1 hw with rfl |hw
    ·exact h3 hwi
    ·exact h1 ⟨w,hw,hwi⟩
theorem QCe (l:List Int)(sc:List Bool)(h:∀ v∈l,sc[v.toNat]?≠some true):setS false l (setS true l sc)=sc:=by
 apply List.ext_getElem?
 intro i
 rw [Qie,Qbv,Qie]
 split
 ·rename_i h1
  obtain ⟨⟨v,hv,rfl⟩,hi⟩:=h1
  have:sc[v.toNat]?=some sc[v.toNat]:=List.getElem?_eq_getElem hi
  have h2:=h v hv
  rw [this] at h2 ⊢
  cases hb:sc[v.toNat] with
  | true=>rw [hb] at h2; exact absurd rfl h2
  | false=>rfl
 ·rfl
section
variable (p:Qae) (f:GFun)
theorem QGP (bo sc:List Bool)(n:Qaf)(at_:Int)(ks l:List Int)(hl:l.length≤9223372036854775807)(re:List Bool)(hre:re.length=(Qap f).length):QaN re bo sc p.1 p.2 f.1 f.2.1 f.2.2.1 f.2.2.2.1 f.2.2.2.2.1 f.2.2.2.2.2.1 f.2.2.2.2.2.2 n at_ ks l (l.length:Int) 0=some (QmA re l):=by
 have e:∀ (l:List Int) (re:List Bool) (i:Nat),runI (fun _ s (k:Int)=>if 0≤k∧s[k.toNat]?=some false then .inl (s.set k.toNat true) else .inr (.inl s)) (fun s=>(.inr s:List Bool⊕List Bool)) i re l=QmA re l:=by
  intro l
  induction l with
  | nil=>intro re i; rfl
  | cons k l ih=>
   intro re i
   rw [runI,QmA]
   by_cases h:0≤k∧re[k.toNat]?=some false
   ·rw [if_pos h,if_pos h]; exact ih _ _
   ·rw [if_neg h,if_neg h]
 rw [← e l re 0]
 refine Qyk (L:=fun s i=>QaN s bo sc p.1 p.2 f.1 f.2.1 f.2.2.1 f.2.2.2.1 f.2.2.2.2.1 f.2.2.2.2.2.1 f.2.2.2.2.2.2 n at_ ks l (l.length:Int) i) (fun _ s=>s.length=(Qap f).length) (fun s i k hk hI=>?_) (fun s hI=>?_) re hre
 ·have hI':s.length=(Qap f).length:=hI
  have e1:QaN s bo sc p.1 p.2 f.1 f.2.1 f.2.2.1 f.2.2.2.1 f.2.2.2.2.1 f.2.2.2.2.2.1 f.2.2.2.2.2.2 n at_ ks l (l.length:Int) (i:Int)=if 0≤k∧s[k.toNat]?=some false then QaN (s.set k.toNat true) bo sc p.1 p.2 f.1 f.2.1 f.2.2.1 f.2.2.2.1 f.2.2.2.2.1 f.2.2.2.2.2.1 f.2.2.2.2.2.2 n at_ ks l (l.length:Int) ((i+1:Nat):Int) else some (.inl s):=by
   rw [Qfj,Qal hk,cond_true,Qag hk,Qaa,Qam hk hl]
   simp only [Qaa,Qai,QaQ]
   rcases Qni s k with ⟨h0,h1,y,hy,hy',_⟩ |⟨h1,hy⟩
   ·rw [QaP (show ¬ k<0 by omega),show decide (k<(f.2.2.2.2.1.length:Int))=true from QbE (show k<((Qap f).length:Int) by omega),hy,hy']
    cases y with
    | true=>rw [if_neg (by simp)]; rfl
    | false=>rw [if_pos ⟨h0,rfl⟩]; rfl
   ·have hz:(decide (k<0)||!decide (k<(f.2.2.2.2.1.length:Int)))=true:=by
     rw [Bool.or_eq_true,Bool.not_eq_true',decide_eq_true_eq,decide_eq_false_iff_not]; show k<0∨¬ k<((Qap f).length:Int); omega
    rw [hz,cond_true,Qaa,cond_true,if_neg]
    rintro ⟨h2,h3⟩
    have:=Qa7 h3
    omega
  by_cases h:0≤k∧s[k.toNat]?=some false
  ·rw [if_pos h] at e1 ⊢
   exact ⟨e1,by simpa using hI⟩
  ·rw [if_neg h] at e1 ⊢
   exact e1
 ·show QaN s bo sc p.1 p.2 f.1 f.2.1 f.2.2.1 f.2.2.2.1 f.2.2.2.2.1 f.2.2.2.2.2.1 f.2.2.2.2.2.2 n at_ ks l (l.length:Int) (l.length:Int)=_
  rw [Qfj,Qar,cond_false]
theorem QGQ (re bo:List Bool)(n:Qaf)(k:Int)(bs ks:List Int)(m i0:Int)(l:List Int)(hl:l.length≤9223372036854775807)(sc:List Bool)(hr:∀ v∈l,0≤v∧v<(sc.length:Int)):QbJ re bo sc p.1 p.2 f.1 f.2.1 f.2.2.1 f.2.2.2.1 f.2.2.2.2.1 f.2.2.2.2.2.1 f.2.2.2.2.2.2 n k bs ks m i0 l (l.length:Int) 0=some (setS true l sc):=by
 refine QaM (L:=fun s i=>QbJ re bo s p.1 p.2 f.1 f.2.1 f.2.2.1 f.2.2.2.1 f.2.2.2.2.1 f.2.2.2.2.2.1 f.2.2.2.2.2.2 n k bs ks m i0 l (l.length:Int) i) (l:=l) (F:=fun s v=>s.set v.toNat true) (E:=id) (fun _ s=>s.length=sc.length) (fun s i v hv hI=>⟨?_,by simpa using hI⟩) (fun s hI=>?_) sc rfl
 ·obtain ⟨h0,h1⟩:=hr v (List.mem_of_getElem? hv)
  have hI':s.length=sc.length:=hI
  obtain ⟨y,hy,_⟩:=Qfp (l:=s) h0 (by omega)
  rw [Qfk,Qal hv,cond_true,Qag hv,Qaa,hy,Qaa,Qam hv hl]
 ·rw [Qfk,Qar,cond_false]; rfl
theorem QGR (re bo:List Bool)(n:Qaf)(bs ks:List Int)(m i0:Int)(l:List Int)(hl:l.length≤9223372036854775807)(sc:List Bool)(hr:∀ v∈l,0≤v∧v<(sc.length:Int)):QbL re bo sc p.1 p.2 f.1 f.2.1 f.2.2.1 f.2.2.2.1 f.2.2.2.2.1 f.2.2.2.2.2.1 f.2.2.2.2.2.2 n ks m i0 l (l.length:Int) 0=some (setS false l sc):=by
 refine QaM (L:=fun s i=>QbL re bo s p.1 p.2 f.1 f.2.1 f.2.2.1 f.2.2.2.1 f.2.2.2.2.1 f.2.2.2.2.2.1 f.2.2.2.2.2.2 n ks m i0 l (l.length:Int) i) (l:=l) (F:=fun s v=>s.set v.toNat false) (E:=id) (fun _ s=>s.length=sc.length) (fun s i v hv hI=>⟨?_,by simpa using hI⟩) (fun s hI=>?_) sc rfl
 ·obtain ⟨h0,h1⟩:=hr v (List.mem_of_getElem? hv)
  have hI':s.length=sc.length:=hI
  obtain ⟨y,hy,_⟩:=Qfp (l:=s) h0 (by omega)
  rw [Qfl,Qal hv,cond_true,Qag hv,Qaa,hy,Qaa,Qam hv hl]
 ·rw [Qfl,Qar,cond_false]; rfl
structure Wf (re bo sc:List Bool):Prop where
 hre:re.length=(Qap f).length
 hbo:bo.length=(Qad f).length
 hsc:sc.length=(Qad f).length
 sub:∀ i:Nat,sc[i]?=some true→bo[i]?=some true
def QCf (g:List Bool→List Bool→List Bool→Int→Int⊕(List Bool×List Bool))(re bo sc:List Bool)(k:Int):Prop:=
 ∃ re' bo' sc' w e,Qcx re bo sc p.1 p.2 f.1 f.2.1 f.2.2.1 f.2.2.2.1 f.2.2.2.2.1 f.2.2.2.2.2.1 f.2.2.2.2.2.2 k=some (re',bo',sc',w,e)∧(match g re bo sc k with | .inl e'=>e=e'∧e'≠0 | .inr s=>e=0∧re'=s.1∧bo'=s.2∧sc'=sc)
theorem QGS (hp:QbS p)(n:Qaf)(hn:QbN n)(g:List Bool→List Bool→List Bool→Int→Int⊕(List Bool×List Bool))(D:Nat)(hk:∀ re bo sc k re' bo',g re bo sc k=.inr (re',bo')→Le re re'∧Le bo bo')
  (hd:∀ re bo sc k,Wf f re bo sc→0≤k→k<((Qap f).length:Int)→cf re<D→QCf p f g re bo sc k) (sc0:List Bool):
  ∀ (r pre:List (Int×List Int)) (re bo:List Bool),kb n=pre++r→Wf f re bo sc0→cf re<D→(∀ x∈r,0≤x.1∧x.1<((Qap f).length:Int))→(∀ v∈binds n,0≤v∧v<((Qad f).length:Int))→(∀ v∈binds n,bo[v.toNat]?=some true∧sc0[v.toNat]?≠some true)→
  ∃ z,QbI re bo sc0 p.1 p.2 f.1 f.2.1 f.2.2.1 f.2.2.2.1 f.2.2.2.2.1 f.2.2.2.2.2.1 f.2.2.2.2.2.2 n (kids n) ((kids n).length:Int) (pre.length:Int)=some z∧
    (match QjP g r re bo sc0 with | .inl e=>∃ x,z=.inr x∧x.2.2.2.2=e∧e≠0 | .inr s=>z=.inl (s.1,s.2,sc0)):=by
 have hkl:=Qeq n hn
 intro r
 induction r with
 | nil=>
  intro pre re bo h hw hc hr hb hs
  rw [QcN,Qab (by rw [QaU,h]; simp)]
  exact ⟨_,rfl,rfl⟩
 | cons x r ih=>
  obtain ⟨k,l⟩:=x
  intro pre re bo h hw hc hr hb hs
  have hlen:(kids n).length=pre.length+(r.length+1):=by rw [QaU,h]; simp
  have hmem:(k,l)∈kb n:=by rw [h]; simp
  have hat:(kids n)[pre.length]?=some k:=by
   rw [QaU,h,List.map_append,List.getElem?_append_right (by simp)]
   simp
  have hll:=QGO hn hmem
  have hsub:=QjQ hmem
  have hrl:∀ v∈l,0≤v∧v<(sc0.length:Int):=fun v hv=>by rw [hw.hsc]; exact hb v (hsub v hv)
  rw [QcN,Qal hat,cond_true,Qag hat,Qaa,QgL n hn,Qaa]
  have hjoin:(bif decide (n.1=(9:Int)) then Option.bind (Sy.at' n.2.2.2.2.2.2.2.2.1 (pre.length:Int)) fun v13=>some v13.1 else some (binds n))=some l:=by
   by_cases h9:nOp n=9
   ·rw [Qac h9,QqS]
    have hkb:kb n=(nBr n).map (fun b=>(b.2,b.1)):=by unfold kb; rw [if_pos h9]
    have:(kb n)[pre.length]?=some (k,l):=by rw [h,List.getElem?_append_right (Nat.le_refl _)]; simp
    rw [hkb,List.getElem?_map] at this
    cases hb:(nBr n)[pre.length]? with
    | none=>rw [hb] at this; simp at this
    | some b=>
     rw [hb] at this
     simp only [Option.map_some,osi,Prod.mk.injEq] at this
     rw [Qaa,this.2]
   ·rw [Qab h9]
    have hkb:kb n=(kids n).map (fun k=>(k,binds n)):=by unfold kb; rw [if_neg h9]
    rw [hkb] at hmem
    simp only [List.mem_map,Prod.mk.injEq] at hmem
    obtain ⟨_,_,_,hm⟩:=hmem
    rw [hm]
  rw [hjoin,Qaa,QGQ p f re bo n k l (kids n) _ _ l (by omega) sc0 hrl,Qaa]
  have hw1:Wf f re bo (setS true l sc0):=⟨hw.hre,hw.hbo,by rw [Qbv,hw.hsc],fun i hi=>by
   rw [Qie] at hi
   split at hi
   ·rename_i h1
    obtain ⟨⟨v,hv,rfl⟩,_⟩:=h1
    exact (hs v (hsub v hv)).1
   ·exact hw.sub i hi⟩
  obtain ⟨h0,h1⟩:=hr (k,l) (by simp)
  obtain ⟨re',bo',sc',w,e,hd1,hd2⟩:=hd re bo (setS true l sc0) k hw1 h0 h1 hc
  rw [hd1,Qaa]
  simp only
  rw [QjP]
  cases hg:g re bo (setS true l sc0) k with
  | inl e'=>
   rw [hg] at hd2
   obtain ⟨rfl,hne⟩:=hd2
   rw [Qab hne]
   exact ⟨_,rfl,_,rfl,rfl,hne⟩
  | inr s=>
   obtain ⟨re2,bo2⟩:=s
   rw [hg] at hd2
   obtain ⟨rfl,rfl,rfl,rfl⟩:=hd2
   obtain ⟨k1,k2⟩:=hk _ _ _ _ _ _ hg
   dsimp only
   have e1:Ev.wr .i64 ((pre.length:Int)+1)=((pre++[(k,l)]).length:Int):=by
    rw [Sy.QaZ (by omega)]
    simp
   rw [Qac rfl,QGR p f re' bo' n (binds n) (kids n) _ _ l (by omega) _ (by rw [Qbv]; exact hrl),Qaa,QCe l sc0 (fun v hv=>(hs v (hsub v hv)).2),e1]
   exact ih (pre++[(k,l)]) re' bo' (by rw [h]; simp) ⟨by rw [← k1.1,hw.hre],by rw [← k2.1,hw.hbo],hw.hsc,fun i hi=>k2.2 i (hw.sub i hi)⟩ (by have:=k1.cf; omega) (fun x hx=>hr x (by simp [hx])) hb (fun v hv=>⟨k2.2 _ (hs v hv).1,(hs v hv).2⟩)
theorem QvK (hp:QbS p)(hf:Qgp f)(ho:HOk p f):∀ (d:Nat) (re bo sc:List Bool) (k:Int),Wf f re bo sc→0≤k→k<((Qap f).length:Int)→cf re<d→QCf p f (walk p f d) re bo sc k
 | 0,re,bo,sc,k,hw,h0,h1,hc=>absurd hc (Nat.not_lt_zero _)
 | d+1,re,bo,sc,k,hw,h0,h1,hc=>by
  unfold QCf
  obtain ⟨n,hn1,hn2⟩:=Qfp (l:=Qap f) h0 h1
  have hn:QbN n:=hf.nodes n (List.mem_of_getElem? hn2)
  have hkl:=Qeq n hn
  rw [QlN,show at' f.2.2.2.2.1 k=some n from hn1,Qaa,walk,hn2]
  simp only
  obtain ⟨b',e,ha1,ha2⟩:=QzH p f re bo sc hp ho n hn hw.hbo hw.hsc
  rw [ha1,Qaa]
  simp only
  cases has:Qjd p f sc bo n with
  | inl e'=>
   rw [has] at ha2
   obtain ⟨rfl,hne⟩:=ha2
   rw [Qab hne]
   exact ⟨_,_,_,_,_,rfl,rfl,hne⟩
  | inr bo'=>
   rw [has] at ha2
   obtain ⟨rfl,rfl⟩:=ha2
   rw [Qac rfl,Qjb n hn,Qaa,QGP p f _ _ n k _ _ (by omega) re hw.hre,Qaa]
   simp only
   cases hm:QmA re (kids n) with
   | inl re2=>exact ⟨_,_,_,_,_,rfl,rfl,by decide⟩
   | inr re2=>
    obtain ⟨_,_,hbr,_,hmr,_,_⟩:=Qnw has
    obtain ⟨m1,m2⟩:=Qnv _ _ _ hmr
    obtain ⟨m3,m4,m5⟩:=QlK _ _ _ hm
    by_cases hkn:kb n=[]
    ·have hkids:kids n=[]:=by rw [QaU,hkn]; rfl
     simp only
     rw [hkids,QcN,Qab (by simp),Qaa,hkn,QjP]
     exact ⟨_,_,_,_,_,rfl,rfl,rfl,rfl,rfl⟩
    ·have hlen:0<(kids n).length:=by rw [QaU,List.length_map]; exact List.length_pos_iff.2 hkn
     obtain ⟨z,hz1,hz2⟩:=QGS p f hp n hn (walk p f d) d (Qho p f d) (fun re bo sc k hw h0 h1 hc=>QvK hp hf ho d re bo sc k hw h0 h1 hc) sc (kb n) [] re2 b' rfl
      ⟨by rw [← m3.1,hw.hre],by rw [← m1.1,hw.hbo],hw.hsc,fun i hi=>m1.2 i (hw.sub i hi)⟩ (by omega)
      (fun x hx=>by
       have hk:x.1∈kids n:=by rw [QaU]; exact List.mem_map.2 ⟨x,hx,rfl⟩
       obtain ⟨q1,q2,_⟩:=m5 x.1 hk
       have:=Qa7 q2
       rw [hw.hre] at this
       omega) hbr (fun v hv=>⟨(m2 v hv).2,fun h=>by
       have:=hw.sub v.toNat h
       rw [(m2 v hv).1] at this
       cases this⟩)
     simp only
     rw [show QbI re2 b' sc p.1 p.2 f.1 f.2.1 f.2.2.1 f.2.2.2.1 f.2.2.2.2.1 f.2.2.2.2.2.1 f.2.2.2.2.2.2 n (kids n) ((kids n).length:Int) 0=some z from hz1,Qaa]
     cases hwl:QjP (walk p f d) (kb n) re2 b' sc with
     | inl e=>
      rw [hwl] at hz2
      obtain ⟨⟨x1,x2,x3,x4,x5⟩,rfl,rfl,hne⟩:=hz2
      exact ⟨_,_,_,_,_,rfl,rfl,hne⟩
     | inr s=>
      rw [hwl] at hz2
      simp only at hz2
      subst hz2
      exact ⟨_,_,_,_,_,rfl,rfl,rfl,rfl,rfl⟩
end
end Go.Proofs.YtkecfadnfnnfaaaGreatDoor.LabB
namespace Go.Proofs.YtkecfadnfnnfaaaGreatDoor.LabB
open Go Go.Ev Go.Sy
def parS (nv k:Nat):List Bool:=List.replicate k true++List.replicate (nv - k) false
theorem Qdg (nv k:Nat)(h:k≤nv):(parS nv k).length=nv:=by unfold parS; simp; omega
theorem QCg (nv:Nat):parS nv 0=List.replicate nv false:=by simp [parS]
theorem Qou (nv k i:Nat)(h:k≤nv)(hi:i<nv):(parS nv k)[i]?=some (decide (i<k)):=by
 unfold parS
 rw [List.getElem?_append,List.length_replicate]
 split
 ·rename_i h1; rw [List.getElem?_replicate,if_pos h1,decide_eq_true h1]
 ·rename_i h1; rw [List.getElem?_replicate,if_pos (by omega),decide_eq_false h1]
theorem QDR (nv k:Nat)(h:k<nv):(parS nv k).set k true=parS nv (k+1):=by
 apply List.ext_getElem?
 intro i
 rw [List.getElem?_set,Qdg nv k (by omega)]
 by_cases hi:i<nv
 ·rw [Qou nv (k+1) i (by omega) hi]
  by_cases hk:k=i
  ·rw [if_pos hk,if_pos h,decide_eq_true (by omega)]
  ·rw [if_neg hk,Qou nv k i (by omega) hi]
   congr 1
   by_cases h2:i<k
   ·rw [decide_eq_true h2,decide_eq_true (by omega)]
   ·rw [decide_eq_false h2,decide_eq_false (by omega)]
 ·rw [if_neg (by omega),List.getElem?_eq_none (by rw [Qdg nv k (by omega)]; omega),List.getElem?_eq_none (by rw [Qdg nv (k+1) (by omega)]; omega)]
def chkF (p:Qae)(k:Nat)(f:GFun):Int:=
 if hdr p k f≠0 then hdr p k f
 else if fExt f=true then 0
 else match walk p f ((Qap f).length+1) ((List.replicate (Qap f).length false).set (Qa0 f).toNat true) (parS (Qad f).length (fPar f).toNat) (parS (Qad f).length (fPar f).toNat) (Qa0 f) with
  | .inl e=>e
  | .inr (re,bo)=>if re.all id=false then 3 else if bo.all id=false then 3 else 0
def chkL (p:Qae):Nat→List GFun→Int
 | _,[]=>0
 | i,f::r=>if chkF p i f=0 then chkL p (i+1) r else chkF p i f
def chk (p:Qae):Int:=if chkD p.1≠0 then chkD p.1 else if 128<(p.2.length:Int) then 6 else chkL p 0 p.2
theorem Qyu {p:Qae}{k:Nat}{f:GFun}(h:hdr p k f=0):HOk p f∧(fExt f=false→0≤Qa0 f∧Qa0 f<((Qap f).length:Int))∧(fExt f=true→Qap f=[]∧((Qad f).length:Int)=fPar f)∧QvG f.1=true∧fPar f≤6∧(∀ v∈Qad f,v.2=true→flat p.1 v.1=false)∧(fExt f=true→Qa0 f=0):=by
 unfold hdr at h
 split at h
 ·cases h
 rename_i h1
 split at h
 ·cases h
 rename_i h2
 split at h
 ·cases h
 rename_i h3
 split at h
 ·cases h
 rename_i h4
 split at h
 ·cases h
 rename_i h5
 split at h
 ·cases h
 rename_i h6
 split at h
 ·cases h
 rename_i h7
 split at h
 ·cases h
 rename_i h8
 refine ⟨⟨by omega,by simpa using h6,fun v hv=>?_⟩,fun he=>?_,fun he=>?_,by simpa using h1,by omega,fun v hv hr=>?_,fun he=>?_⟩
 ·have h7':((Qad f).all fun v=>isTy p.1 v.1)=true:=by rw [Bool.not_eq_false] at h7; exact h7
  exact List.all_eq_true.1 h7' v hv
 ·by_cases hb:Qa0 f<0∨((Qap f).length:Int)≤Qa0 f
  ·exact absurd (Or.inr ⟨he,hb⟩) h5
  ·omega
 ·by_cases hb:fPar f<((Qad f).length:Int)∨0<((Qap f).length:Int)∨Qa0 f≠0
  ·exact absurd (Or.inl ⟨he,hb⟩) h5
  ·refine ⟨List.eq_nil_of_length_eq_zero (by omega),by omega⟩
 ·have h8':((Qad f).all fun v=>!(v.2&&flat p.1 v.1))=true:=by rw [Bool.not_eq_false] at h8; exact h8
  have:=List.all_eq_true.1 h8' v hv
  rw [hr] at this
  simpa using this
 ·by_cases hb:Qa0 f=0
  ·exact hb
  ·exact absurd (Or.inl ⟨he,Or.inr (Or.inr hb)⟩) h5
theorem QvL (l:List Bool)(hl:l.length≤9223372036854775806):QgA l false=some (idxR (QiM (fun b=>!b) 0 l)):=by
 rw [Qj4]
 rw [Qdk (L:=fun i=>QcT l false (l.length:Int) i) (l:=l) (p:=fun b=>!b) (A:=fun j=>.inl (j:Int)) (B:=.inr ()) (fun i b hb=>by
  rw [QcM,Qal hb,cond_true,Qag hb,Qaa,Qam hb (by omega)]
  cases b<;>rfl) (by rw [QcM,Qar,cond_false])]
 cases QiM _ 0 l<;>rfl
theorem QCh (l:List Bool):(decide (idxR (QiM (fun b=>!b) 0 l)<0))=l.all id:=by
 have h1:=QDL (QiM (fun b=>!b) 0 l)
 have h2:l.all id=!(l.any fun b=>!b):=by rw [← List.not_all_eq_any_not,Bool.not_not]; rfl
 rw [h2,← Qcg _ l 0,← h1,Bool.not_not]
theorem Qr3 (l:List Bool)(hl:l.length≤9223372036854775806):QcS l false=some (!l.all id):=by
 rw [Qhh,QvL l hl,Qaa,QCh]
theorem cf0 (n i:Nat)(h:i<n):cf ((List.replicate n false).set i true)<n:=by
 have:=QsQ (List.replicate n false) i (by rw [List.getElem?_replicate,if_pos h])
 have:=QzE (List.replicate n false)
 rw [List.length_replicate] at this
 omega
theorem parL (p:Qae)(f:GFun)(re:List Bool)(nv m:Nat)(hm:m≤nv)(hnv:nv≤1000000000)(x:GFun):∀ (j i:Nat),i+j=m→QcR re (parS nv i) (parS nv i) x p.1 p.2 f.1 f.2.1 f.2.2.1 f.2.2.2.1 f.2.2.2.2.1 f.2.2.2.2.2.1 f.2.2.2.2.2.2 (m:Int) (i:Int)=some (parS nv m,parS nv m)
 | 0,i,h=>by
  have:i=m:=by omega
  subst this
  rw [Qhg,Qab (by omega)]
 | j+1,i,h=>by
  have hat:=Qou nv i i (by omega) (by omega)
  rw [Qhg,Qac (by omega),QqS,hat,Qaa,Qaa,Int.toNat_natCast,QDR nv i (by omega),Sy.QaZ (by omega)]
  exact parL p f re nv m hm hnv x j (i+1) (by omega)
theorem QCi (p:Qae)(hp:QbS p)(k:Nat)(f:GFun)(hk:p.2[k]?=some f):∃ w,QjA p (k:Int)=some (w,chkF p k f):=by
 have hkl:=Qa7 hk
 have hpl:=hp.funs
 have hf:=hp.all f (List.mem_of_getElem? hk)
 have hvl:(Qad f).length≤1000000:=hf.vars
 have hcl:(Qap f).length≤1000000:=hf.code
 rw [Qpc,Qab (by omega),Qaa,Qal hk,Bool.not_true,cond_false,Qag hk,Qaa,QDQ p hp k (by omega) f hf,Qaa]
 unfold chkF
 by_cases hh:hdr p k f=0
 ·rw [Qac hh,if_neg (by simpa using hh)]
  obtain ⟨ho,hbody,_⟩:=Qyu hh
  cases he:fExt f with
  | true=>rw [show f.2.2.2.2.2.2=true from he]; exact ⟨_,rfl⟩
  | false=>
   obtain ⟨hb0,hb1⟩:=hbody he
   obtain ⟨hp0,hp1⟩:=ho.par
   have hbn:(Qa0 f).toNat<(Qap f).length:=by omega
   have hparN:((fPar f).toNat:Int)=fPar f:=Int.toNat_of_nonneg hp0
   have hpn:(fPar f).toNat≤(Qad f).length:=by omega
   rw [show f.2.2.2.2.2.2=false from he,cond_false,Qab (show ¬ ((Qap f).length:Int)<0 by omega),Int.toNat_natCast,Qac (show (Qap f).length * 1≤140737488355328 by omega),Qab (show ¬ ((Qad f).length:Int)<0 by omega),Int.toNat_natCast,Qac (show (Qad f).length * 1≤140737488355328 by omega)]
   rw [show List.replicate (Qad f).length false=parS (Qad f).length 0 from (QCg _).symm]
   have h1:=parL p f (List.replicate (Qap f).length false) (Qad f).length (fPar f).toNat hpn (by omega) f (fPar f).toNat 0 (by omega)
   rw [hparN] at h1
   rw [show f.2.2.2.2.2.2=false from he] at h1
   rw [show QcR (List.replicate (Qap f).length false) (parS (Qad f).length 0) (parS (Qad f).length 0) f p.1 p.2 f.1 f.2.1 f.2.2.1 f.2.2.2.1 f.2.2.2.2.1 f.2.2.2.2.2.1 false f.2.1 0=_ from h1,Qaa]
   simp only
   rw [show at' (List.replicate (Qap f).length false) f.2.2.2.2.2.1=some false from Qdl hb0 (by rw [List.getElem?_replicate,if_pos hbn]),Qaa]
   have hsub:∀ i:Nat,(parS (Qad f).length (fPar f).toNat)[i]?=some true→(parS (Qad f).length (fPar f).toNat)[i]?=some true:=fun i h=>h
   obtain ⟨re',bo',sc',w,e,hn1,hn2⟩:=QvK p f hp hf ho ((Qap f).length+1) ((List.replicate (Qap f).length false).set (Qa0 f).toNat true) (parS (Qad f).length (fPar f).toNat) (parS (Qad f).length (fPar f).toNat) (Qa0 f) ⟨by simp,Qdg _ _ hpn,Qdg _ _ hpn,hsub⟩ hb0 hb1 (Nat.lt_succ_of_lt (cf0 _ _ hbn))
   rw [show f.2.2.2.2.2.2=false from he] at hn1
   rw [show Qcx ((List.replicate (Qap f).length false).set f.2.2.2.2.2.1.toNat true) (parS (Qad f).length (fPar f).toNat) (parS (Qad f).length (fPar f).toNat) p.1 p.2 f.1 f.2.1 f.2.2.1 f.2.2.2.1 f.2.2.2.2.1 f.2.2.2.2.2.1 false f.2.2.2.2.2.1=_ from hn1,Qaa]
   simp only
   rw [if_neg ft]
   cases hw:walk p f ((Qap f).length+1) ((List.replicate (Qap f).length false).set (Qa0 f).toNat true) (parS (Qad f).length (fPar f).toNat) (parS (Qad f).length (fPar f).toNat) (Qa0 f) with
   | inl e'=>
    rw [hw] at hn2
    obtain ⟨rfl,hne⟩:=hn2
    rw [Qab hne]
    exact ⟨_,rfl⟩
   | inr s=>
    rw [hw] at hn2
    obtain ⟨rfl,rfl,rfl,rfl⟩:=hn2
    obtain ⟨re2,bo2⟩:=s
    obtain ⟨k1,k2⟩:=Qho p f _ _ _ _ _ _ _ hw
    have hrl:re2.length≤1000000:=by rw [← k1.1]; simp; exact hcl
    have hbl:bo2.length≤1000000:=by rw [← k2.1,Qdg _ _ hpn]; exact hvl
    rw [Qac rfl,QvL re2 (by omega),Qaa,QCh]
    show ∃ w,_=some (w,if re2.all id=false then (3:Int) else if bo2.all id=false then 3 else 0)
    dsimp only
    cases hr:re2.all id with
    | false=>exact ⟨_,rfl⟩
    | true=>
     rw [cond_true,Qr3 bo2 (by omega),Qaa]
     cases hb:bo2.all id with
     | false=>exact ⟨_,rfl⟩
     | true=>exact ⟨_,rfl⟩
 ·rw [Qab hh,if_pos hh]
  exact ⟨_,rfl⟩
theorem Qyv (p:Qae)(hp:QbS p):QlF p=some (chk p):=by
 have hpl:=hp.funs
 rw [QtX,QCb p.1 hp.Qnr,Qaa]
 unfold chk
 by_cases hd:chkD p.1=0
 ·rw [Qac hd,if_neg (by simpa using hd)]
  by_cases h6:128<(p.2.length:Int)
  ·rw [Qac h6,if_pos h6]
  ·rw [Qab h6,if_neg h6]
   have key:∀ (r pre:List GFun),p.2=pre++r→Qe6 p (p.2.length:Int) (pre.length:Int)=some (if chkL p pre.length r=0 then .inl () else .inr (chkL p pre.length r)):=by
    intro r
    induction r with
    | nil=>
     intro pre h
     rw [QjX,Qab (by rw [h]; simp)]
     rfl
    | cons f r ih=>
     intro pre h
     have hk:p.2[pre.length]?=some f:=by rw [h,List.getElem?_append_right (Nat.le_refl _)]; simp
     obtain ⟨w,hw⟩:=QCi p hp pre.length f hk
     rw [QjX,Qal hk,cond_true,hw,Qaa]
     simp only
     rw [chkL]
     by_cases he:chkF p pre.length f=0
     ·rw [Qac he,if_pos he,Qam hk (by omega)]
      have:=ih (pre++[f]) (by rw [h]; simp)
      simpa using this
     ·rw [Qab he,if_neg he,if_neg he]
   rw [show Qe6 p (p.2.length:Int) 0=_ from key p.2 [] rfl,Qaa]
   simp only [List.length_nil]
   by_cases he:chkL p 0 p.2=0
   ·rw [if_pos he,he]
   ·rw [if_neg he]
 ·rw [Qab hd,if_pos hd]
end Go.Proofs.YtkecfadnfnnfaaaGreatDoor.LabB
