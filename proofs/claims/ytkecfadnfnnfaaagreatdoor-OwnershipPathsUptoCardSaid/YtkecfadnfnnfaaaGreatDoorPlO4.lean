/- Of the models of the ownership statements: the rules of a node. -/
import Derived.Test.YtkecfadnfnnfaaaGreatDoorPlO2
set_option linter.unusedVariables false
set_option linter.unusedSimpArgs false
namespace Go.Proofs.YtkecfadnfnnfaaaGreatDoor.LabB.O
open Go Go.Ev Go.Sy Go.Proofs.YtkecfadnfnnfaaaGreatDoor.LabB
def iniR (p:Qae):Nat→List GVar→List Int
 | _,[]=>[]
 | i,x::r=>(if flat p.1 x.1=true then -1 else (i:Int))::iniR p (i+1) r
theorem QAE (p:Qae):∀ (l:List GVar) (i j:Nat),(iniR p i l)[j]?=(l[j]?).map fun x=>if flat p.1 x.1=true then -1 else ((i+j:Nat):Int)
 | [],i,j=>by simp [iniR]
 | x::l,i,0=>by simp [iniR]
 | x::l,i,j+1=>by
  rw [iniR,List.getElem?_cons_succ,QAE p l (i+1) j,List.getElem?_cons_succ,show i+1+j=i+(j+1) by omega]
theorem QsZ (p:Qae):∀ (l:List GVar) (i:Nat),(iniR p i l).length=l.length
 | [],i=>rfl
 | x::l,i=>by rw [iniR,List.length_cons,QsZ p l,List.length_cons]
def rt (s:List Int)(v:Int):Int:=match s[v.toNat]? with |some r=>r |none=>0
structure RInv (p:Qae)(f:GFun)(s:List Int):Prop where
 len:s.length=(Qaf f).length
 at_:∀ v:Int,0≤v→v<((Qaf f).length:Int)→(flV p f v=true→rt s v = -1)∧(flV p f v=false→0≤rt s v∧rt s v<((Qaf f).length:Int))∧(own p f v=true→rt s v=v)
theorem QgM {s:List Int}{v:Int}(h0:0≤v)(h1:v<(s.length:Int)):at' s v=some (rt s v):=by
 obtain ⟨x,hx,hx'⟩:=Qhy h0 h1
 unfold rt
 rw [hx,hx']
theorem Qql {p:Qae}{f:GFun}{v:Int}:own p f v=true↔flV p f v=false∧rdOf f v=false:=by
 unfold own
 rw [Bool.and_eq_true,Bool.not_eq_true',Bool.not_eq_true']
theorem QCM (s:List Int)(v w r:Int)(h0:0≤v)(h1:v<(s.length:Int))(h2:0≤w):rt (s.set v.toNat r) w=if w=v then r else rt s w:=by
 unfold rt
 rw [List.getElem?_set]
 by_cases h:w=v
 ·subst h
  rw [if_pos rfl,if_pos (by omega),if_pos rfl]
 ·rw [if_neg (by omega),if_neg h]
theorem RInv.step {p:Qae}{f:GFun}{s:List Int}(h:RInv p f s){v a:Int}(h0:0≤v)(h1:v<((Qaf f).length:Int))(a0:0≤a)(a1:a<((Qaf f).length:Int))(hv:flV p f v=false)(hr:rdOf f v=true)(ha:flV p f a=false):RInv p f (s.set v.toNat (rt s a)):=by
 refine ⟨by rw [List.length_set]; exact h.len,fun w w0 w1=>?_⟩
 rw [QCM s v w _ h0 (by rw [h.len]; exact h1) w0]
 by_cases hw:w=v
 ·subst hw
  rw [if_pos rfl]
  refine ⟨fun h2=>(by rw [hv] at h2; cases h2),fun _=>(h.at_ a a0 a1).2.1 ha,fun h2=>?_⟩
  rw [(Qql.1 h2).2] at hr
  cases hr
 ·rw [if_neg hw]
  exact h.at_ w w0 w1
theorem QDN (p:Qae)(f:GFun):RInv p f (iniR p 0 (Qaf f)):=by
 refine ⟨QsZ p _ 0,fun v h0 h1=>?_⟩
 obtain ⟨x,hx,hx',hk,_⟩:=QhE f h0 h1
 have e:rt (iniR p 0 (Qaf f)) v=if flV p f v=true then -1 else v:=by
  unfold rt flV
  rw [QAE,hx',hk,Nat.zero_add]
  simp only [Option.map_some]
  rw [Int.toNat_of_nonneg h0]
 rw [e]
 refine ⟨fun h=>by rw [if_pos h],fun h=>by rw [if_neg (by rw [h]; simp)]; exact ⟨h0,h1⟩,fun h=>?_⟩
 rw [Qql] at h
 rw [if_neg (by rw [h.1]; simp)]
def QjV (p:Qae)(f:GFun)(a:Int)(s:List Int)(v:Int):List Int:=if flV p f v=true then s else s.set v.toNat (rt s a)
theorem QrF {α β γ:Type}(g:α→List β)(F:γ→β→γ):∀ (l:List α) (s:γ),(l.flatMap g).foldl F s=l.foldl (fun s x=>(g x).foldl F s) s
 | [],s=>rfl
 | x::l,s=>by rw [List.flatMap_cons,List.foldl_append,List.foldl_cons,QrF g F l]
section
variable (p:Qae) (f:GFun)
structure Bnd (a:Int)(l:List Int):Prop where
 a0:0≤a
 a1:a<((Qaf f).length:Int)
 fl:l≠[]→flV p f a=false
 rng:∀ v∈l,0≤v∧v<((Qaf f).length:Int)∧(flV p f v=false→rdOf f v=true)
theorem QoB (a:Int):∀ (l:List Int) (s:List Int),Bnd p f a l→RInv p f s→RInv p f (l.foldl (QjV p f a) s)
 | [],s,hb,hs=>hs
 | v::l,s,hb,hs=>by
  obtain ⟨h0,h1,h2⟩:=hb.rng v (by simp)
  rw [List.foldl_cons]
  refine QoB a l _ ⟨hb.a0,hb.a1,fun _=>hb.fl (by simp),fun w hw=>hb.rng w (by simp [hw])⟩ ?_
  unfold QjV
  cases hf:flV p f v with
  | true=>exact hs
  | false=>
   rw [if_neg (by simp)]
   exact hs.step h0 h1 hb.a0 hb.a1 hf (h2 hf) (hb.fl (by simp))
theorem QCh (n:Qag)(h1:Qa1 n=[arg0 n])(l:List Int)(hl:l.length≤1000000000000)(hb:Bnd p f (arg0 n) l)(s:List Int)(hs:RInv p f s):QbF (QaE p f) s p.1 p.2 f.1 f.2.1 f.2.2.1 f.2.2.2.1 f.2.2.2.2.1 f.2.2.2.2.2.1 f.2.2.2.2.2.2 n l (l.length:Int) 0=some (l.foldl (QjV p f (arg0 n)) s):=by
 refine QaY (L:=fun s i=>QbF (QaE p f) s p.1 p.2 f.1 f.2.1 f.2.2.1 f.2.2.2.1 f.2.2.2.2.1 f.2.2.2.2.2.1 f.2.2.2.2.2.2 n l (l.length:Int) i) (l:=l) (F:=QjV p f (arg0 n)) (E:=id) (fun _ s=>RInv p f s) (fun s i v hv hI=>?_) (fun s hI=>?_) s hs
 ·have hI':RInv p f s:=hI
  have hm:=List.mem_of_getElem? hv
  obtain ⟨h0,h2,h3⟩:=hb.rng v hm
  have hne:l≠[]:=fun h=>by rw [h] at hm; cases hm
  have hq:at' n.2.2.1 0=some (arg0 n):=by rw [show n.2.2.1=Qa1 n from rfl,h1]; rfl
  rw [QfP,Qal hv,cond_true,Qah hv,Qaa,QoA p f h0 h2,Qaa,Qan hv (by omega),hq,Qaa,QgM hb.a0 (by rw [hI'.len]; exact hb.a1),Qaa,QgM h0 (by rw [hI'.len]; exact h2),Qaa]
  unfold QjV
  cases hf:flV p f v with
  | true=>exact ⟨rfl,hI'⟩
  | false=>exact ⟨rfl,by rw [if_neg (by simp)]; exact hI'.step h0 h2 hb.a0 hb.a1 hf (h3 hf) (hb.fl hne)⟩
 ·rw [QfP,Qap,cond_false]; rfl
theorem QAF (n:Qag)(h1:Qa1 n=[arg0 n])(bs:List Qa2)(m i0:Int)(l:List Int)(hl:l.length≤1000000000000)(hb:Bnd p f (arg0 n) l)(s:List Int)(hs:RInv p f s):Qdl s p f n bs m i0 l (l.length:Int) 0=some (l.foldl (QjV p f (arg0 n)) s):=by
 refine QaY (L:=fun s i=>Qdl s p f n bs m i0 l (l.length:Int) i) (l:=l) (F:=QjV p f (arg0 n)) (E:=id) (fun _ s=>RInv p f s) (fun s i v hv hI=>?_) (fun s hI=>?_) s hs
 ·have hI':RInv p f s:=hI
  have hm:=List.mem_of_getElem? hv
  obtain ⟨h0,h2,h3⟩:=hb.rng v hm
  have hne:l≠[]:=fun h=>by rw [h] at hm; cases hm
  have hq:at' n.2.2.1 0=some (arg0 n):=by rw [show n.2.2.1=Qa1 n from rfl,h1]; rfl
  obtain ⟨r1,r2,_⟩:=hI'.at_ v h0 h2
  rw [QiJ,Qal hv,cond_true,Qah hv,Qaa,QgM h0 (by rw [hI'.len]; exact h2),Qaa,Qan hv (by omega),hq,Qaa,QgM hb.a0 (by rw [hI'.len]; exact hb.a1),Qaa]
  unfold QjV
  cases hf:flV p f v with
  | true=>rw [Qac (by rw [r1 hf]; decide)]; exact ⟨rfl,hI'⟩
  | false=>rw [Qab (by have:=r2 hf; omega)]; exact ⟨rfl,by rw [if_neg (by simp)]; exact hI'.step h0 h2 hb.a0 hb.a1 hf (h3 hf) (hb.fl hne)⟩
 ·rw [QiJ,Qap,cond_false]; rfl
theorem Qx7 (n:Qag)(h1:Qa1 n=[arg0 n])(bs:List Qa2)(m i0:Int)(l:List Int)(hl:l.length≤1000000000000)(hb:Bnd p f (arg0 n) l)(s:List Int)(hs:RInv p f s):QcH s p f n (Qaf f).length bs m i0 l (l.length:Int) 0=some (l.foldl (QjV p f (arg0 n)) s):=by
 refine QaY (L:=fun s i=>QcH s p f n (Qaf f).length bs m i0 l (l.length:Int) i) (l:=l) (F:=QjV p f (arg0 n)) (E:=id) (fun _ s=>RInv p f s) (fun s i v hv hI=>?_) (fun s hI=>?_) s hs
 ·have hI':RInv p f s:=hI
  have hm:=List.mem_of_getElem? hv
  obtain ⟨h0,h2,h3⟩:=hb.rng v hm
  have hne:l≠[]:=fun h=>by rw [h] at hm; cases hm
  have hq:at' n.2.2.1 0=some (arg0 n):=by rw [show n.2.2.1=Qa1 n from rfl,h1]; rfl
  obtain ⟨r1,r2,_⟩:=hI'.at_ v h0 h2
  rw [Qhr,Qal hv,cond_true,Qah hv,Qaa,Qab (show ¬ v<0 by omega),Qac h2,QgM h0 (by rw [hI'.len]; exact h2),Qaa,Qan hv (by omega),hq,Qaa,Qab (show ¬ arg0 n<0 by have:=hb.a0; omega),Qac hb.a1,QgM hb.a0 (by rw [hI'.len]; exact hb.a1),Qaa]
  unfold QjV
  cases hf:flV p f v with
  | true=>rw [Qac (by rw [r1 hf]; decide)]; exact ⟨rfl,hI'⟩
  | false=>rw [Qab (by have:=r2 hf; omega)]; exact ⟨rfl,by rw [if_neg (by simp)]; exact hI'.step h0 h2 hb.a0 hb.a1 hf (h3 hf) (hb.fl hne)⟩
 ·rw [Qhr,Qap,cond_false]; rfl
theorem QAG (n:Qag)(h1:Qa1 n=[arg0 n])(l:List Qa2)(hl:l.length≤1000000)(hll:∀ b∈l,b.1.length≤1000000000000)(hb:∀ b∈l,Bnd p f (arg0 n) b.1)(s:List Int)(hs:RInv p f s):Qer s p f n l (l.length:Int) 0=some (l.foldl (fun s b=>b.1.foldl (QjV p f (arg0 n)) s) s):=by
 refine QaY (L:=fun s i=>Qer s p f n l (l.length:Int) i) (l:=l) (F:=fun s b=>b.1.foldl (QjV p f (arg0 n)) s) (E:=id) (fun _ s=>RInv p f s) (fun s i b hv hI=>?_) (fun s hI=>?_) s hs
 ·have hm:=List.mem_of_getElem? hv
  rw [QiI,Qal hv,cond_true,Qah hv,Qaa,QAF p f n h1 _ _ _ b.1 (hll b hm) (hb b hm) s hI,Qaa,Qan hv (by omega)]
  exact ⟨rfl,QoB p f _ _ _ (hb b hm) hI⟩
 ·rw [QiI,Qap,cond_false]; rfl
theorem Qx8 (n:Qag)(h1:Qa1 n=[arg0 n])(l:List Qa2)(hl:l.length≤1000000)(hll:∀ b∈l,b.1.length≤1000000000000)(hb:∀ b∈l,Bnd p f (arg0 n) b.1)(s:List Int)(hs:RInv p f s):Qdf s p f n (Qaf f).length l (l.length:Int) 0=some (l.foldl (fun s b=>b.1.foldl (QjV p f (arg0 n)) s) s):=by
 refine QaY (L:=fun s i=>Qdf s p f n (Qaf f).length l (l.length:Int) i) (l:=l) (F:=fun s b=>b.1.foldl (QjV p f (arg0 n)) s) (E:=id) (fun _ s=>RInv p f s) (fun s i b hv hI=>?_) (fun s hI=>?_) s hs
 ·have hm:=List.mem_of_getElem? hv
  rw [Qhq,Qal hv,cond_true,Qah hv,Qaa,Qx7 p f n h1 _ _ _ b.1 (hll b hm) (hb b hm) s hI,Qaa,Qan hv (by omega)]
  exact ⟨rfl,QoB p f _ _ _ (hb b hm) hI⟩
 ·rw [Qhq,Qap,cond_false]; rfl
variable {p f} in
theorem Qbh.bnd {sc:List Bool}{n:Qag}(h:Qbh p f sc n)(hs:sc.length=(Qaf f).length)(h9:nOp n=9)(ht:QhD n=false):∀ b∈nBr n,Bnd p f (arg0 n) b.1:=fun b hb=>by
 have h1:=h.one (by omega)
 have hin:∀ v∈b.1,v∈binds n:=fun v hv=>by unfold binds; rw [if_pos h9]; exact List.mem_flatMap.2 ⟨b,hb,hv⟩
 have a0:0≤arg0 n:=h.QE1 (by omega) _ (by rw [h1]; simp)
 refine ⟨a0,h.args hs _ (by rw [h1]; simp) a0,fun hne=>h.field h9 b hb hne,fun v hv=>⟨(h.rng v (hin v hv)).1,(h.rng v (hin v hv)).2,fun hf=>?_⟩⟩
 rw [h.mode v (hin v hv),ht]
 unfold flV at hf
 rw [hf,QdC h9]
 rfl
variable {p f} in
theorem Qbh.QCN {sc:List Bool}{n:Qag}(h:Qbh p f sc n)(hs:sc.length=(Qaf f).length)(h9:nOp n=9)(ht:QhD n=false):Bnd p f (arg0 n) (binds n):=by
 have h1:=h.one (by omega)
 have a0:0≤arg0 n:=h.QE1 (by omega) _ (by rw [h1]; simp)
 have hb:binds n=(nBr n).flatMap (·.1):=by unfold binds; rw [if_pos h9]
 refine ⟨a0,h.args hs _ (by rw [h1]; simp) a0,fun hne=>?_,fun v hv=>?_⟩
 ·rw [hb] at hne
  cases hx:(nBr n).flatMap (·.1) with
  | nil=>exact absurd hx hne
  | cons v r=>
   obtain ⟨b,hb2,hv⟩:=List.mem_flatMap.1 (show v∈(nBr n).flatMap (·.1) by rw [hx]; simp)
   exact h.field h9 b hb2 (fun h=>by rw [h] at hv; cases hv)
 ·rw [hb] at hv
  obtain ⟨b,hb2,hv⟩:=List.mem_flatMap.1 hv
  exact (h.bnd hs h9 ht b hb2).rng v hv
def Qqm (n:Qag)(s:List Int):List Int:=if nOp n=9∧QhD n=false then (binds n).foldl (QjV p f (arg0 n)) s else s
theorem QE3 {d:Nat}{sc:List Bool}{n:Qag}(h:∀ x∈kb n,Ok p f d (setS true x.2 sc) x.1):∀ k∈kids n,∃ sc',Ok p f d sc' k:=fun k hk=>by
 rw [QcM] at hk
 obtain ⟨x,hx,rfl⟩:=List.mem_map.1 hk
 exact ⟨_,h x hx⟩
def Qs0 (s s':List Int)(k:Int):Prop:=QcG (QaE p f) s p.1 p.2 f.1 f.2.1 f.2.2.1 f.2.2.2.1 f.2.2.2.2.1 f.2.2.2.2.2.1 f.2.2.2.2.2.2 k=some s'∧Qf3 s p f k=some s'∧QgK s p f k (Qaf f).length=some s'∧RInv p f s'
theorem Qx9 (d:Nat)(ks:List Int)(hl:ks.length≤1000)(hg:∀ k∈ks,∀ s,RInv p f s→∃ s',Qs0 p f s s' k):∀ (r pre:List Int) (s:List Int),ks=pre++r→RInv p f s→
  ∃ s',Qci (QaE p f) s p.1 p.2 f.1 f.2.1 f.2.2.1 f.2.2.2.1 f.2.2.2.2.1 f.2.2.2.2.2.1 f.2.2.2.2.2.2 ks (ks.length:Int) (pre.length:Int)=some s'∧QbX s p f (Qaf f).length ks (ks.length:Int) (pre.length:Int)=some s'∧RInv p f s':=by
 intro r
 induction r with
 | nil=>
  intro pre s h hs
  rw [QfQ,Qe1]
  subst h
  rw [Qem (Qgw pre),Qem (Qgw pre)]
  exact ⟨s,rfl,rfl,hs⟩
 | cons k r ih=>
  intro pre s h hs
  obtain ⟨s1,a1,a2,a3,a4⟩:=hg k (by rw [h]; simp) s hs
  rw [QfQ,Qe1]
  have hln:ks.length=pre.length+(r.length+1):=by rw [h]; simp
  have e1:decide ((pre.length:Int)<(ks.length:Int))=true:=decide_eq_true (by omega)
  have e2:at' ks (pre.length:Int)=some k:=by rw [h]; exact QwP pre k r
  have e3:Ev.wr .i64 ((pre.length:Int)+1)=((pre++[k]).length:Int):=by rw [Sy.QbK (by omega)]; simp
  rw [e1,cond_true,cond_true,e2,Qaa,Qaa,a1,a3,Qaa,Qaa,e3]
  exact ih (pre++[k]) s1 (by rw [h]; simp) a4
theorem QCi (hp:Qcq p)(hf:QjD f):∀ (d:Nat) (sc:List Bool) (k:Int) (s:List Int),Ok p f d sc k→RInv p f s→∃ s',Qs0 p f s s' k:=by
 intro d
 induction d with
 | zero=>intro sc k s h hs; exact absurd h id
 | succ d ih=>
  intro sc k s h hs
  obtain ⟨hk,hsc,n,hn,ho,hkb⟩:=h
  have hsm:=hf.nodes n (List.mem_of_getElem? hn)
  have hat:at' f.2.2.2.2.1 k=some n:=Qhc hk hn
  have hks:=QgL n hsm
  have hbl:=Qum n hsm
  have hbr:=hsm.br
  have hfv:(Qaf f).length≤1000000:=hf.vars
  have hkid:∀ k∈kids n,∀ s,RInv p f s→∃ s',Qs0 p f s s' k:=fun k hk s hs=>by
   obtain ⟨sc',ho'⟩:=QE3 p f hkb k hk
   exact ih sc' k s ho' hs
  have hroot:RInv p f (Qqm p f n s):=by
   unfold Qqm
   split
   ·rename_i h9; exact QoB p f _ _ _ (ho.QCN hsc h9.1 h9.2) hs
   ·exact hs
  obtain ⟨s2,b1,b2,b3⟩:=Qx9 p f d (kids n) hks hkid (kids n) [] (Qqm p f n s) rfl hroot
  have e1:QcG (QaE p f) s p.1 p.2 f.1 f.2.1 f.2.2.1 f.2.2.2.1 f.2.2.2.2.1 f.2.2.2.2.2.1 f.2.2.2.2.2.2 k=some s2:=by
   rw [QlQ,hat,Qaa,QgS n hsm,QkF n hsm]
   simp only [Qb0,Qaa]
   have b1':Qci (QaE p f) (Qqm p f n s) p.1 p.2 f.1 f.2.1 f.2.2.1 f.2.2.2.1 f.2.2.2.2.1 f.2.2.2.2.2.1 f.2.2.2.2.2.2 (kids n) ((kids n).length:Int) 0=some s2:=b1
   unfold Qqm at b1'
   by_cases h9:nOp n=9
   ·rw [Qac h9]
    cases ht:QhD n with
    | true=>
     rw [if_neg (by rw [ht]; simp)] at b1'
     rw [show n.2.2.2.2.2.2.2.1=true from ht,Bool.not_true,cond_false,b1']; rfl
    | false=>
     rw [if_pos ⟨h9,ht⟩] at b1'
     rw [show n.2.2.2.2.2.2.2.1=false from ht,Bool.not_false,cond_true,QCh p f n (ho.one (by omega)) (binds n) (by have:=ho.len; omega) (ho.QCN hsc h9 ht) s hs,Qaa,Qaa,b1']; rfl
   ·rw [Qab h9,cond_false]
    rw [if_neg (fun h=>h9 h.1)] at b1'
    rw [b1']; rfl
  have hfl:nOp n=9→(nBr n).foldl (fun s b=>b.1.foldl (QjV p f (arg0 n)) s) s=(binds n).foldl (QjV p f (arg0 n)) s:=fun h9=>by
   unfold binds
   rw [if_pos h9,QrF]
  have e3:QgK s p f k (Qaf f).length=some s2:=by
   rw [Qoc,hat,Qaa,Quf n hsm]
   simp only [Qb0,Qaa]
   have b2':QbX (Qqm p f n s) p f (Qaf f).length (kids n) ((kids n).length:Int) 0=some s2:=b2
   unfold Qqm at b2'
   by_cases h9:nOp n=9
   ·rw [Qac h9]
    cases ht:QhD n with
    | true=>
     rw [if_neg (by rw [ht]; simp)] at b2'
     rw [show n.2.2.2.2.2.2.2.1=true from ht,Bool.not_true,cond_false,b2']; rfl
    | false=>
     rw [if_pos ⟨h9,ht⟩] at b2'
     rw [show n.2.2.2.2.2.2.2.1=false from ht,Bool.not_false,cond_true,Qx8 p f n (ho.one (by omega)) (nBr n) (by omega) (fun b hb=>by have:=hsm.bs b hb; omega) (ho.bnd hsc h9 ht) s hs,Qaa,Qaa,hfl h9,b2']; rfl
   ·rw [Qab h9,cond_false]
    rw [if_neg (fun h=>h9 h.1)] at b2'
    rw [b2']; rfl
  have hL4:Qh9 (Qqm p f n s) p f (kids n) ((kids n).length:Int) 0=some s2:=by
   have b2':QbX (Qqm p f n s) p f (Qaf f).length (kids n) ((kids n).length:Int) 0=some s2:=b2
   rw [Qe1] at b2'
   rw [Qns]
   by_cases hlt:(0:Int)<((kids n).length:Int)
   ·rw [Qac hlt] at b2' ⊢
    obtain ⟨k1,hk1,hk1'⟩:=Qhy (l:=kids n) (i:=0) (by omega) hlt
    obtain ⟨s1,c1,c2,c3,c4⟩:=hkid k1 (List.mem_of_getElem? hk1') (Qqm p f n s) hroot
    rw [hk1,Qaa,c3,Qaa] at b2'
    rw [hk1,Qaa,c2,Qaa,hroot.len,b2']
    rfl
   ·rw [Qab hlt] at b2' ⊢
    exact b2'
  have e2:Qf3 s p f k=some s2:=by
   rw [QqK,hat,Qaa,Quf n hsm]
   simp only [Qb0,Qaa]
   unfold Qqm at hL4
   by_cases h9:nOp n=9
   ·rw [Qac h9]
    cases ht:QhD n with
    | true=>
     rw [if_neg (by rw [ht]; simp)] at hL4
     rw [show n.2.2.2.2.2.2.2.1=true from ht,Bool.not_true,cond_false,hL4]; rfl
    | false=>
     rw [if_pos ⟨h9,ht⟩] at hL4
     rw [show n.2.2.2.2.2.2.2.1=false from ht,Bool.not_false,cond_true,QAG p f n (ho.one (by omega)) (nBr n) (by omega) (fun b hb=>by have:=hsm.bs b hb; omega) (ho.bnd hsc h9 ht) s hs,Qaa,Qaa,hfl h9,hL4]; rfl
   ·rw [Qab h9,cond_false]
    rw [if_neg (fun h=>h9 h.1)] at hL4
    rw [hL4]; rfl
  exact ⟨s2,e1,e2,e3,b3⟩
theorem QFG (hd:QeO p.1)(hl:(Qaf f).length≤1000000):∀ (r pre:List GVar) (a:List Bool) (b:List Int),Qaf f=pre++r→a.length=pre.length→b.length=pre.length→
  QcW a b p p.1 p.2 f.1 f.2.1 f.2.2.1 f.2.2.2.1 f.2.2.2.2.1 f.2.2.2.2.2.1 f.2.2.2.2.2.2 (Qaf f) ((Qaf f).length:Int) (pre.length:Int)=some (a++r.map (fun x=>flat p.1 x.1),b++iniR p pre.length r):=by
 intro r
 induction r with
 | nil=>
  intro pre a b h ha hb
  rw [Qgx,Qab (by rw [h]; simp)]
  simp [iniR]
 | cons x r ih=>
  intro pre a b h ha hb
  have hln:(Qaf f).length=pre.length+(r.length+1):=by rw [h]; simp
  have e2:at' (Qaf f) (pre.length:Int)=some x:=by rw [h]; exact QwP pre x r
  have e3:Ev.wr .i64 ((pre.length:Int)+1)=((pre++[x]).length:Int):=by rw [Sy.QbK (by omega)]; simp
  have hpl:(pre++[x]).length=pre.length+1:=by simp
  rw [Qgx,Qac (by omega),e2,Qaa,QmE p.1 hd,Qaa,Qac (show (a.length+1) * 1≤35184372088832 by omega),Qk3,Qaa,Qac (show (b.length+1) * 8≤35184372088832 by omega),e3,ih (pre++[x]) _ _ (by rw [h]; simp) (by simp; omega) (by simp; omega),hpl]
  rw [iniR,List.map_cons]
  cases flat p.1 x.1<;>simp
theorem QDO (hp:Qcq p)(ho:HOk p f)(hl:(Qaf f).length≤1000000):∀ (r pre:List GVar) (b:List Int),Qaf f=pre++r→b.length=pre.length→
  Qde b p f (pre.length:Int)=some (b++iniR p pre.length r):=by
 intro r
 induction r with
 | nil=>
  intro pre b h hb
  rw [Qhp,Qab (show ¬ (pre.length:Int)<((Qaf f).length:Int) by rw [h]; simp)]
  simp [iniR]
 | cons x r ih=>
  intro pre b h hb
  have hln:(Qaf f).length=pre.length+(r.length+1):=by rw [h]; simp
  have e2:(Qaf f)[((pre.length:Int)).toNat]?=some x:=by rw [h,Int.toNat_natCast]; simp
  have e3:Ev.wr .i64 ((pre.length:Int)+1)=((pre++[x]).length:Int):=by rw [Sy.QbK (by omega)]; simp
  have hpl:(pre++[x]).length=pre.length+1:=by simp
  have hfl:flV p f (pre.length:Int)=flat p.1 x.1:=by unfold flV kd; rw [e2]
  rw [Qhp,Qac (show (pre.length:Int)<((Qaf f).length:Int) by omega),QwZ p f hp ho (by omega) (by omega),Qaa,Qk3,Qaa,Qac (show (b.length+1) * 8≤35184372088832 by omega),e3,ih (pre++[x]) _ (by rw [h]; simp) (by simp; omega),hpl,hfl]
  rw [iniR]
  cases flat p.1 x.1<;>simp
theorem QAH (hp:Qcq p)(k:Nat)(hk:p.2[k]?=some f)(ho:QDM p f):∃ s,Qf7 p (k:Int)=some (QaE p f,s,p.1,p.2,f.1,f.2.1,f.2.2.1,f.2.2.2.1,f.2.2.2.2.1,f.2.2.2.2.2.1,f.2.2.2.2.2.2)∧Qd4 p f=some s∧RInv p f s:=by
 have hf:=hp.all f (List.mem_of_getElem? hk)
 have hv:=hf.vars
 have a1:=QFG p f hp.QsW hv (Qaf f) [] [] [] rfl rfl rfl
 have a2:=QDO p f hp ho.hok hv (Qaf f) [] [] rfl rfl
 have i0:=QDN p f
 rw [Qnr,Qah hk,Qaa,show QcW ([]:List Bool) ([]:List Int) p p.1 p.2 f.1 f.2.1 f.2.2.1 f.2.2.2.1 f.2.2.2.2.1 f.2.2.2.2.2.1 f.2.2.2.2.2.2 f.2.2.2.1 (f.2.2.2.1.length:Int) 0=_ from a1,Qaa,Qob,show Qde ([]:List Int) p f 0=_ from a2,Qaa]
 simp only [List.nil_append,List.length_nil]
 cases he:fExt f with
 | true=>
  rw [show f.2.2.2.2.2.2=true from he]
  exact ⟨_,rfl,rfl,i0⟩
 | false=>
  rw [show f.2.2.2.2.2.2=false from he]
  obtain ⟨s',b1,b2,b3,b4⟩:=QCi p f hp hf _ _ _ _ (ho.body he) i0
  rw [show f.2.2.2.2.2.2=false from he] at b1
  refine ⟨s',?_,?_,b4⟩
  ·rw [cond_false,show QcG (List.map (fun x=>flat p.1 x.1) (Qaf f)) (iniR p 0 (Qaf f)) p.1 p.2 f.1 f.2.1 f.2.2.1 f.2.2.2.1 f.2.2.2.2.1 f.2.2.2.2.2.1 false f.2.2.2.2.2.1=_ from b1]
   rfl
  ·rw [cond_false,show Qf3 (iniR p 0 (Qaf f)) p f f.2.2.2.2.2.1=_ from b2,Qaa,Qaa]
   show (bif decide ((iniR p 0 (Qaf f)).length≤s'.length) then some (List.take (iniR p 0 (Qaf f)).length s') else none)=some s'
   rw [QsZ,b4.len.symm,Qac (Nat.le_refl _),List.take_length]
end
end Go.Proofs.YtkecfadnfnnfaaaGreatDoor.LabB.O
namespace Go.Proofs.YtkecfadnfnnfaaaGreatDoor.LabB.O
open Go Go.Ev Go.Sy Go.Proofs.YtkecfadnfnnfaaaGreatDoor.LabB
theorem QAI {α:Type}{q:Nat→α→Bool}:∀ (l:List α) (k:Nat),(∀ (i:Nat) x,l[i]?=some x→q (k+i) x=true)→allI q k l=true
 | [],k,h=>rfl
 | y::l,k,h=>by
  rw [allI,Bool.and_eq_true]
  refine ⟨h 0 y rfl,QAI l (k+1) fun i x hx=>?_⟩
  rw [show k+1+i=k+(i+1) by omega]
  exact h (i+1) x (by simpa using hx)
def gm (G:List Bool)(v:Int):Bool:=G[v.toNat]?==some true
theorem Qya {G:List Bool}{v:Int}(h0:0≤v)(h1:v<(G.length:Int)):at' G v=some (gm G v):=by
 obtain ⟨x,hx,hx'⟩:=Qhy h0 h1
 rw [hx]
 unfold gm
 rw [hx']
 cases x<;>rfl
theorem Qw0 {G:List Bool}{v:Int}:gm G v=true↔G[v.toNat]?=some true:=by unfold gm; rw [beq_iff_eq]
def dupS (s cons reads:List Int):Bool:=allI (fun i v=>!decide (v∈cons.take i)&&reads.all (fun r=>!decide (rt s r=v))) 0 cons
def endS (G B:List Bool)(cons:List Int):Bool:=allI (fun i b=>!(b&&!gm G (i:Int)&&!decide ((i:Int)∈cons))) 0 B
def badS (f:GFun)(s:List Int)(r:Int):Bool:=bif decide (rt s r<fPar f) then !rdOf f (rt s r) else true
def QfI (f:GFun)(s:List Int)(last:Bool)(op:Int)(cons reads:List Int)(G B:List Bool):Int:=
 if cons.all (fun v=>!rdOf f v)=true then
  (if (cons++reads).all (fun v=>!gm G (rt s v))=true then
   (if dupS s cons reads=true then
    (if op=0∨op=7∨op=8 then
     (if (decide (op=0)||reads.all (fun r=>!badS f s r))=true then (if (!last||endS G B cons)=true then 0 else 12) else 12)
    else 0)
   else 12)
  else 12)
 else 11
theorem Qd6 (l:List Int)(hl:l.length≤9223372036854775807)(v:Int):QaW l v=some (decide (v∈l)):=by
 rw [QkC,QmD,QdH (L:=fun i=>Qdz l v (l.length:Int) i) (l:=l) (p:=fun x=>decide (v=x)) (A:=fun j=>.inl (j:Int)) (B:=.inr ()) (fun i x hx=>by
  rw [Qgo,Qal hx,cond_true,Qah hx,Qaa,Qan hx hl,Qaz]) (by rw [Qgo,Qap,cond_false])]
 have e:decide (v∈l)=l.any (fun x=>decide (v=x)):=by rw [Bool.eq_iff_iff]; simp
 rw [e,← QcF _ l 0]
 cases Qix _ 0 l with
 | none=>rfl
 | some j=>simp only [Qaa]; rw [QaR (by omega)]; rfl
theorem Qh4 (l:List Int)(hl:l.length≤9223372036854775807)(v:Int):Qes l v=some (decide (v∈l)):=by
 rw [Quc,Qay (L:=fun i=>QhW l v i) (l:=l) (p:=fun x=>!decide (x=v)) (A:=.inl ()) (B:=.inr ()) (fun i x hx=>by
  rw [QkA,Qal hx,cond_true,Qah hx,Qaa,Qan hx hl,Qaz]
  cases decide (x=v)<;>rfl) (by rw [QkA,Qap,cond_false]),Qaa]
 have:decide (v∈l)=!l.all fun x=>!decide (x=v):=by
  rw [Bool.eq_iff_iff]
  simp
 rw [this]
 cases l.all _<;>rfl
theorem QlU (a b:List Int)(ha:a.length≤1000000)(hb:b.length≤1000000):Qet (a::(b::([]:List (List (Int)))))=some (a++b):=by
 have e1:Ev.wr .i64 (0+(a.length:Int))=(a.length:Int):=by rw [Qmw (by omega) (by omega)]; omega
 have e2:Ev.wr .i64 ((a.length:Int)+(b.length:Int))=((a++b).length:Int):=by rw [Qmw (by omega) (by omega),List.length_append]; omega
 have w1:Ev.wr .i64 ((0:Int)+1)=1:=rfl
 have w2:Ev.wr .i64 ((1:Int)+1)=2:=rfl
 have l0:at' [a,b] 0=some a:=rfl
 have l1:at' [a,b] 1=some b:=rfl
 have hl:(([a,b]:List (List Int)).length:Int)=2:=rfl
 have s0:Qd5 [a,b] 0 [a,b] (([a,b]:List (List Int)).length:Int) 0=some ((a++b).length:Int):=by
  rw [hl,Qei,Qac (by decide),l0,Qaa,e1,Qab (by omega),w1,Qei,Qac (by decide),l1,Qaa,e2,Qab (by omega),w2,Qei,Qab (by decide)]
 have hab:(a++b).length=a.length+b.length:=by simp
 have s1:QbI a [a,b] 2 1=some (a++b):=by
  rw [Qdx,Qac (by decide),l1,Qaa,Qac (by omega),w2,Qdx,Qab (by decide)]
 have s2:QbI ([]:List Int) [a,b] 2 0=some (a++b):=by
  rw [Qdx,Qac (by decide),l0,Qaa,Qac (by simp; omega),List.nil_append,w1,s1]
 have e3:Ev.wr .i64 (((a++b).length:Int) - 0)=((a++b).length:Int):=by rw [Qmw (by omega) (by omega)]; omega
 rw [Qnu,s0,Qaa,Qp8,e3,Qab (by omega),hl]
 by_cases h0:(0:Int)<((a++b).length:Int)
 ·rw [Qac h0,Qab (by omega),Qac (by rw [Int.toNat_natCast]; omega),Qab (by omega),Qaa]
  dsimp only
  rw [Qaa]
  dsimp only
  rw [Qle,Qac (by decide),l0,Qaa,Qac (by omega),Qac (by omega),List.take_zero,List.nil_append,w1,s1]
  rfl
 ·rw [Qab h0,Qaa]
  dsimp only
  rw [Qaa]
  dsimp only
  rw [s2]
  rfl
section
variable (p:Qae) (f:GFun)
structure Vs (l:List Int):Prop where
 len:l.length≤3000
 rng:∀ v∈l,0≤v∧v<((Qaf f).length:Int)∧flV p f v=false
theorem Qut (l:List Int)(hl:l.length≤1000)(hr:∀ v∈l,0≤v→v<((Qaf f).length:Int)):(QiU p f l).length≤1000∧∀ v∈QiU p f l,0≤v∧v<((Qaf f).length:Int)∧flV p f v=false:=by
 refine ⟨Nat.le_trans (List.length_filter_le _ _) hl,fun v hv=>?_⟩
 unfold QiU at hv
 rw [List.mem_filter,Bool.and_eq_true,decide_eq_true_eq,Bool.not_eq_true'] at hv
 exact ⟨hv.2.1,hr v hv.1 hv.2.1,hv.2.2⟩
theorem Qqn (h:GFun)(rd:Bool):∀ (l:List Int) (i:Nat),∀ v∈QlT p f h rd i l,v∈l∧flV p f v=false
 | [],i,v,hv=>by cases hv
 | w::l,i,v,hv=>by
  rw [QlT] at hv
  split at hv
  ·rename_i hc
   rw [Bool.and_eq_true,Bool.not_eq_true'] at hc
   rw [List.mem_cons] at hv
   rcases hv with rfl |hv
   ·exact ⟨by simp,hc.2⟩
   ·have:=Qqn h rd l (i+1) v hv
    exact ⟨by simp [this.1],this.2⟩
  ·have:=Qqn h rd l (i+1) v hv
   exact ⟨by simp [this.1],this.2⟩
theorem QmM {g:Int}{l:List Int}{h:GFun}(hc:Quq p f g l h)(rd:Bool)(hl:l.length≤1000):(Qh3 p f g rd l).length≤1000∧∀ v∈Qh3 p f g rd l,0≤v∧v<((Qaf f).length:Int)∧flV p f v=false:=by
 unfold Qh3
 rw [hc.get]
 refine ⟨Nat.le_trans (Qqk p f h rd l 0) hl,fun v hv=>?_⟩
 obtain ⟨h1,h2⟩:=Qqn p f h rd l 0 v hv
 exact ⟨(hc.rng v h1).1,(hc.rng v h1).2,h2⟩
variable {p f} in
theorem Qbh.cons {sc:List Bool}{n:Qag}(h:Qbh p f sc n)(hn:QcD n)(hs:sc.length=(Qaf f).length):Vs p f (Qad p f n):=by
 have a:=Qut p f (Qa1 n) hn.args (h.args hs)
 unfold Qad
 split
 ·exact ⟨by omega,a.2⟩
 split
 ·split
  ·exact ⟨by omega,a.2⟩
  ·exact ⟨by simp,fun v hv=>by cases hv⟩
 split
 ·rename_i h6
  obtain ⟨g,hc⟩:=h.call hs h6
  have b:=QmM p f hc false hn.args
  exact ⟨by omega,b.2⟩
 split
 ·rename_i h8
  obtain ⟨g,hc⟩:=h.hole hs h8
  have b:=QmM p f hc false hn.more
  refine ⟨by rw [List.length_append]; omega,fun v hv=>?_⟩
  rw [List.mem_append] at hv
  rcases hv with hv |hv
  ·exact a.2 v hv
  ·exact b.2 v hv
 ·exact ⟨by simp,fun v hv=>by cases hv⟩
variable {p f} in
theorem Qbh.rds {sc:List Bool}{n:Qag}(h:Qbh p f sc n)(hn:QcD n)(hs:sc.length=(Qaf f).length):Vs p f (reads p f n):=by
 have a:=Qut p f (Qa1 n) hn.args (h.args hs)
 unfold reads
 split
 ·exact ⟨by omega,a.2⟩
 split
 ·split
  ·exact ⟨by simp,fun v hv=>by cases hv⟩
  ·exact ⟨by omega,a.2⟩
 split
 ·rename_i h6
  obtain ⟨g,hc⟩:=h.call hs h6
  have b:=QmM p f hc true hn.args
  exact ⟨by omega,b.2⟩
 split
 ·rename_i h8
  obtain ⟨g,hc⟩:=h.hole hs h8
  have b:=QmM p f hc true hn.more
  exact ⟨by omega,b.2⟩
 ·exact ⟨by simp,fun v hv=>by cases hv⟩
theorem Vs.app {a b:List Int}(ha:Vs p f a)(hb:Vs p f b):∀ v∈a++b,0≤v∧v<((Qaf f).length:Int)∧flV p f v=false:=fun v hv=>by
 rw [List.mem_append] at hv
 rcases hv with hv |hv
 ·exact ha.rng v hv
 ·exact hb.rng v hv
variable (G B:List Bool) (s:List Int) (n:Qag) (last:Bool) (cons rd:List Int) (gl bl:Nat)
theorem ru0 (l:List Int)(hl:Vs p f l):Qbx G B (QaE p f) s l rd p.1 p.2 f.1 f.2.1 f.2.2.1 f.2.2.2.1 f.2.2.2.2.1 f.2.2.2.2.2.1 f.2.2.2.2.2.2 n last (l.length:Int) 0=some (if l.all (fun v=>!rdOf f v)=true then .inr () else .inl ()):=by
 have:=hl.len
 refine Qay (L:=fun i=>Qbx G B (QaE p f) s l rd p.1 p.2 f.1 f.2.1 f.2.2.1 f.2.2.2.1 f.2.2.2.2.1 f.2.2.2.2.2.1 f.2.2.2.2.2.2 n last (l.length:Int) i) (l:=l) (fun i v hv=>?_) ?_
 ·obtain ⟨h0,h1,_⟩:=hl.rng v (List.mem_of_getElem? hv)
  obtain ⟨x,hx,_,_,hr⟩:=QhE f h0 h1
  rw [QeH,Qal hv,cond_true,Qah hv,Qaa,show at' f.2.2.2.1 v=some x from hx,Qaa,Qan hv (by omega),hr]
  cases x.2<;>rfl
 ·rw [QeH,Qap,cond_false]
theorem ru2 (hs:RInv p f s)(hG:G.length=gl)(hg:gl=(Qaf f).length)(l:List Int)(hll:l.length≤1000000)(hl:∀ v∈l,0≤v∧v<((Qaf f).length:Int)∧flV p f v=false):Qbz G B (QaE p f) s cons rd p.1 p.2 f.1 f.2.1 f.2.2.1 f.2.2.2.1 f.2.2.2.2.1 f.2.2.2.2.2.1 f.2.2.2.2.2.2 n last l (l.length:Int) 0=some (if l.all (fun v=>!gm G (rt s v))=true then .inr () else .inl ()):=by
 refine Qay (L:=fun i=>Qbz G B (QaE p f) s cons rd p.1 p.2 f.1 f.2.1 f.2.2.1 f.2.2.2.1 f.2.2.2.2.1 f.2.2.2.2.2.1 f.2.2.2.2.2.2 n last l (l.length:Int) i) (l:=l) (fun i v hv=>?_) ?_
 ·obtain ⟨h0,h1,h2⟩:=hl v (List.mem_of_getElem? hv)
  obtain ⟨r0,r1⟩:=(hs.at_ v h0 h1).2.1 h2
  rw [QeJ,Qal hv,cond_true,Qah hv,Qaa,QgM h0 (by rw [hs.len]; exact h1),Qaa,Qya r0 (by omega),Qaa,Qan hv (by omega)]
  cases gm G (rt s v)<;>rfl
 ·rw [QeJ,Qap,cond_false]
theorem ru6 (hs:RInv p f s)(hr:Vs p f rd)(v lc i0:Int):QbB G B (QaE p f) s cons rd p.1 p.2 f.1 f.2.1 f.2.2.1 f.2.2.2.1 f.2.2.2.2.1 f.2.2.2.2.2.1 f.2.2.2.2.2.2 n last v lc i0 (rd.length:Int) 0=some (if rd.all (fun r=>!decide (rt s r=v))=true then .inr () else .inl ()):=by
 have:=hr.len
 refine Qay (L:=fun i=>QbB G B (QaE p f) s cons rd p.1 p.2 f.1 f.2.1 f.2.2.1 f.2.2.2.1 f.2.2.2.2.1 f.2.2.2.2.2.1 f.2.2.2.2.2.2 n last v lc i0 (rd.length:Int) i) (l:=rd) (fun i r hv=>?_) ?_
 ·obtain ⟨h0,h1,h2⟩:=hr.rng r (List.mem_of_getElem? hv)
  rw [QeL,Qal hv,cond_true,Qah hv,Qaa,QgM h0 (by rw [hs.len]; exact h1),Qaa,Qan hv (by omega)]
  cases decide (rt s r=v)<;>rfl
 ·rw [QeL,Qap,cond_false]
theorem ru4 (hs:RInv p f s)(hc:Vs p f cons)(hr:Vs p f rd):QbA G B (QaE p f) s cons rd p.1 p.2 f.1 f.2.1 f.2.2.1 f.2.2.2.1 f.2.2.2.2.1 f.2.2.2.2.2.1 f.2.2.2.2.2.2 n last (cons.length:Int) 0=some (if dupS s cons rd=true then .inl () else .inr ()):=by
 have hcl:=hc.len
 unfold dupS
 refine QdG (L:=fun i=>QbA G B (QaE p f) s cons rd p.1 p.2 f.1 f.2.1 f.2.2.1 f.2.2.2.1 f.2.2.2.2.1 f.2.2.2.2.2.1 f.2.2.2.2.2.2 n last (cons.length:Int) i) (l:=cons) (fun i v hv=>?_) ?_
 ·have hi:=Qcd hv
  have htl:(cons.take i).length≤9223372036854775807:=by rw [List.length_take]; omega
  rw [QeK,Qal hv,cond_true,Qah hv,Qaa,Qab (show ¬ (i:Int)<0 by omega),Qab (show ¬ (cons.length:Int)<(i:Int) by omega),Int.toNat_natCast,Qac (show i≤cons.length by omega),Qd6 _ htl v,Qaa,ru6 p f G B s n last cons rd hs hr,Qaa,Qan hv (by omega)]
  cases decide (v∈cons.take i)<;>cases rd.all (fun r=>!decide (rt s r=v))<;>rfl
 ·rw [QeK,Qap,cond_false]
theorem ru8 (hs:RInv p f s)(hr:Vs p f rd):QbC G B (QaE p f) s cons rd p.1 p.2 f.1 f.2.1 f.2.2.1 f.2.2.2.1 f.2.2.2.2.1 f.2.2.2.2.2.1 f.2.2.2.2.2.2 last (rd.length:Int) 0=some (if rd.all (fun r=>!badS f s r)=true then .inr () else .inl ()):=by
 have:=hr.len
 refine Qay (L:=fun i=>QbC G B (QaE p f) s cons rd p.1 p.2 f.1 f.2.1 f.2.2.1 f.2.2.2.1 f.2.2.2.2.1 f.2.2.2.2.2.1 f.2.2.2.2.2.2 last (rd.length:Int) i) (l:=rd) (fun i r hv=>?_) ?_
 ·obtain ⟨h0,h1,h2⟩:=hr.rng r (List.mem_of_getElem? hv)
  obtain ⟨r0,r1⟩:=(hs.at_ r h0 h1).2.1 h2
  obtain ⟨x,hx,_,_,hrd⟩:=QhE f r0 r1
  rw [QeM,Qal hv,cond_true,Qah hv,Qaa,QgM h0 (by rw [hs.len]; exact h1),Qaa,Qan hv (by omega),show at' f.2.2.2.1 (rt s r)=some x from hx,Qaa,Qai,Qaa]
  unfold badS
  rw [hrd]
  cases (bif decide (rt s r<fPar f) then !x.2 else true)<;>rfl
 ·rw [QeM,Qap,cond_false]
theorem QFH (l:List Int)(hl:Vs p f l):Qa5 G B (QaE p f) s l rd p.1 p.2 f.1 f.2.1 f.2.2.1 f.2.2.2.1 f.2.2.2.2.1 f.2.2.2.2.2.1 f.2.2.2.2.2.2 n bl last (l.length:Int) 0=some (if l.all (fun v=>!rdOf f v)=true then .inr () else .inl ()):=by
 have:=hl.len
 refine Qay (L:=fun i=>Qa5 G B (QaE p f) s l rd p.1 p.2 f.1 f.2.1 f.2.2.1 f.2.2.2.1 f.2.2.2.2.1 f.2.2.2.2.2.1 f.2.2.2.2.2.2 n bl last (l.length:Int) i) (l:=l) (fun i v hv=>?_) ?_
 ·obtain ⟨h0,h1,_⟩:=hl.rng v (List.mem_of_getElem? hv)
  obtain ⟨x,hx,_,_,hr⟩:=QhE f h0 h1
  rw [QdQ,Qal hv,cond_true,Qah hv,Qaa,show at' f.2.2.2.1 v=some x from hx,Qaa,Qan hv (by omega),hr]
  cases x.2<;>rfl
 ·rw [QdQ,Qap,cond_false]
theorem QFI (hs:RInv p f s)(hG:G.length=gl)(hg:gl=(Qaf f).length)(l:List Int)(hll:l.length≤1000000)(hl:∀ v∈l,0≤v∧v<((Qaf f).length:Int)∧flV p f v=false):Qa6 G B (QaE p f) s cons rd p.1 p.2 f.1 f.2.1 f.2.2.1 f.2.2.2.1 f.2.2.2.2.1 f.2.2.2.2.2.1 f.2.2.2.2.2.2 n bl last l (l.length:Int) 0=some (if l.all (fun v=>!gm G (rt s v))=true then .inr () else .inl ()):=by
 refine Qay (L:=fun i=>Qa6 G B (QaE p f) s cons rd p.1 p.2 f.1 f.2.1 f.2.2.1 f.2.2.2.1 f.2.2.2.2.1 f.2.2.2.2.2.1 f.2.2.2.2.2.2 n bl last l (l.length:Int) i) (l:=l) (fun i v hv=>?_) ?_
 ·obtain ⟨h0,h1,h2⟩:=hl v (List.mem_of_getElem? hv)
  obtain ⟨r0,r1⟩:=(hs.at_ v h0 h1).2.1 h2
  rw [QdR,Qal hv,cond_true,Qah hv,Qaa,QgM h0 (by rw [hs.len]; exact h1),Qaa,Qya r0 (by omega),Qaa,Qan hv (by omega)]
  cases gm G (rt s v)<;>rfl
 ·rw [QdR,Qap,cond_false]
theorem QFJ (hs:RInv p f s)(hr:Vs p f rd)(v lc i0:Int):Qba G B (QaE p f) s cons rd p.1 p.2 f.1 f.2.1 f.2.2.1 f.2.2.2.1 f.2.2.2.2.1 f.2.2.2.2.2.1 f.2.2.2.2.2.2 n bl last v lc i0 (rd.length:Int) 0=some (if rd.all (fun r=>!decide (rt s r=v))=true then .inr () else .inl ()):=by
 have:=hr.len
 refine Qay (L:=fun i=>Qba G B (QaE p f) s cons rd p.1 p.2 f.1 f.2.1 f.2.2.1 f.2.2.2.1 f.2.2.2.2.1 f.2.2.2.2.2.1 f.2.2.2.2.2.2 n bl last v lc i0 (rd.length:Int) i) (l:=rd) (fun i r hv=>?_) ?_
 ·obtain ⟨h0,h1,h2⟩:=hr.rng r (List.mem_of_getElem? hv)
  rw [QdT,Qal hv,cond_true,Qah hv,Qaa,QgM h0 (by rw [hs.len]; exact h1),Qaa,Qan hv (by omega)]
  cases decide (rt s r=v)<;>rfl
 ·rw [QdT,Qap,cond_false]
theorem QFK (hs:RInv p f s)(hc:Vs p f cons)(hr:Vs p f rd):Qa9 G B (QaE p f) s cons rd p.1 p.2 f.1 f.2.1 f.2.2.1 f.2.2.2.1 f.2.2.2.2.1 f.2.2.2.2.2.1 f.2.2.2.2.2.2 n bl last (cons.length:Int) 0=some (if dupS s cons rd=true then .inr () else .inl ()):=by
 have hcl:=hc.len
 unfold dupS
 refine QdG (L:=fun i=>Qa9 G B (QaE p f) s cons rd p.1 p.2 f.1 f.2.1 f.2.2.1 f.2.2.2.1 f.2.2.2.2.1 f.2.2.2.2.2.1 f.2.2.2.2.2.2 n bl last (cons.length:Int) i) (l:=cons) (fun i v hv=>?_) ?_
 ·have hi:=Qcd hv
  have htl:(cons.take i).length≤9223372036854775807:=by rw [List.length_take]; omega
  rw [QdS,Qal hv,cond_true,Qah hv,Qaa,Qab (show ¬ (i:Int)<0 by omega),Qab (show ¬ (cons.length:Int)<(i:Int) by omega),Int.toNat_natCast,Qac (show i≤cons.length by omega),Qd6 _ htl v,Qaa,QFJ p f G B s n last cons rd bl hs hr,Qaa,Qan hv (by omega)]
  cases decide (v∈cons.take i)<;>cases rd.all (fun r=>!decide (rt s r=v))<;>rfl
 ·rw [QdS,Qap,cond_false]
theorem QFL (hs:RInv p f s)(hr:Vs p f rd):Qbb G B (QaE p f) s cons rd p.1 p.2 f.1 f.2.1 f.2.2.1 f.2.2.2.1 f.2.2.2.2.1 f.2.2.2.2.2.1 f.2.2.2.2.2.2 bl last (rd.length:Int) 0=some (if rd.all (fun r=>!badS f s r)=true then .inr () else .inl ()):=by
 have:=hr.len
 refine Qay (L:=fun i=>Qbb G B (QaE p f) s cons rd p.1 p.2 f.1 f.2.1 f.2.2.1 f.2.2.2.1 f.2.2.2.2.1 f.2.2.2.2.2.1 f.2.2.2.2.2.2 bl last (rd.length:Int) i) (l:=rd) (fun i r hv=>?_) ?_
 ·obtain ⟨h0,h1,h2⟩:=hr.rng r (List.mem_of_getElem? hv)
  obtain ⟨r0,r1⟩:=(hs.at_ r h0 h1).2.1 h2
  obtain ⟨x,hx,_,_,hrd⟩:=QhE f r0 r1
  rw [QdU,Qal hv,cond_true,Qah hv,Qaa,QgM h0 (by rw [hs.len]; exact h1),Qaa,Qan hv (by omega),show at' f.2.2.2.1 (rt s r)=some x from hx,Qaa,Qai,Qaa]
  unfold badS
  rw [hrd]
  cases (bif decide (rt s r<fPar f) then !x.2 else true)<;>rfl
 ·rw [QdU,Qap,cond_false]
theorem QFM (l:List Int)(hl:Vs p f l):Qbc G B (QaE p f) s l rd p.1 p.2 f.1 f.2.1 f.2.2.1 f.2.2.2.1 f.2.2.2.2.1 f.2.2.2.2.2.1 f.2.2.2.2.2.2 n gl bl last (l.length:Int) 0=some (if l.all (fun v=>!rdOf f v)=true then .inr () else .inl ()):=by
 have:=hl.len
 refine Qay (L:=fun i=>Qbc G B (QaE p f) s l rd p.1 p.2 f.1 f.2.1 f.2.2.1 f.2.2.2.1 f.2.2.2.2.1 f.2.2.2.2.2.1 f.2.2.2.2.2.2 n gl bl last (l.length:Int) i) (l:=l) (fun i v hv=>?_) ?_
 ·obtain ⟨h0,h1,_⟩:=hl.rng v (List.mem_of_getElem? hv)
  obtain ⟨x,hx,_,_,hr⟩:=QhE f h0 h1
  rw [QdV,Qal hv,cond_true,Qah hv,Qaa,show at' f.2.2.2.1 v=some x from hx,Qaa,Qan hv (by omega),hr]
  cases x.2<;>rfl
 ·rw [QdV,Qap,cond_false]
theorem QFN (hs:RInv p f s)(hG:G.length=gl)(hg:gl=(Qaf f).length)(l:List Int)(hll:l.length≤1000000)(hl:∀ v∈l,0≤v∧v<((Qaf f).length:Int)∧flV p f v=false):Qbd G B (QaE p f) s cons rd p.1 p.2 f.1 f.2.1 f.2.2.1 f.2.2.2.1 f.2.2.2.2.1 f.2.2.2.2.2.1 f.2.2.2.2.2.2 n gl bl last l (l.length:Int) 0=some (if l.all (fun v=>!gm G (rt s v))=true then .inr () else .inl ()):=by
 refine Qay (L:=fun i=>Qbd G B (QaE p f) s cons rd p.1 p.2 f.1 f.2.1 f.2.2.1 f.2.2.2.1 f.2.2.2.2.1 f.2.2.2.2.2.1 f.2.2.2.2.2.2 n gl bl last l (l.length:Int) i) (l:=l) (fun i v hv=>?_) ?_
 ·obtain ⟨h0,h1,h2⟩:=hl v (List.mem_of_getElem? hv)
  obtain ⟨r0,r1⟩:=(hs.at_ v h0 h1).2.1 h2
  rw [QdW,Qal hv,cond_true,Qah hv,Qaa,QgM h0 (by rw [hs.len]; exact h1),Qaa,Qab (show ¬ rt s v<0 by omega),Qac (show rt s v<(gl:Int) by omega),Qya r0 (by omega),Qaa,Qan hv (by omega)]
  cases gm G (rt s v)<;>rfl
 ·rw [QdW,Qap,cond_false]
theorem QFO (hs:RInv p f s)(hr:Vs p f rd)(v lc i0:Int):Qbf G B (QaE p f) s cons rd p.1 p.2 f.1 f.2.1 f.2.2.1 f.2.2.2.1 f.2.2.2.2.1 f.2.2.2.2.2.1 f.2.2.2.2.2.2 n gl bl last v lc i0 (rd.length:Int) 0=some (if rd.all (fun r=>!decide (rt s r=v))=true then .inr () else .inl ()):=by
 have:=hr.len
 refine Qay (L:=fun i=>Qbf G B (QaE p f) s cons rd p.1 p.2 f.1 f.2.1 f.2.2.1 f.2.2.2.1 f.2.2.2.2.1 f.2.2.2.2.2.1 f.2.2.2.2.2.2 n gl bl last v lc i0 (rd.length:Int) i) (l:=rd) (fun i r hv=>?_) ?_
 ·obtain ⟨h0,h1,h2⟩:=hr.rng r (List.mem_of_getElem? hv)
  rw [QdY,Qal hv,cond_true,Qah hv,Qaa,QgM h0 (by rw [hs.len]; exact h1),Qaa,Qan hv (by omega)]
  cases decide (rt s r=v)<;>rfl
 ·rw [QdY,Qap,cond_false]
theorem QFP (hs:RInv p f s)(hc:Vs p f cons)(hr:Vs p f rd):Qbe G B (QaE p f) s cons rd p.1 p.2 f.1 f.2.1 f.2.2.1 f.2.2.2.1 f.2.2.2.2.1 f.2.2.2.2.2.1 f.2.2.2.2.2.2 n gl bl last (cons.length:Int) 0=some (if dupS s cons rd=true then .inr () else .inl ()):=by
 have hcl:=hc.len
 unfold dupS
 refine QdG (L:=fun i=>Qbe G B (QaE p f) s cons rd p.1 p.2 f.1 f.2.1 f.2.2.1 f.2.2.2.1 f.2.2.2.2.1 f.2.2.2.2.2.1 f.2.2.2.2.2.2 n gl bl last (cons.length:Int) i) (l:=cons) (fun i v hv=>?_) ?_
 ·have hi:=Qcd hv
  have htl:(cons.take i).length≤9223372036854775807:=by rw [List.length_take]; omega
  rw [QdX,Qal hv,cond_true,Qah hv,Qaa,Qab (show ¬ (i:Int)<0 by omega),Qab (show ¬ (cons.length:Int)<(i:Int) by omega),Int.toNat_natCast,Qac (show i≤cons.length by omega),Qd6 _ htl v,Qaa,QFO p f G B s n last cons rd gl bl hs hr,Qaa,Qan hv (by omega)]
  cases decide (v∈cons.take i)<;>cases rd.all (fun r=>!decide (rt s r=v))<;>rfl
 ·rw [QdX,Qap,cond_false]
theorem QFQ (hs:RInv p f s)(hr:Vs p f rd):Qbg G B (QaE p f) s cons rd p.1 p.2 f.1 f.2.1 f.2.2.1 f.2.2.2.1 f.2.2.2.2.1 f.2.2.2.2.2.1 f.2.2.2.2.2.2 gl bl last (rd.length:Int) 0=some (if rd.all (fun r=>!badS f s r)=true then .inr () else .inl ()):=by
 have:=hr.len
 refine Qay (L:=fun i=>Qbg G B (QaE p f) s cons rd p.1 p.2 f.1 f.2.1 f.2.2.1 f.2.2.2.1 f.2.2.2.2.1 f.2.2.2.2.2.1 f.2.2.2.2.2.2 gl bl last (rd.length:Int) i) (l:=rd) (fun i r hv=>?_) ?_
 ·obtain ⟨h0,h1,h2⟩:=hr.rng r (List.mem_of_getElem? hv)
  obtain ⟨r0,r1⟩:=(hs.at_ r h0 h1).2.1 h2
  obtain ⟨x,hx,_,_,hrd⟩:=QhE f r0 r1
  rw [QdZ,Qal hv,cond_true,Qah hv,Qaa,QgM h0 (by rw [hs.len]; exact h1),Qaa,Qan hv (by omega),show at' f.2.2.2.1 (rt s r)=some x from hx,Qaa,Qai,Qaa]
  unfold badS
  rw [hrd]
  cases (bif decide (rt s r<fPar f) then !x.2 else true)<;>rfl
 ·rw [QdZ,Qap,cond_false]
theorem ru10 (hGB:G.length=B.length)(hBl:B.length≤1000000)(hc:Vs p f cons):Qbq G B (QaE p f) s cons p.1 p.2 f.1 f.2.1 f.2.2.1 f.2.2.2.1 f.2.2.2.2.1 f.2.2.2.2.2.1 f.2.2.2.2.2.2 (B.length:Int) 0=some (if endS G B cons=true then .inr () else .inl ()):=by
 have:=hc.len
 unfold endS
 refine QdG (L:=fun i=>Qbq G B (QaE p f) s cons p.1 p.2 f.1 f.2.1 f.2.2.1 f.2.2.2.1 f.2.2.2.2.1 f.2.2.2.2.2.1 f.2.2.2.2.2.2 (B.length:Int) i) (l:=B) (fun i b hv=>?_) ?_
 ·have hi:=Qcd hv
  rw [Qd9,Qal hv,cond_true,Qah hv,Qaa,Qya (by omega) (by omega),Qaa,Qai,Qaa,Qd6 cons (by omega),Qaa,Qai,Qaa,Qan hv (by omega)]
  cases b<;>cases gm G (i:Int)<;>cases decide ((i:Int)∈cons)<;>rfl
 ·rw [Qd9,Qap,cond_false]
theorem QE4 (hGB:G.length=B.length)(hBl:B.length≤1000000)(hc:Vs p f cons):QaZ G B (QaE p f) s cons p.1 p.2 f.1 f.2.1 f.2.2.1 f.2.2.2.1 f.2.2.2.2.1 f.2.2.2.2.2.1 f.2.2.2.2.2.2 B.length B.length (B.length:Int) 0=some (if endS G B cons=true then .inr () else .inl ()):=by
 have:=hc.len
 unfold endS
 refine QdG (L:=fun i=>QaZ G B (QaE p f) s cons p.1 p.2 f.1 f.2.1 f.2.2.1 f.2.2.2.1 f.2.2.2.2.1 f.2.2.2.2.2.1 f.2.2.2.2.2.2 B.length B.length (B.length:Int) i) (l:=B) (fun i b hv=>?_) ?_
 ·have hi:=Qcd hv
  rw [QdA,Qal hv,cond_true,Qab (show ¬ (i:Int)<0 by omega),cond_true,Qah hv,Qaa,Qya (by omega) (by omega),Qaa,Qai,Qaa,Qd6 cons (by omega),Qaa,Qai,Qaa,Qan hv (by omega)]
  cases b<;>cases gm G (i:Int)<;>cases decide ((i:Int)∈cons)<;>rfl
 ·rw [QdA,Qap,cond_false]
theorem QE5 (hGB:G.length=B.length)(hBl:B.length≤1000000)(hc:Vs p f cons):Qa0 G B (QaE p f) s cons p.1 p.2 f.1 f.2.1 f.2.2.1 f.2.2.2.1 f.2.2.2.2.1 f.2.2.2.2.2.1 f.2.2.2.2.2.2 G.length B.length B.length (B.length:Int) 0=some (if endS G B cons=true then .inr () else .inl ()):=by
 have:=hc.len
 unfold endS
 refine QdG (L:=fun i=>Qa0 G B (QaE p f) s cons p.1 p.2 f.1 f.2.1 f.2.2.1 f.2.2.2.1 f.2.2.2.2.1 f.2.2.2.2.2.1 f.2.2.2.2.2.2 G.length B.length B.length (B.length:Int) i) (l:=B) (fun i b hv=>?_) ?_
 ·have hi:=Qcd hv
  rw [QdB,Qal hv,cond_true,Qab (show ¬ (i:Int)<0 by omega),cond_true,Qah hv,Qaa,Qac (show (i:Int)<(G.length:Int) by omega),Qya (by omega) (by omega),Qaa,Qai,Qaa,Qd6 cons (by omega),Qaa,Qai,Qaa,Qan hv (by omega)]
  cases b<;>cases gm G (i:Int)<;>cases decide ((i:Int)∈cons)<;>rfl
 ·rw [QdB,Qap,cond_false]
theorem Qqo:Qeu n=some (decide (nOp n=0∨nOp n=7∨nOp n=8)):=by
 rw [Qnv]
 simp only [Qai,Qaa,Qb9]
 congr 1
 rw [Bool.eq_iff_iff]
 simp only [Bool.or_eq_true,decide_eq_true_eq]
 exact or_assoc
theorem QAJ (sc:List Bool)(hn:QcD n)(h:Qbh p f sc n)(hsc:sc.length=(Qaf f).length)(hv:(Qaf f).length≤1000000)(hs:RInv p f s)(hG:G.length=(Qaf f).length)(hB:B.length=(Qaf f).length):
  Qe0 (QaE p f) s G B p.1 p.2 f.1 f.2.1 f.2.2.1 f.2.2.2.1 f.2.2.2.2.1 f.2.2.2.2.2.1 f.2.2.2.2.2.2 n last=some (QfI f s last (nOp n) (Qad p f n) (reads p f n) G B):=by
 have hc:=h.cons hn hsc
 have hr:=h.rds hn hsc
 have h1:=hc.len
 have h2:=hr.len
 rw [QjT,Qf4 p f s n hn h hsc,Qaa]
 dsimp only
 rw [ru0 p f G B s n last (reads p f n)  (Qad p f n) hc,Qaa,QlU _ _ (by omega) (by omega),Qaa,
  ru2 p f G B s n last (Qad p f n) (reads p f n) G.length hs rfl hG _ (by rw [List.length_append]; omega) (hc.app p f hr),Qaa,ru4 p f G B s n last (Qad p f n) (reads p f n)  hs hc hr,Qaa,Qqo n,Qaa,
  ru8 p f G B s last (Qad p f n) (reads p f n)  hs hr,Qaa,ru10 p f G B s (Qad p f n) (by omega) (by omega) hc,Qaa]
 unfold QfI
 cases (Qad p f n).all (fun v=>!rdOf f v) with
 | false=>rfl
 | true=>
  cases (Qad p f n++reads p f n).all (fun v=>!gm G (rt s v)) with
  | false=>rfl
  | true=>
   cases dupS s (Qad p f n) (reads p f n) with
   | false=>rfl
   | true=>
    by_cases ho:nOp n=0∨nOp n=7∨nOp n=8
    ·rw [QdC ho,if_pos ho,show decide (n.1=0)=decide (nOp n=0) from rfl]
     cases decide (nOp n=0)<;>cases (reads p f n).all (fun r=>!badS f s r)<;>cases last<;>cases endS G B (Qad p f n)<;>rfl
    ·rw [QaR ho,if_neg ho]; rfl
theorem QvT (sc:List Bool)(hn:QcD n)(h:Qbh p f sc n)(hsc:sc.length=(Qaf f).length)(hv:(Qaf f).length≤1000000)(hs:RInv p f s)(hG:G.length=(Qaf f).length)(hB:B.length=(Qaf f).length):
  QdK (QaE p f) s G B p.1 p.2 f.1 f.2.1 f.2.2.1 f.2.2.2.1 f.2.2.2.2.1 f.2.2.2.2.2.1 f.2.2.2.2.2.2 n B.length last=some (QfI f s last (nOp n) (Qad p f n) (reads p f n) G B):=by
 have hc:=h.cons hn hsc
 have hr:=h.rds hn hsc
 have h1:=hc.len
 have h2:=hr.len
 rw [QiN,Qf4 p f s n hn h hsc,Qaa]
 dsimp only
 rw [QFH p f G B s n last (reads p f n) B.length (Qad p f n) hc,Qaa,QlU _ _ (by omega) (by omega),Qaa,
  QFI p f G B s n last (Qad p f n) (reads p f n) G.length B.length hs rfl hG _ (by rw [List.length_append]; omega) (hc.app p f hr),Qaa,QFK p f G B s n last (Qad p f n) (reads p f n) B.length hs hc hr,Qaa,Qqo n,Qaa,
  QFL p f G B s last (Qad p f n) (reads p f n) B.length hs hr,Qaa,QE4 p f G B s (Qad p f n) (by omega) (by omega) hc,Qaa]
 unfold QfI
 cases (Qad p f n).all (fun v=>!rdOf f v) with
 | false=>rfl
 | true=>
  cases (Qad p f n++reads p f n).all (fun v=>!gm G (rt s v)) with
  | false=>rfl
  | true=>
   cases dupS s (Qad p f n) (reads p f n) with
   | false=>rfl
   | true=>
    by_cases ho:nOp n=0∨nOp n=7∨nOp n=8
    ·rw [QdC ho,if_pos ho,show decide (n.1=0)=decide (nOp n=0) from rfl]
     cases decide (nOp n=0)<;>cases (reads p f n).all (fun r=>!badS f s r)<;>cases last<;>cases endS G B (Qad p f n)<;>rfl
    ·rw [QaR ho,if_neg ho]; rfl
theorem QvU (sc:List Bool)(hn:QcD n)(h:Qbh p f sc n)(hsc:sc.length=(Qaf f).length)(hv:(Qaf f).length≤1000000)(hs:RInv p f s)(hG:G.length=(Qaf f).length)(hB:B.length=(Qaf f).length):
  QdM (QaE p f) s G B p.1 p.2 f.1 f.2.1 f.2.2.1 f.2.2.2.1 f.2.2.2.2.1 f.2.2.2.2.2.1 f.2.2.2.2.2.2 n G.length B.length last=some (QfI f s last (nOp n) (Qad p f n) (reads p f n) G B):=by
 have hc:=h.cons hn hsc
 have hr:=h.rds hn hsc
 have h1:=hc.len
 have h2:=hr.len
 rw [QiP,Qf4 p f s n hn h hsc,Qaa]
 dsimp only
 rw [QFM p f G B s n last (reads p f n) G.length B.length (Qad p f n) hc,Qaa,QlU _ _ (by omega) (by omega),Qaa,
  QFN p f G B s n last (Qad p f n) (reads p f n) G.length B.length hs rfl hG _ (by rw [List.length_append]; omega) (hc.app p f hr),Qaa,QFP p f G B s n last (Qad p f n) (reads p f n) G.length B.length hs hc hr,Qaa,Qqo n,Qaa,
  QFQ p f G B s last (Qad p f n) (reads p f n) G.length B.length hs hr,Qaa,QE5 p f G B s (Qad p f n) (by omega) (by omega) hc,Qaa]
 unfold QfI
 cases (Qad p f n).all (fun v=>!rdOf f v) with
 | false=>rfl
 | true=>
  cases (Qad p f n++reads p f n).all (fun v=>!gm G (rt s v)) with
  | false=>rfl
  | true=>
   cases dupS s (Qad p f n) (reads p f n) with
   | false=>rfl
   | true=>
    by_cases ho:nOp n=0∨nOp n=7∨nOp n=8
    ·rw [QdC ho,if_pos ho,show decide (n.1=0)=decide (nOp n=0) from rfl]
     cases decide (nOp n=0)<;>cases (reads p f n).all (fun r=>!badS f s r)<;>cases last<;>cases endS G B (Qad p f n)<;>rfl
    ·rw [QaR ho,if_neg ho]; rfl
end
end Go.Proofs.YtkecfadnfnnfaaaGreatDoor.LabB.O
