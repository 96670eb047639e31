/- Of the models of the ownership statements: the rules of a node. -/
import Derived.Test.YtkecfadnfnnfaaaGreatDoorPlO2
set_option linter.unusedVariables false
set_option linter.unusedSimpArgs false
namespace Go.Proofs.YtkecfadnfnnfaaaGreatDoor.LabB.O
open Go Go.Ev Go.Sy Go.Proofs.YtkecfadnfnnfaaaGreatDoor.LabB
def iniR (p:Qae):Nat→List GVar→List Int
 | _,[]=>[]
 | i,x::r=>(if flat p.1 x.1=true then -1 else (i:Int))::iniR p (i+1) r
theorem QCo (p:Qae):∀ (l:List GVar) (i j:Nat),(iniR p i l)[j]?=(l[j]?).map fun x=>if flat p.1 x.1=true then -1 else ((i+j:Nat):Int)
 | [],i,j=>by simp [iniR]
 | x::l,i,0=>by simp [iniR]
 | x::l,i,j+1=>by
  rw [iniR,List.getElem?_cons_succ,QCo p l (i+1) j,List.getElem?_cons_succ,show i+1+j=i+(j+1) by omega]
theorem Quo (p:Qae):∀ (l:List GVar) (i:Nat),(iniR p i l).length=l.length
 | [],i=>rfl
 | x::l,i=>by rw [iniR,List.length_cons,Quo p l,List.length_cons]
def rt (s:List Int)(v:Int):Int:=match s[v.toNat]? with |some r=>r |none=>0
structure RInv (p:Qae)(f:GFun)(s:List Int):Prop where
 len:s.length=(Qad f).length
 at_:∀ v:Int,0≤v→v<((Qad f).length:Int)→(flV p f v=true→rt s v = -1)∧(flV p f v=false→0≤rt s v∧rt s v<((Qad f).length:Int))∧(own p f v=true→rt s v=v)
theorem Qr4 {s:List Int}{v:Int}(h0:0≤v)(h1:v<(s.length:Int)):at' s v=some (rt s v):=by
 obtain ⟨x,hx,hx'⟩:=Qfp h0 h1
 unfold rt
 rw [hx,hx']
theorem QCp {p:Qae}{f:GFun}{v:Int}:own p f v=true↔flV p f v=false∧rdOf f v=false:=by
 unfold own
 rw [Bool.and_eq_true,Bool.not_eq_true',Bool.not_eq_true']
theorem QG0 (s:List Int)(v w r:Int)(h0:0≤v)(h1:v<(s.length:Int))(h2:0≤w):rt (s.set v.toNat r) w=if w=v then r else rt s w:=by
 unfold rt
 rw [List.getElem?_set]
 by_cases h:w=v
 ·subst h
  rw [if_pos rfl,if_pos (by omega),if_pos rfl]
 ·rw [if_neg (by omega),if_neg h]
theorem RInv.step {p:Qae}{f:GFun}{s:List Int}(h:RInv p f s){v a:Int}(h0:0≤v)(h1:v<((Qad f).length:Int))(a0:0≤a)(a1:a<((Qad f).length:Int))(hv:flV p f v=false)(hr:rdOf f v=true)(ha:flV p f a=false):RInv p f (s.set v.toNat (rt s a)):=by
 refine ⟨by rw [List.length_set]; exact h.len,fun w w0 w1=>?_⟩
 rw [QG0 s v w _ h0 (by rw [h.len]; exact h1) w0]
 by_cases hw:w=v
 ·subst hw
  rw [if_pos rfl]
  refine ⟨fun h2=>(by rw [hv] at h2; cases h2),fun _=>(h.at_ a a0 a1).2.1 ha,fun h2=>?_⟩
  rw [(QCp.1 h2).2] at hr
  cases hr
 ·rw [if_neg hw]
  exact h.at_ w w0 w1
theorem QFz (p:Qae)(f:GFun):RInv p f (iniR p 0 (Qad f)):=by
 refine ⟨Quo p _ 0,fun v h0 h1=>?_⟩
 obtain ⟨x,hx,hx',hk,_⟩:=Qot f h0 h1
 have e:rt (iniR p 0 (Qad f)) v=if flV p f v=true then -1 else v:=by
  unfold rt flV
  rw [QCo,hx',hk,Nat.zero_add]
  simp only [Option.map_some]
  rw [Int.toNat_of_nonneg h0]
 rw [e]
 refine ⟨fun h=>by rw [if_pos h],fun h=>by rw [if_neg (by rw [h]; simp)]; exact ⟨h0,h1⟩,fun h=>?_⟩
 rw [QCp] at h
 rw [if_neg (by rw [h.1]; simp)]
def Qky (p:Qae)(f:GFun)(a:Int)(s:List Int)(v:Int):List Int:=if flV p f v=true then s else s.set v.toNat (rt s a)
theorem QsU {α β γ:Type}(g:α→List β)(F:γ→β→γ):∀ (l:List α) (s:γ),(l.flatMap g).foldl F s=l.foldl (fun s x=>(g x).foldl F s) s
 | [],s=>rfl
 | x::l,s=>by rw [List.flatMap_cons,List.foldl_append,List.foldl_cons,QsU g F l]
section
variable (p:Qae) (f:GFun)
structure Bnd (a:Int)(l:List Int):Prop where
 a0:0≤a
 a1:a<((Qad f).length:Int)
 fl:l≠[]→flV p f a=false
 rng:∀ v∈l,0≤v∧v<((Qad f).length:Int)∧(flV p f v=false→rdOf f v=true)
theorem QpC (a:Int):∀ (l:List Int) (s:List Int),Bnd p f a l→RInv p f s→RInv p f (l.foldl (Qky p f a) s)
 | [],s,hb,hs=>hs
 | v::l,s,hb,hs=>by
  obtain ⟨h0,h1,h2⟩:=hb.rng v (by simp)
  rw [List.foldl_cons]
  refine QpC a l _ ⟨hb.a0,hb.a1,fun _=>hb.fl (by simp),fun w hw=>hb.rng w (by simp [hw])⟩ ?_
  unfold Qky
  cases hf:flV p f v with
  | true=>exact hs
  | false=>
   rw [if_neg (by simp)]
   exact hs.step h0 h1 hb.a0 hb.a1 hf (h2 hf) (hb.fl (by simp))
theorem QDT (n:Qaf)(h1:QaG n=[arg0 n])(l:List Int)(hl:l.length≤1000000000000)(hb:Bnd p f (arg0 n) l)(s:List Int)(hs:RInv p f s):Qbr (Qbp p f) s p.1 p.2 f.1 f.2.1 f.2.2.1 f.2.2.2.1 f.2.2.2.2.1 f.2.2.2.2.2.1 f.2.2.2.2.2.2 n l (l.length:Int) 0=some (l.foldl (Qky p f (arg0 n)) s):=by
 refine QaM (L:=fun s i=>Qbr (Qbp p f) s p.1 p.2 f.1 f.2.1 f.2.2.1 f.2.2.2.1 f.2.2.2.2.1 f.2.2.2.2.2.1 f.2.2.2.2.2.2 n l (l.length:Int) i) (l:=l) (F:=Qky p f (arg0 n)) (E:=id) (fun _ s=>RInv p f s) (fun s i v hv hI=>?_) (fun s hI=>?_) s hs
 ·have hI':RInv p f s:=hI
  have hm:=List.mem_of_getElem? hv
  obtain ⟨h0,h2,h3⟩:=hb.rng v hm
  have hne:l≠[]:=fun h=>by rw [h] at hm; cases hm
  have hq:at' n.2.2.1 0=some (arg0 n):=by rw [show n.2.2.1=QaG n from rfl,h1]; rfl
  rw [QfA,Qal hv,cond_true,Qag hv,Qaa,QpB p f h0 h2,Qaa,Qam hv (by omega),hq,Qaa,Qr4 hb.a0 (by rw [hI'.len]; exact hb.a1),Qaa,Qr4 h0 (by rw [hI'.len]; exact h2),Qaa]
  unfold Qky
  cases hf:flV p f v with
  | true=>exact ⟨rfl,hI'⟩
  | false=>exact ⟨rfl,by rw [if_neg (by simp)]; exact hI'.step h0 h2 hb.a0 hb.a1 hf (h3 hf) (hb.fl hne)⟩
 ·rw [QfA,Qar,cond_false]; rfl
theorem QCq (n:Qaf)(h1:QaG n=[arg0 n])(bs:List Qcq)(m i0:Int)(l:List Int)(hl:l.length≤1000000000000)(hb:Bnd p f (arg0 n) l)(s:List Int)(hs:RInv p f s):Qc0 s p f n bs m i0 l (l.length:Int) 0=some (l.foldl (Qky p f (arg0 n)) s):=by
 refine QaM (L:=fun s i=>Qc0 s p f n bs m i0 l (l.length:Int) i) (l:=l) (F:=Qky p f (arg0 n)) (E:=id) (fun _ s=>RInv p f s) (fun s i v hv hI=>?_) (fun s hI=>?_) s hs
 ·have hI':RInv p f s:=hI
  have hm:=List.mem_of_getElem? hv
  obtain ⟨h0,h2,h3⟩:=hb.rng v hm
  have hne:l≠[]:=fun h=>by rw [h] at hm; cases hm
  have hq:at' n.2.2.1 0=some (arg0 n):=by rw [show n.2.2.1=QaG n from rfl,h1]; rfl
  obtain ⟨r1,r2,_⟩:=hI'.at_ v h0 h2
  rw [Qi7,Qal hv,cond_true,Qag hv,Qaa,Qr4 h0 (by rw [hI'.len]; exact h2),Qaa,Qam hv (by omega),hq,Qaa,Qr4 hb.a0 (by rw [hI'.len]; exact hb.a1),Qaa]
  unfold Qky
  cases hf:flV p f v with
  | true=>rw [Qac (by rw [r1 hf]; decide)]; exact ⟨rfl,hI'⟩
  | false=>rw [Qab (by have:=r2 hf; omega)]; exact ⟨rfl,by rw [if_neg (by simp)]; exact hI'.step h0 h2 hb.a0 hb.a1 hf (h3 hf) (hb.fl hne)⟩
 ·rw [Qi7,Qar,cond_false]; rfl
theorem QzK (n:Qaf)(h1:QaG n=[arg0 n])(bs:List Qcq)(m i0:Int)(l:List Int)(hl:l.length≤1000000000000)(hb:Bnd p f (arg0 n) l)(s:List Int)(hs:RInv p f s):Qci s p f n (Qad f).length bs m i0 l (l.length:Int) 0=some (l.foldl (Qky p f (arg0 n)) s):=by
 refine QaM (L:=fun s i=>Qci s p f n (Qad f).length bs m i0 l (l.length:Int) i) (l:=l) (F:=Qky p f (arg0 n)) (E:=id) (fun _ s=>RInv p f s) (fun s i v hv hI=>?_) (fun s hI=>?_) s hs
 ·have hI':RInv p f s:=hI
  have hm:=List.mem_of_getElem? hv
  obtain ⟨h0,h2,h3⟩:=hb.rng v hm
  have hne:l≠[]:=fun h=>by rw [h] at hm; cases hm
  have hq:at' n.2.2.1 0=some (arg0 n):=by rw [show n.2.2.1=QaG n from rfl,h1]; rfl
  obtain ⟨r1,r2,_⟩:=hI'.at_ v h0 h2
  rw [Qhk,Qal hv,cond_true,Qag hv,Qaa,Qab (show ¬ v<0 by omega),Qac h2,Qr4 h0 (by rw [hI'.len]; exact h2),Qaa,Qam hv (by omega),hq,Qaa,Qab (show ¬ arg0 n<0 by have:=hb.a0; omega),Qac hb.a1,Qr4 hb.a0 (by rw [hI'.len]; exact hb.a1),Qaa]
  unfold Qky
  cases hf:flV p f v with
  | true=>rw [Qac (by rw [r1 hf]; decide)]; exact ⟨rfl,hI'⟩
  | false=>rw [Qab (by have:=r2 hf; omega)]; exact ⟨rfl,by rw [if_neg (by simp)]; exact hI'.step h0 h2 hb.a0 hb.a1 hf (h3 hf) (hb.fl hne)⟩
 ·rw [Qhk,Qar,cond_false]; rfl
theorem QCr (n:Qaf)(h1:QaG n=[arg0 n])(l:List Qcq)(hl:l.length≤1000000)(hll:∀ b∈l,b.1.length≤1000000000000)(hb:∀ b∈l,Bnd p f (arg0 n) b.1)(s:List Int)(hs:RInv p f s):Qed s p f n l (l.length:Int) 0=some (l.foldl (fun s b=>b.1.foldl (Qky p f (arg0 n)) s) s):=by
 refine QaM (L:=fun s i=>Qed s p f n l (l.length:Int) i) (l:=l) (F:=fun s b=>b.1.foldl (Qky p f (arg0 n)) s) (E:=id) (fun _ s=>RInv p f s) (fun s i b hv hI=>?_) (fun s hI=>?_) s hs
 ·have hm:=List.mem_of_getElem? hv
  rw [Qi6,Qal hv,cond_true,Qag hv,Qaa,QCq p f n h1 _ _ _ b.1 (hll b hm) (hb b hm) s hI,Qaa,Qam hv (by omega)]
  exact ⟨rfl,QpC p f _ _ _ (hb b hm) hI⟩
 ·rw [Qi6,Qar,cond_false]; rfl
theorem QzL (n:Qaf)(h1:QaG n=[arg0 n])(l:List Qcq)(hl:l.length≤1000000)(hll:∀ b∈l,b.1.length≤1000000000000)(hb:∀ b∈l,Bnd p f (arg0 n) b.1)(s:List Int)(hs:RInv p f s):QcV s p f n (Qad f).length l (l.length:Int) 0=some (l.foldl (fun s b=>b.1.foldl (Qky p f (arg0 n)) s) s):=by
 refine QaM (L:=fun s i=>QcV s p f n (Qad f).length l (l.length:Int) i) (l:=l) (F:=fun s b=>b.1.foldl (Qky p f (arg0 n)) s) (E:=id) (fun _ s=>RInv p f s) (fun s i b hv hI=>?_) (fun s hI=>?_) s hs
 ·have hm:=List.mem_of_getElem? hv
  rw [Qhj,Qal hv,cond_true,Qag hv,Qaa,QzK p f n h1 _ _ _ b.1 (hll b hm) (hb b hm) s hI,Qaa,Qam hv (by omega)]
  exact ⟨rfl,QpC p f _ _ _ (hb b hm) hI⟩
 ·rw [Qhj,Qar,cond_false]; rfl
variable {p f} in
theorem Qbu.bnd {sc:List Bool}{n:Qaf}(h:Qbu p f sc n)(hs:sc.length=(Qad f).length)(h9:nOp n=9)(ht:Qfr n=false):∀ b∈nBr n,Bnd p f (arg0 n) b.1:=fun b hb=>by
 have h1:=h.one (by omega)
 have hin:∀ v∈b.1,v∈binds n:=fun v hv=>by unfold binds; rw [if_pos h9]; exact List.mem_flatMap.2 ⟨b,hb,hv⟩
 have a0:0≤arg0 n:=h.QGY (by omega) _ (by rw [h1]; simp)
 refine ⟨a0,h.args hs _ (by rw [h1]; simp) a0,fun hne=>h.field h9 b hb hne,fun v hv=>⟨(h.rng v (hin v hv)).1,(h.rng v (hin v hv)).2,fun hf=>?_⟩⟩
 rw [h.mode v (hin v hv),ht]
 unfold flV at hf
 rw [hf,QbE h9]
 rfl
variable {p f} in
theorem Qbu.QEp {sc:List Bool}{n:Qaf}(h:Qbu p f sc n)(hs:sc.length=(Qad f).length)(h9:nOp n=9)(ht:Qfr n=false):Bnd p f (arg0 n) (binds n):=by
 have h1:=h.one (by omega)
 have a0:0≤arg0 n:=h.QGY (by omega) _ (by rw [h1]; simp)
 have hb:binds n=(nBr n).flatMap (·.1):=by unfold binds; rw [if_pos h9]
 refine ⟨a0,h.args hs _ (by rw [h1]; simp) a0,fun hne=>?_,fun v hv=>?_⟩
 ·rw [hb] at hne
  cases hx:(nBr n).flatMap (·.1) with
  | nil=>exact absurd hx hne
  | cons v r=>
   obtain ⟨b,hb2,hv⟩:=List.mem_flatMap.1 (show v∈(nBr n).flatMap (·.1) by rw [hx]; simp)
   exact h.field h9 b hb2 (fun h=>by rw [h] at hv; cases hv)
 ·rw [hb] at hv
  obtain ⟨b,hb2,hv⟩:=List.mem_flatMap.1 hv
  exact (h.bnd hs h9 ht b hb2).rng v hv
def Qrx (n:Qaf)(s:List Int):List Int:=if nOp n=9∧Qfr n=false then (binds n).foldl (Qky p f (arg0 n)) s else s
theorem QvQ {d:Nat}{sc:List Bool}{n:Qaf}(h:∀ x∈kb n,Ok p f d (setS true x.2 sc) x.1):∀ k∈kids n,∃ sc',Ok p f d sc' k:=fun k hk=>by
 rw [QaU] at hk
 obtain ⟨x,hx,rfl⟩:=List.mem_map.1 hk
 exact ⟨_,h x hx⟩
def Qup (s s':List Int)(k:Int):Prop:=Qch (Qbp p f) s p.1 p.2 f.1 f.2.1 f.2.2.1 f.2.2.2.1 f.2.2.2.2.1 f.2.2.2.2.2.1 f.2.2.2.2.2.2 k=some s'∧QfN s p f k=some s'∧QgE s p f k (Qad f).length=some s'∧RInv p f s'
theorem QzM (d:Nat)(ks:List Int)(hl:ks.length≤1000)(hg:∀ k∈ks,∀ s,RInv p f s→∃ s',Qup p f s s' k):∀ (r pre:List Int) (s:List Int),ks=pre++r→RInv p f s→
  ∃ s',Qb0 (Qbp p f) s p.1 p.2 f.1 f.2.1 f.2.2.1 f.2.2.2.1 f.2.2.2.2.1 f.2.2.2.2.2.1 f.2.2.2.2.2.2 ks (ks.length:Int) (pre.length:Int)=some s'∧QbF s p f (Qad f).length ks (ks.length:Int) (pre.length:Int)=some s'∧RInv p f s':=by
 intro r
 induction r with
 | nil=>
  intro pre s h hs
  rw [QfB,QeC]
  subst h
  rw [Qdd (Qd5 pre),Qdd (Qd5 pre)]
  exact ⟨s,rfl,rfl,hs⟩
 | cons k r ih=>
  intro pre s h hs
  obtain ⟨s1,a1,a2,a3,a4⟩:=hg k (by rw [h]; simp) s hs
  rw [QfB,QeC]
  have hln:ks.length=pre.length+(r.length+1):=by rw [h]; simp
  have e1:decide ((pre.length:Int)<(ks.length:Int))=true:=decide_eq_true (by omega)
  have e2:at' ks (pre.length:Int)=some k:=by rw [h]; exact Qyj pre k r
  have e3:Ev.wr .i64 ((pre.length:Int)+1)=((pre++[k]).length:Int):=by rw [Sy.QaZ (by omega)]; simp
  rw [e1,cond_true,cond_true,e2,Qaa,Qaa,a1,a3,Qaa,Qaa,e3]
  exact ih (pre++[k]) s1 (by rw [h]; simp) a4
theorem QDU (hp:QbS p)(hf:Qgp f):∀ (d:Nat) (sc:List Bool) (k:Int) (s:List Int),Ok p f d sc k→RInv p f s→∃ s',Qup p f s s' k:=by
 intro d
 induction d with
 | zero=>intro sc k s h hs; exact absurd h id
 | succ d ih=>
  intro sc k s h hs
  obtain ⟨hk,hsc,n,hn,ho,hkb⟩:=h
  have hsm:=hf.nodes n (List.mem_of_getElem? hn)
  have hat:at' f.2.2.2.2.1 k=some n:=Qdl hk hn
  have hks:=Qeq n hsm
  have hbl:=Qnu n hsm
  have hbr:=hsm.br
  have hfv:(Qad f).length≤1000000:=hf.vars
  have hkid:∀ k∈kids n,∀ s,RInv p f s→∃ s',Qup p f s s' k:=fun k hk s hs=>by
   obtain ⟨sc',ho'⟩:=QvQ p f hkb k hk
   exact ih sc' k s ho' hs
  have hroot:RInv p f (Qrx p f n s):=by
   unfold Qrx
   split
   ·rename_i h9; exact QpC p f _ _ _ (ho.QEp hsc h9.1 h9.2) hs
   ·exact hs
  obtain ⟨s2,b1,b2,b3⟩:=QzM p f d (kids n) hks hkid (kids n) [] (Qrx p f n s) rfl hroot
  have e1:Qch (Qbp p f) s p.1 p.2 f.1 f.2.1 f.2.2.1 f.2.2.2.1 f.2.2.2.2.1 f.2.2.2.2.2.1 f.2.2.2.2.2.2 k=some s2:=by
   rw [Qmy,hat,Qaa,QgL n hsm,Qjb n hsm]
   simp only [Qaz,Qaa]
   have b1':Qb0 (Qbp p f) (Qrx p f n s) p.1 p.2 f.1 f.2.1 f.2.2.1 f.2.2.2.1 f.2.2.2.2.1 f.2.2.2.2.2.1 f.2.2.2.2.2.2 (kids n) ((kids n).length:Int) 0=some s2:=b1
   unfold Qrx at b1'
   by_cases h9:nOp n=9
   ·rw [Qac h9]
    cases ht:Qfr n with
    | true=>
     rw [if_neg (by rw [ht]; simp)] at b1'
     rw [show n.2.2.2.2.2.2.2.1=true from ht,Bool.not_true,cond_false,b1']; rfl
    | false=>
     rw [if_pos ⟨h9,ht⟩] at b1'
     rw [show n.2.2.2.2.2.2.2.1=false from ht,Bool.not_false,cond_true,QDT p f n (ho.one (by omega)) (binds n) (by have:=ho.len; omega) (ho.QEp hsc h9 ht) s hs,Qaa,Qaa,b1']; rfl
   ·rw [Qab h9,cond_false]
    rw [if_neg (fun h=>h9 h.1)] at b1'
    rw [b1']; rfl
  have hfl:nOp n=9→(nBr n).foldl (fun s b=>b.1.foldl (Qky p f (arg0 n)) s) s=(binds n).foldl (Qky p f (arg0 n)) s:=fun h9=>by
   unfold binds
   rw [if_pos h9,QsU]
  have e3:QgE s p f k (Qad f).length=some s2:=by
   rw [Qpf,hat,Qaa,QsO n hsm]
   simp only [Qaz,Qaa]
   have b2':QbF (Qrx p f n s) p f (Qad f).length (kids n) ((kids n).length:Int) 0=some s2:=b2
   unfold Qrx at b2'
   by_cases h9:nOp n=9
   ·rw [Qac h9]
    cases ht:Qfr n with
    | true=>
     rw [if_neg (by rw [ht]; simp)] at b2'
     rw [show n.2.2.2.2.2.2.2.1=true from ht,Bool.not_true,cond_false,b2']; rfl
    | false=>
     rw [if_pos ⟨h9,ht⟩] at b2'
     rw [show n.2.2.2.2.2.2.2.1=false from ht,Bool.not_false,cond_true,QzL p f n (ho.one (by omega)) (nBr n) (by omega) (fun b hb=>by have:=hsm.bs b hb; omega) (ho.bnd hsc h9 ht) s hs,Qaa,Qaa,hfl h9,b2']; rfl
   ·rw [Qab h9,cond_false]
    rw [if_neg (fun h=>h9 h.1)] at b2'
    rw [b2']; rfl
  have hL4:Qim (Qrx p f n s) p f (kids n) ((kids n).length:Int) 0=some s2:=by
   have b2':QbF (Qrx p f n s) p f (Qad f).length (kids n) ((kids n).length:Int) 0=some s2:=b2
   rw [QeC] at b2'
   rw [Qom]
   by_cases hlt:(0:Int)<((kids n).length:Int)
   ·rw [Qac hlt] at b2' ⊢
    obtain ⟨k1,hk1,hk1'⟩:=Qfp (l:=kids n) (i:=0) (by omega) hlt
    obtain ⟨s1,c1,c2,c3,c4⟩:=hkid k1 (List.mem_of_getElem? hk1') (Qrx p f n s) hroot
    rw [hk1,Qaa,c3,Qaa] at b2'
    rw [hk1,Qaa,c2,Qaa,hroot.len,b2']
    rfl
   ·rw [Qab hlt] at b2' ⊢
    exact b2'
  have e2:QfN s p f k=some s2:=by
   rw [QrY,hat,Qaa,QsO n hsm]
   simp only [Qaz,Qaa]
   unfold Qrx at hL4
   by_cases h9:nOp n=9
   ·rw [Qac h9]
    cases ht:Qfr n with
    | true=>
     rw [if_neg (by rw [ht]; simp)] at hL4
     rw [show n.2.2.2.2.2.2.2.1=true from ht,Bool.not_true,cond_false,hL4]; rfl
    | false=>
     rw [if_pos ⟨h9,ht⟩] at hL4
     rw [show n.2.2.2.2.2.2.2.1=false from ht,Bool.not_false,cond_true,QCr p f n (ho.one (by omega)) (nBr n) (by omega) (fun b hb=>by have:=hsm.bs b hb; omega) (ho.bnd hsc h9 ht) s hs,Qaa,Qaa,hfl h9,hL4]; rfl
   ·rw [Qab h9,cond_false]
    rw [if_neg (fun h=>h9 h.1)] at hL4
    rw [hL4]; rfl
  exact ⟨s2,e1,e2,e3,b3⟩
theorem QHy (hd:Qbo p.1)(hl:(Qad f).length≤1000000):∀ (r pre:List GVar) (a:List Bool) (b:List Int),Qad f=pre++r→a.length=pre.length→b.length=pre.length→
  QcA a b p p.1 p.2 f.1 f.2.1 f.2.2.1 f.2.2.2.1 f.2.2.2.2.1 f.2.2.2.2.2.1 f.2.2.2.2.2.2 (Qad f) ((Qad f).length:Int) (pre.length:Int)=some (a++r.map (fun x=>flat p.1 x.1),b++iniR p pre.length r):=by
 intro r
 induction r with
 | nil=>
  intro pre a b h ha hb
  rw [Qgn,Qab (by rw [h]; simp)]
  simp [iniR]
 | cons x r ih=>
  intro pre a b h ha hb
  have hln:(Qad f).length=pre.length+(r.length+1):=by rw [h]; simp
  have e2:at' (Qad f) (pre.length:Int)=some x:=by rw [h]; exact Qyj pre x r
  have e3:Ev.wr .i64 ((pre.length:Int)+1)=((pre++[x]).length:Int):=by rw [Sy.QaZ (by omega)]; simp
  have hpl:(pre++[x]).length=pre.length+1:=by simp
  rw [Qgn,Qac (by omega),e2,Qaa,Qnp p.1 hd,Qaa,Qac (show (a.length+1) * 1≤35184372088832 by omega),QlE,Qaa,Qac (show (b.length+1) * 8≤35184372088832 by omega),e3,ih (pre++[x]) _ _ (by rw [h]; simp) (by simp; omega) (by simp; omega),hpl]
  rw [iniR,List.map_cons]
  cases flat p.1 x.1<;>simp
theorem QFA (hp:QbS p)(ho:HOk p f)(hl:(Qad f).length≤1000000):∀ (r pre:List GVar) (b:List Int),Qad f=pre++r→b.length=pre.length→
  QcU b p f (pre.length:Int)=some (b++iniR p pre.length r):=by
 intro r
 induction r with
 | nil=>
  intro pre b h hb
  rw [Qhi,Qab (show ¬ (pre.length:Int)<((Qad f).length:Int) by rw [h]; simp)]
  simp [iniR]
 | cons x r ih=>
  intro pre b h hb
  have hln:(Qad f).length=pre.length+(r.length+1):=by rw [h]; simp
  have e2:(Qad f)[((pre.length:Int)).toNat]?=some x:=by rw [h,Int.toNat_natCast]; simp
  have e3:Ev.wr .i64 ((pre.length:Int)+1)=((pre++[x]).length:Int):=by rw [Sy.QaZ (by omega)]; simp
  have hpl:(pre++[x]).length=pre.length+1:=by simp
  have hfl:flV p f (pre.length:Int)=flat p.1 x.1:=by unfold flV kd; rw [e2]
  rw [Qhi,Qac (show (pre.length:Int)<((Qad f).length:Int) by omega),Qyz p f hp ho (by omega) (by omega),Qaa,QlE,Qaa,Qac (show (b.length+1) * 8≤35184372088832 by omega),e3,ih (pre++[x]) _ (by rw [h]; simp) (by simp; omega),hpl,hfl]
  rw [iniR]
  cases flat p.1 x.1<;>simp
theorem QvR (hp:QbS p)(k:Nat)(hk:p.2[k]?=some f)(ho:QGW p f):∃ s,QfT p (k:Int)=some (Qbp p f,s,p.1,p.2,f.1,f.2.1,f.2.2.1,f.2.2.2.1,f.2.2.2.2.1,f.2.2.2.2.2.1,f.2.2.2.2.2.2)∧QgC p f=some s∧RInv p f s:=by
 have hf:=hp.all f (List.mem_of_getElem? hk)
 have hv:=hf.vars
 have a1:=QHy p f hp.Qnr hv (Qad f) [] [] [] rfl rfl rfl
 have a2:=QFA p f hp ho.hok hv (Qad f) [] [] rfl rfl
 have i0:=QFz p f
 rw [Qol,Qag hk,Qaa,show QcA ([]:List Bool) ([]:List Int) p p.1 p.2 f.1 f.2.1 f.2.2.1 f.2.2.2.1 f.2.2.2.2.1 f.2.2.2.2.2.1 f.2.2.2.2.2.2 f.2.2.2.1 (f.2.2.2.1.length:Int) 0=_ from a1,Qaa,Qpe,show QcU ([]:List Int) p f 0=_ from a2,Qaa]
 simp only [List.nil_append,List.length_nil]
 cases he:fExt f with
 | true=>
  rw [show f.2.2.2.2.2.2=true from he]
  exact ⟨_,rfl,rfl,i0⟩
 | false=>
  rw [show f.2.2.2.2.2.2=false from he]
  obtain ⟨s',b1,b2,b3,b4⟩:=QDU p f hp hf _ _ _ _ (ho.body he) i0
  rw [show f.2.2.2.2.2.2=false from he] at b1
  refine ⟨s',?_,?_,b4⟩
  ·rw [cond_false,show Qch (List.map (fun x=>flat p.1 x.1) (Qad f)) (iniR p 0 (Qad f)) p.1 p.2 f.1 f.2.1 f.2.2.1 f.2.2.2.1 f.2.2.2.2.1 f.2.2.2.2.2.1 false f.2.2.2.2.2.1=_ from b1]
   rfl
  ·rw [cond_false,show QfN (iniR p 0 (Qad f)) p f f.2.2.2.2.2.1=_ from b2,Qaa,Qaa]
   show (bif decide ((iniR p 0 (Qad f)).length≤s'.length) then some (List.take (iniR p 0 (Qad f)).length s') else none)=some s'
   rw [Quo,b4.len.symm,Qac (Nat.le_refl _),List.take_length]
end
end Go.Proofs.YtkecfadnfnnfaaaGreatDoor.LabB.O
namespace Go.Proofs.YtkecfadnfnnfaaaGreatDoor.LabB.O
open Go Go.Ev Go.Sy Go.Proofs.YtkecfadnfnnfaaaGreatDoor.LabB
def gm (G:List Bool)(v:Int):Bool:=G[v.toNat]?==some true
theorem QzN {G:List Bool}{v:Int}(h0:0≤v)(h1:v<(G.length:Int)):at' G v=some (gm G v):=by
 obtain ⟨x,hx,hx'⟩:=Qfp h0 h1
 rw [hx]
 unfold gm
 rw [hx']
 cases x<;>rfl
theorem QEq {G:List Bool}{v:Int}:gm G v=true↔G[v.toNat]?=some true:=by unfold gm; rw [beq_iff_eq]
theorem QyA (l:List Int)(hl:l.length≤9223372036854775807)(v:Int):Qnl l v=some (decide (v∈l)):=by
 rw [QvC,QaF (L:=fun i=>QhN l v i) (l:=l) (p:=fun x=>!decide (x=v)) (A:=.inl ()) (B:=.inr ()) (fun i x hx=>by
  rw [Qlg,Qal hx,cond_true,Qag hx,Qaa,Qam hx hl,Qak]
  cases decide (x=v)<;>rfl) (by rw [Qlg,Qar,cond_false]),Qaa]
 have:decide (v∈l)=!l.all fun x=>!decide (x=v):=by
  rw [Bool.eq_iff_iff]
  simp
 rw [this]
 cases l.all _<;>rfl
theorem Qxs (a b:List Int)(ha:a.length≤1000000)(hb:b.length≤1000000):Qin (a::(b::([]:List (List (Int)))))=some (a++b):=by
 have e1:Ev.wr .i64 (0+(a.length:Int))=(a.length:Int):=by rw [Qne (by omega) (by omega)]; omega
 have e2:Ev.wr .i64 ((a.length:Int)+(b.length:Int))=((a++b).length:Int):=by rw [Qne (by omega) (by omega),List.length_append]; omega
 have w1:Ev.wr .i64 ((0:Int)+1)=1:=rfl
 have w2:Ev.wr .i64 ((1:Int)+1)=2:=rfl
 have l0:at' [a,b] 0=some a:=rfl
 have l1:at' [a,b] 1=some b:=rfl
 have hl:(([a,b]:List (List Int)).length:Int)=2:=rfl
 have s0:QdN [a,b] 0 [a,b] (([a,b]:List (List Int)).length:Int) 0=some ((a++b).length:Int):=by
  rw [hl,Qd1,Qac (by decide),l0,Qaa,e1,Qab (by omega),w1,Qd1,Qac (by decide),l1,Qaa,e2,Qab (by omega),w2,Qd1,Qab (by decide)]
 have hab:(a++b).length=a.length+b.length:=by simp
 have s1:Qbs a [a,b] 2 1=some (a++b):=by
  rw [Qdc,Qac (by decide),l1,Qaa,Qac (by omega),w2,Qdc,Qab (by decide)]
 have s2:Qbs ([]:List Int) [a,b] 2 0=some (a++b):=by
  rw [Qdc,Qac (by decide),l0,Qaa,Qac (by simp; omega),List.nil_append,w1,s1]
 have e3:Ev.wr .i64 (((a++b).length:Int) - 0)=((a++b).length:Int):=by rw [Qne (by omega) (by omega)]; omega
 rw [Qoo,s0,Qaa,Qrh,e3,Qab (by omega),hl]
 by_cases h0:(0:Int)<((a++b).length:Int)
 ·rw [Qac h0,Qab (by omega),Qac (by rw [Int.toNat_natCast]; omega),Qab (by omega),Qaa]
  dsimp only
  rw [Qaa]
  dsimp only
  rw [QlP,Qac (by decide),l0,Qaa,Qac (by omega),Qac (by omega),List.take_zero,List.nil_append,w1,s1]
  rfl
 ·rw [Qab h0,Qaa]
  dsimp only
  rw [Qaa]
  dsimp only
  rw [s2]
  rfl
section
variable (p:Qae) (f:GFun)
structure Vs (l:List Int):Prop where
 len:l.length≤3000
 rng:∀ v∈l,0≤v∧v<((Qad f).length:Int)∧flV p f v=false
theorem QvS (l:List Int)(hl:l.length≤1000)(hr:∀ v∈l,0≤v→v<((Qad f).length:Int)):(Qje p f l).length≤1000∧∀ v∈Qje p f l,0≤v∧v<((Qad f).length:Int)∧flV p f v=false:=by
 refine ⟨Nat.le_trans (List.length_filter_le _ _) hl,fun v hv=>?_⟩
 unfold Qje at hv
 rw [List.mem_filter,Bool.and_eq_true,decide_eq_true_eq,Bool.not_eq_true'] at hv
 exact ⟨hv.2.1,hr v hv.1 hv.2.1,hv.2.2⟩
theorem Qry (h:GFun)(rd:Bool):∀ (l:List Int) (i:Nat),∀ v∈QmB p f h rd i l,v∈l∧flV p f v=false
 | [],i,v,hv=>by cases hv
 | w::l,i,v,hv=>by
  rw [QmB] at hv
  split at hv
  ·rename_i hc
   rw [Bool.and_eq_true,Bool.not_eq_true'] at hc
   rw [List.mem_cons] at hv
   rcases hv with rfl |hv
   ·exact ⟨by simp,hc.2⟩
   ·have:=Qry h rd l (i+1) v hv
    exact ⟨by simp [this.1],this.2⟩
  ·have:=Qry h rd l (i+1) v hv
   exact ⟨by simp [this.1],this.2⟩
theorem Qny {g:Int}{l:List Int}{h:GFun}(hc:QvN p f g l h)(rd:Bool)(hl:l.length≤1000):(Qif p f g rd l).length≤1000∧∀ v∈Qif p f g rd l,0≤v∧v<((Qad f).length:Int)∧flV p f v=false:=by
 unfold Qif
 rw [hc.get]
 refine ⟨Nat.le_trans (Qrw p f h rd l 0) hl,fun v hv=>?_⟩
 obtain ⟨h1,h2⟩:=Qry p f h rd l 0 v hv
 exact ⟨(hc.rng v h1).1,(hc.rng v h1).2,h2⟩
variable {p f} in
theorem Qbu.cons {sc:List Bool}{n:Qaf}(h:Qbu p f sc n)(hn:QbN n)(hs:sc.length=(Qad f).length):Vs p f (Qao p f n):=by
 have a:=QvS p f (QaG n) hn.args (h.args hs)
 unfold Qao
 split
 ·exact ⟨by omega,a.2⟩
 split
 ·split
  ·exact ⟨by omega,a.2⟩
  ·exact ⟨by simp,fun v hv=>by cases hv⟩
 split
 ·rename_i h6
  obtain ⟨g,hc⟩:=h.call hs h6
  have b:=Qny p f hc false hn.args
  exact ⟨by omega,b.2⟩
 split
 ·rename_i h8
  obtain ⟨g,hc⟩:=h.hole hs h8
  have b:=Qny p f hc false hn.more
  refine ⟨by rw [List.length_append]; omega,fun v hv=>?_⟩
  rw [List.mem_append] at hv
  rcases hv with hv |hv
  ·exact a.2 v hv
  ·exact b.2 v hv
 ·exact ⟨by simp,fun v hv=>by cases hv⟩
variable {p f} in
theorem Qbu.rds {sc:List Bool}{n:Qaf}(h:Qbu p f sc n)(hn:QbN n)(hs:sc.length=(Qad f).length):Vs p f (reads p f n):=by
 have a:=QvS p f (QaG n) hn.args (h.args hs)
 unfold reads
 split
 ·exact ⟨by omega,a.2⟩
 split
 ·split
  ·exact ⟨by simp,fun v hv=>by cases hv⟩
  ·exact ⟨by omega,a.2⟩
 split
 ·rename_i h6
  obtain ⟨g,hc⟩:=h.call hs h6
  have b:=Qny p f hc true hn.args
  exact ⟨by omega,b.2⟩
 split
 ·rename_i h8
  obtain ⟨g,hc⟩:=h.hole hs h8
  have b:=Qny p f hc true hn.more
  exact ⟨by omega,b.2⟩
 ·exact ⟨by simp,fun v hv=>by cases hv⟩
theorem Vs.app {a b:List Int}(ha:Vs p f a)(hb:Vs p f b):∀ v∈a++b,0≤v∧v<((Qad f).length:Int)∧flV p f v=false:=fun v hv=>by
 rw [List.mem_append] at hv
 rcases hv with hv |hv
 ·exact ha.rng v hv
 ·exact hb.rng v hv
variable (G B:List Bool) (s:List Int) (n:Qaf) (last:Bool) (cons rd:List Int) (gl bl:Nat)
end
end Go.Proofs.YtkecfadnfnnfaaaGreatDoor.LabB.O
