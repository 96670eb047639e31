/- Of the models of the ownership statements: the rules of a node. -/
import Derived.Test.YtkecfadnfnnfaaaGreatDoorPlO2
set_option linter.unusedVariables false
set_option linter.unusedSimpArgs false
namespace Go.Proofs.YtkecfadnfnnfaaaGreatDoor.LabB.O
open Go Go.Ev Go.Sy Go.Proofs.YtkecfadnfnnfaaaGreatDoor.LabB
def iniR (p:Qad):Nat→List GVar→List Int
 | _,[]=>[]
 | i,x::r=>(if flat p.1 x.1=true then -1 else (i:Int))::iniR p (i+1) r
theorem QDm (p:Qad):∀ (l:List GVar) (i j:Nat),(iniR p i l)[j]?=(l[j]?).map fun x=>if flat p.1 x.1=true then -1 else ((i+j:Nat):Int)
 | [],i,j=>by simp [iniR]
 | x::l,i,0=>by simp [iniR]
 | x::l,i,j+1=>by
  rw [iniR,List.getElem?_cons_succ,QDm p l (i+1) j,List.getElem?_cons_succ,show i+1+j=i+(j+1) by omega]
theorem Qvl (p:Qad):∀ (l:List GVar) (i:Nat),(iniR p i l).length=l.length
 | [],i=>rfl
 | x::l,i=>by rw [iniR,List.length_cons,Qvl p l,List.length_cons]
def rt (s:List Int)(v:Int):Int:=match s[v.toNat]? with |some r=>r |none=>0
structure RInv (p:Qad)(f:GFun)(s:List Int):Prop where
 len:s.length=(Qae f).length
 at_:∀ v:Int,0≤v→v<((Qae f).length:Int)→(flV p f v=true→rt s v = -1)∧(flV p f v=false→0≤rt s v∧rt s v<((Qae f).length:Int))∧(own p f v=true→rt s v=v)
theorem Qjz {s:List Int}{v:Int}(h0:0≤v)(h1:v<(s.length:Int)):at' s v=some (rt s v):=by
 obtain ⟨x,hx,hx'⟩:=QgJ h0 h1
 unfold rt
 rw [hx,hx']
theorem QDn {p:Qad}{f:GFun}{v:Int}:own p f v=true↔flV p f v=false∧rdOf f v=false:=by
 unfold own
 rw [Bool.and_eq_true,Bool.not_eq_true',Bool.not_eq_true']
theorem QH0 (s:List Int)(v w r:Int)(h0:0≤v)(h1:v<(s.length:Int))(h2:0≤w):rt (s.set v.toNat r) w=if w=v then r else rt s w:=by
 unfold rt
 rw [List.getElem?_set]
 by_cases h:w=v
 ·subst h
  rw [if_pos rfl,if_pos (by omega),if_pos rfl]
 ·rw [if_neg (by omega),if_neg h]
theorem RInv.step {p:Qad}{f:GFun}{s:List Int}(h:RInv p f s){v a:Int}(h0:0≤v)(h1:v<((Qae f).length:Int))(a0:0≤a)(a1:a<((Qae f).length:Int))(hv:flV p f v=false)(hr:rdOf f v=true)(ha:flV p f a=false):RInv p f (s.set v.toNat (rt s a)):=by
 refine ⟨by rw [List.length_set]; exact h.len,fun w w0 w1=>?_⟩
 rw [QH0 s v w _ h0 (by rw [h.len]; exact h1) w0]
 by_cases hw:w=v
 ·subst hw
  rw [if_pos rfl]
  refine ⟨fun h2=>(by rw [hv] at h2; cases h2),fun _=>(h.at_ a a0 a1).2.1 ha,fun h2=>?_⟩
  rw [(QDn.1 h2).2] at hr
  cases hr
 ·rw [if_neg hw]
  exact h.at_ w w0 w1
theorem QGD (p:Qad)(f:GFun):RInv p f (iniR p 0 (Qae f)):=by
 refine ⟨Qvl p _ 0,fun v h0 h1=>?_⟩
 obtain ⟨x,hx,hx',hk,_⟩:=Qio f h0 h1
 have e:rt (iniR p 0 (Qae f)) v=if flV p f v=true then -1 else v:=by
  unfold rt flV
  rw [QDm,hx',hk,Nat.zero_add]
  simp only [Option.map_some]
  rw [Int.toNat_of_nonneg h0]
 rw [e]
 refine ⟨fun h=>by rw [if_pos h],fun h=>by rw [if_neg (by rw [h]; simp)]; exact ⟨h0,h1⟩,fun h=>?_⟩
 rw [QDn] at h
 rw [if_neg (by rw [h.1]; simp)]
def Qlx (p:Qad)(f:GFun)(a:Int)(s:List Int)(v:Int):List Int:=if flV p f v=true then s else s.set v.toNat (rt s a)
theorem QtX {α β γ:Type}(g:α→List β)(F:γ→β→γ):∀ (l:List α) (s:γ),(l.flatMap g).foldl F s=l.foldl (fun s x=>(g x).foldl F s) s
 | [],s=>rfl
 | x::l,s=>by rw [List.flatMap_cons,List.foldl_append,List.foldl_cons,QtX g F l]
section
variable (p:Qad) (f:GFun)
structure Bnd (a:Int)(l:List Int):Prop where
 a0:0≤a
 a1:a<((Qae f).length:Int)
 fl:l≠[]→flV p f a=false
 rng:∀ v∈l,0≤v∧v<((Qae f).length:Int)∧(flV p f v=false→rdOf f v=true)
theorem QqE (a:Int):∀ (l:List Int) (s:List Int),Bnd p f a l→RInv p f s→RInv p f (l.foldl (Qlx p f a) s)
 | [],s,hb,hs=>hs
 | v::l,s,hb,hs=>by
  obtain ⟨h0,h1,h2⟩:=hb.rng v (by simp)
  rw [List.foldl_cons]
  refine QqE a l _ ⟨hb.a0,hb.a1,fun _=>hb.fl (by simp),fun w hw=>hb.rng w (by simp [hw])⟩ ?_
  unfold Qlx
  cases hf:flV p f v with
  | true=>exact hs
  | false=>
   rw [if_neg (by simp)]
   exact hs.step h0 h1 hb.a0 hb.a1 hf (h2 hf) (hb.fl (by simp))
theorem QEW (n:Qag)(h1:QaJ n=[arg0 n])(l:List Int)(hl:l.length≤1000000000000)(hb:Bnd p f (arg0 n) l)(s:List Int)(hs:RInv p f s):QbQ (QaH p f) s p.1 p.2 f.1 f.2.1 f.2.2.1 f.2.2.2.1 f.2.2.2.2.1 f.2.2.2.2.2.1 f.2.2.2.2.2.2 n l (l.length:Int) 0=some (l.foldl (Qlx p f (arg0 n)) s):=by
 refine QaT (L:=fun s i=>QbQ (QaH p f) s p.1 p.2 f.1 f.2.1 f.2.2.1 f.2.2.2.1 f.2.2.2.2.1 f.2.2.2.2.2.1 f.2.2.2.2.2.2 n l (l.length:Int) i) (l:=l) (F:=Qlx p f (arg0 n)) (E:=id) (fun _ s=>RInv p f s) (fun s i v hv hI=>?_) (fun s hI=>?_) s hs
 ·have hI':RInv p f s:=hI
  have hm:=List.mem_of_getElem? hv
  obtain ⟨h0,h2,h3⟩:=hb.rng v hm
  have hne:l≠[]:=fun h=>by rw [h] at hm; cases hm
  have hq:at' n.2.2.1 0=some (arg0 n):=by rw [show n.2.2.1=QaJ n from rfl,h1]; rfl
  rw [Qgv,Qak hv,cond_true,Qai hv,Qaa,QqD p f h0 h2,Qaa,Qal hv (by omega),hq,Qaa,Qjz hb.a0 (by rw [hI'.len]; exact hb.a1),Qaa,Qjz h0 (by rw [hI'.len]; exact h2),Qaa]
  unfold Qlx
  cases hf:flV p f v with
  | true=>exact ⟨rfl,hI'⟩
  | false=>exact ⟨rfl,by rw [if_neg (by simp)]; exact hI'.step h0 h2 hb.a0 hb.a1 hf (h3 hf) (hb.fl hne)⟩
 ·rw [Qgv,Qao,cond_false]; rfl
theorem QDo (n:Qag)(h1:QaJ n=[arg0 n])(bs:List QbB)(m i0:Int)(l:List Int)(hl:l.length≤1000000000000)(hb:Bnd p f (arg0 n) l)(s:List Int)(hs:RInv p f s):QdD s p f n bs m i0 l (l.length:Int) 0=some (l.foldl (Qlx p f (arg0 n)) s):=by
 refine QaT (L:=fun s i=>QdD s p f n bs m i0 l (l.length:Int) i) (l:=l) (F:=Qlx p f (arg0 n)) (E:=id) (fun _ s=>RInv p f s) (fun s i v hv hI=>?_) (fun s hI=>?_) s hs
 ·have hI':RInv p f s:=hI
  have hm:=List.mem_of_getElem? hv
  obtain ⟨h0,h2,h3⟩:=hb.rng v hm
  have hne:l≠[]:=fun h=>by rw [h] at hm; cases hm
  have hq:at' n.2.2.1 0=some (arg0 n):=by rw [show n.2.2.1=QaJ n from rfl,h1]; rfl
  obtain ⟨r1,r2,_⟩:=hI'.at_ v h0 h2
  rw [Qj8,Qak hv,cond_true,Qai hv,Qaa,Qjz h0 (by rw [hI'.len]; exact h2),Qaa,Qal hv (by omega),hq,Qaa,Qjz hb.a0 (by rw [hI'.len]; exact hb.a1),Qaa]
  unfold Qlx
  cases hf:flV p f v with
  | true=>rw [Qac (by rw [r1 hf]; decide)]; exact ⟨rfl,hI'⟩
  | false=>rw [Qab (by have:=r2 hf; omega)]; exact ⟨rfl,by rw [if_neg (by simp)]; exact hI'.step h0 h2 hb.a0 hb.a1 hf (h3 hf) (hb.fl hne)⟩
 ·rw [Qj8,Qao,cond_false]; rfl
theorem QAG (n:Qag)(h1:QaJ n=[arg0 n])(bs:List QbB)(m i0:Int)(l:List Int)(hl:l.length≤1000000000000)(hb:Bnd p f (arg0 n) l)(s:List Int)(hs:RInv p f s):QcS s p f n (Qae f).length bs m i0 l (l.length:Int) 0=some (l.foldl (Qlx p f (arg0 n)) s):=by
 refine QaT (L:=fun s i=>QcS s p f n (Qae f).length bs m i0 l (l.length:Int) i) (l:=l) (F:=Qlx p f (arg0 n)) (E:=id) (fun _ s=>RInv p f s) (fun s i v hv hI=>?_) (fun s hI=>?_) s hs
 ·have hI':RInv p f s:=hI
  have hm:=List.mem_of_getElem? hv
  obtain ⟨h0,h2,h3⟩:=hb.rng v hm
  have hne:l≠[]:=fun h=>by rw [h] at hm; cases hm
  have hq:at' n.2.2.1 0=some (arg0 n):=by rw [show n.2.2.1=QaJ n from rfl,h1]; rfl
  obtain ⟨r1,r2,_⟩:=hI'.at_ v h0 h2
  rw [Qil,Qak hv,cond_true,Qai hv,Qaa,Qab (show ¬ v<0 by omega),Qac h2,Qjz h0 (by rw [hI'.len]; exact h2),Qaa,Qal hv (by omega),hq,Qaa,Qab (show ¬ arg0 n<0 by have:=hb.a0; omega),Qac hb.a1,Qjz hb.a0 (by rw [hI'.len]; exact hb.a1),Qaa]
  unfold Qlx
  cases hf:flV p f v with
  | true=>rw [Qac (by rw [r1 hf]; decide)]; exact ⟨rfl,hI'⟩
  | false=>rw [Qab (by have:=r2 hf; omega)]; exact ⟨rfl,by rw [if_neg (by simp)]; exact hI'.step h0 h2 hb.a0 hb.a1 hf (h3 hf) (hb.fl hne)⟩
 ·rw [Qil,Qao,cond_false]; rfl
theorem QDp (n:Qag)(h1:QaJ n=[arg0 n])(l:List QbB)(hl:l.length≤1000000)(hll:∀ b∈l,b.1.length≤1000000000000)(hb:∀ b∈l,Bnd p f (arg0 n) b.1)(s:List Int)(hs:RInv p f s):QeZ s p f n l (l.length:Int) 0=some (l.foldl (fun s b=>b.1.foldl (Qlx p f (arg0 n)) s) s):=by
 refine QaT (L:=fun s i=>QeZ s p f n l (l.length:Int) i) (l:=l) (F:=fun s b=>b.1.foldl (Qlx p f (arg0 n)) s) (E:=id) (fun _ s=>RInv p f s) (fun s i b hv hI=>?_) (fun s hI=>?_) s hs
 ·have hm:=List.mem_of_getElem? hv
  rw [Qj7,Qak hv,cond_true,Qai hv,Qaa,QDo p f n h1 _ _ _ b.1 (hll b hm) (hb b hm) s hI,Qaa,Qal hv (by omega)]
  exact ⟨rfl,QqE p f _ _ _ (hb b hm) hI⟩
 ·rw [Qj7,Qao,cond_false]; rfl
theorem QAH (n:Qag)(h1:QaJ n=[arg0 n])(l:List QbB)(hl:l.length≤1000000)(hll:∀ b∈l,b.1.length≤1000000000000)(hb:∀ b∈l,Bnd p f (arg0 n) b.1)(s:List Int)(hs:RInv p f s):Qdv s p f n (Qae f).length l (l.length:Int) 0=some (l.foldl (fun s b=>b.1.foldl (Qlx p f (arg0 n)) s) s):=by
 refine QaT (L:=fun s i=>Qdv s p f n (Qae f).length l (l.length:Int) i) (l:=l) (F:=fun s b=>b.1.foldl (Qlx p f (arg0 n)) s) (E:=id) (fun _ s=>RInv p f s) (fun s i b hv hI=>?_) (fun s hI=>?_) s hs
 ·have hm:=List.mem_of_getElem? hv
  rw [Qik,Qak hv,cond_true,Qai hv,Qaa,QAG p f n h1 _ _ _ b.1 (hll b hm) (hb b hm) s hI,Qaa,Qal hv (by omega)]
  exact ⟨rfl,QqE p f _ _ _ (hb b hm) hI⟩
 ·rw [Qik,Qao,cond_false]; rfl
variable {p f} in
theorem Qbj.bnd {sc:List Bool}{n:Qag}(h:Qbj p f sc n)(hs:sc.length=(Qae f).length)(h9:nOp n=9)(ht:Qgn n=false):∀ b∈nBr n,Bnd p f (arg0 n) b.1:=fun b hb=>by
 have h1:=h.one (by omega)
 have hin:∀ v∈b.1,v∈binds n:=fun v hv=>by unfold binds; rw [if_pos h9]; exact List.mem_flatMap.2 ⟨b,hb,hv⟩
 have a0:0≤arg0 n:=h.QHY (by omega) _ (by rw [h1]; simp)
 refine ⟨a0,h.args hs _ (by rw [h1]; simp) a0,fun hne=>h.field h9 b hb hne,fun v hv=>⟨(h.rng v (hin v hv)).1,(h.rng v (hin v hv)).2,fun hf=>?_⟩⟩
 rw [h.mode v (hin v hv),ht]
 unfold flV at hf
 rw [hf,QbC h9]
 rfl
variable {p f} in
theorem Qbj.QFt {sc:List Bool}{n:Qag}(h:Qbj p f sc n)(hs:sc.length=(Qae f).length)(h9:nOp n=9)(ht:Qgn n=false):Bnd p f (arg0 n) (binds n):=by
 have h1:=h.one (by omega)
 have a0:0≤arg0 n:=h.QHY (by omega) _ (by rw [h1]; simp)
 have hb:binds n=(nBr n).flatMap (·.1):=by unfold binds; rw [if_pos h9]
 refine ⟨a0,h.args hs _ (by rw [h1]; simp) a0,fun hne=>?_,fun v hv=>?_⟩
 ·rw [hb] at hne
  cases hx:(nBr n).flatMap (·.1) with
  | nil=>exact absurd hx hne
  | cons v r=>
   obtain ⟨b,hb2,hv⟩:=List.mem_flatMap.1 (show v∈(nBr n).flatMap (·.1) by rw [hx]; simp)
   exact h.field h9 b hb2 (fun h=>by rw [h] at hv; cases hv)
 ·rw [hb] at hv
  obtain ⟨b,hb2,hv⟩:=List.mem_flatMap.1 hv
  exact (h.bnd hs h9 ht b hb2).rng v hv
def Qsz (n:Qag)(s:List Int):List Int:=if nOp n=9∧Qgn n=false then (binds n).foldl (Qlx p f (arg0 n)) s else s
theorem QH1 {d:Nat}{sc:List Bool}{n:Qag}(h:∀ x∈kb n,Ok p f d (setS true x.2 sc) x.1):∀ k∈kids n,∃ sc',Ok p f d sc' k:=fun k hk=>by
 rw [Qbw] at hk
 obtain ⟨x,hx,rfl⟩:=List.mem_map.1 hk
 exact ⟨_,h x hx⟩
def Qvm (s s':List Int)(k:Int):Prop:=QcR (QaH p f) s p.1 p.2 f.1 f.2.1 f.2.2.1 f.2.2.2.1 f.2.2.2.2.1 f.2.2.2.2.2.1 f.2.2.2.2.2.2 k=some s'∧QgM s p f k=some s'∧QhH s p f k (Qae f).length=some s'∧RInv p f s'
theorem QAI (d:Nat)(ks:List Int)(hl:ks.length≤1000)(hg:∀ k∈ks,∀ s,RInv p f s→∃ s',Qvm p f s s' k):∀ (r pre:List Int) (s:List Int),ks=pre++r→RInv p f s→
  ∃ s',Qcw (QaH p f) s p.1 p.2 f.1 f.2.1 f.2.2.1 f.2.2.2.1 f.2.2.2.2.1 f.2.2.2.2.2.1 f.2.2.2.2.2.2 ks (ks.length:Int) (pre.length:Int)=some s'∧Qb9 s p f (Qae f).length ks (ks.length:Int) (pre.length:Int)=some s'∧RInv p f s':=by
 intro r
 induction r with
 | nil=>
  intro pre s h hs
  rw [Qgw,Qfx]
  subst h
  rw [QdQ (QeQ pre),QdQ (QeQ pre)]
  exact ⟨s,rfl,rfl,hs⟩
 | cons k r ih=>
  intro pre s h hs
  obtain ⟨s1,a1,a2,a3,a4⟩:=hg k (by rw [h]; simp) s hs
  rw [Qgw,Qfx]
  have hln:ks.length=pre.length+(r.length+1):=by rw [h]; simp
  have e1:decide ((pre.length:Int)<(ks.length:Int))=true:=decide_eq_true (by omega)
  have e2:at' ks (pre.length:Int)=some k:=by rw [h]; exact Qzh pre k r
  have e3:Ev.wr .i64 ((pre.length:Int)+1)=((pre++[k]).length:Int):=by rw [Sy.QbA (by omega)]; simp
  rw [e1,cond_true,cond_true,e2,Qaa,Qaa,a1,a3,Qaa,Qaa,e3]
  exact ih (pre++[k]) s1 (by rw [h]; simp) a4
theorem QEX (hp:Qbv p)(hf:Qja f):∀ (d:Nat) (sc:List Bool) (k:Int) (s:List Int),Ok p f d sc k→RInv p f s→∃ s',Qvm p f s s' k:=by
 intro d
 induction d with
 | zero=>intro sc k s h hs; exact absurd h id
 | succ d ih=>
  intro sc k s h hs
  obtain ⟨hk,hsc,n,hn,ho,hkb⟩:=h
  have hsm:=hf.nodes n (List.mem_of_getElem? hn)
  have hat:at' f.2.2.2.2.1 k=some n:=Qhi hk hn
  have hks:=QgU n hsm
  have hbl:=Qox n hsm
  have hbr:=hsm.br
  have hfv:(Qae f).length≤1000000:=hf.vars
  have hkid:∀ k∈kids n,∀ s,RInv p f s→∃ s',Qvm p f s s' k:=fun k hk s hs=>by
   obtain ⟨sc',ho'⟩:=QH1 p f hkb k hk
   exact ih sc' k s ho' hs
  have hroot:RInv p f (Qsz p f n s):=by
   unfold Qsz
   split
   ·rename_i h9; exact QqE p f _ _ _ (ho.QFt hsc h9.1 h9.2) hs
   ·exact hs
  obtain ⟨s2,b1,b2,b3⟩:=QAI p f d (kids n) hks hkid (kids n) [] (Qsz p f n s) rfl hroot
  have e1:QcR (QaH p f) s p.1 p.2 f.1 f.2.1 f.2.2.1 f.2.2.2.1 f.2.2.2.2.1 f.2.2.2.2.2.1 f.2.2.2.2.2.2 k=some s2:=by
   rw [Qnz,hat,Qaa,QhN n hsm,Qml n hsm]
   simp only [QaB,Qaa]
   have b1':Qcw (QaH p f) (Qsz p f n s) p.1 p.2 f.1 f.2.1 f.2.2.1 f.2.2.2.1 f.2.2.2.2.1 f.2.2.2.2.2.1 f.2.2.2.2.2.2 (kids n) ((kids n).length:Int) 0=some s2:=b1
   unfold Qsz at b1'
   by_cases h9:nOp n=9
   ·rw [Qac h9]
    cases ht:Qgn n with
    | true=>
     rw [if_neg (by rw [ht]; simp)] at b1'
     rw [show n.2.2.2.2.2.2.2.1=true from ht,Bool.not_true,cond_false,b1']; rfl
    | false=>
     rw [if_pos ⟨h9,ht⟩] at b1'
     rw [show n.2.2.2.2.2.2.2.1=false from ht,Bool.not_false,cond_true,QEW p f n (ho.one (by omega)) (binds n) (by have:=ho.len; omega) (ho.QFt hsc h9 ht) s hs,Qaa,Qaa,b1']; rfl
   ·rw [Qab h9,cond_false]
    rw [if_neg (fun h=>h9 h.1)] at b1'
    rw [b1']; rfl
  have hfl:nOp n=9→(nBr n).foldl (fun s b=>b.1.foldl (Qlx p f (arg0 n)) s) s=(binds n).foldl (Qlx p f (arg0 n)) s:=fun h9=>by
   unfold binds
   rw [if_pos h9,QtX]
  have e3:QhH s p f k (Qae f).length=some s2:=by
   rw [Qqg,hat,Qaa,QwC n hsm]
   simp only [QaB,Qaa]
   have b2':Qb9 (Qsz p f n s) p f (Qae f).length (kids n) ((kids n).length:Int) 0=some s2:=b2
   unfold Qsz at b2'
   by_cases h9:nOp n=9
   ·rw [Qac h9]
    cases ht:Qgn n with
    | true=>
     rw [if_neg (by rw [ht]; simp)] at b2'
     rw [show n.2.2.2.2.2.2.2.1=true from ht,Bool.not_true,cond_false,b2']; rfl
    | false=>
     rw [if_pos ⟨h9,ht⟩] at b2'
     rw [show n.2.2.2.2.2.2.2.1=false from ht,Bool.not_false,cond_true,QAH p f n (ho.one (by omega)) (nBr n) (by omega) (fun b hb=>by have:=hsm.bs b hb; omega) (ho.bnd hsc h9 ht) s hs,Qaa,Qaa,hfl h9,b2']; rfl
   ·rw [Qab h9,cond_false]
    rw [if_neg (fun h=>h9 h.1)] at b2'
    rw [b2']; rfl
  have hL4:Qjo (Qsz p f n s) p f (kids n) ((kids n).length:Int) 0=some s2:=by
   have b2':Qb9 (Qsz p f n s) p f (Qae f).length (kids n) ((kids n).length:Int) 0=some s2:=b2
   rw [Qfx] at b2'
   rw [Qpp]
   by_cases hlt:(0:Int)<((kids n).length:Int)
   ·rw [Qac hlt] at b2' ⊢
    obtain ⟨k1,hk1,hk1'⟩:=QgJ (l:=kids n) (i:=0) (by omega) hlt
    obtain ⟨s1,c1,c2,c3,c4⟩:=hkid k1 (List.mem_of_getElem? hk1') (Qsz p f n s) hroot
    rw [hk1,Qaa,c3,Qaa] at b2'
    rw [hk1,Qaa,c2,Qaa,hroot.len,b2']
    rfl
   ·rw [Qab hlt] at b2' ⊢
    exact b2'
  have e2:QgM s p f k=some s2:=by
   rw [Qs4,hat,Qaa,QwC n hsm]
   simp only [QaB,Qaa]
   unfold Qsz at hL4
   by_cases h9:nOp n=9
   ·rw [Qac h9]
    cases ht:Qgn n with
    | true=>
     rw [if_neg (by rw [ht]; simp)] at hL4
     rw [show n.2.2.2.2.2.2.2.1=true from ht,Bool.not_true,cond_false,hL4]; rfl
    | false=>
     rw [if_pos ⟨h9,ht⟩] at hL4
     rw [show n.2.2.2.2.2.2.2.1=false from ht,Bool.not_false,cond_true,QDp p f n (ho.one (by omega)) (nBr n) (by omega) (fun b hb=>by have:=hsm.bs b hb; omega) (ho.bnd hsc h9 ht) s hs,Qaa,Qaa,hfl h9,hL4]; rfl
   ·rw [Qab h9,cond_false]
    rw [if_neg (fun h=>h9 h.1)] at hL4
    rw [hL4]; rfl
  exact ⟨s2,e1,e2,e3,b3⟩
theorem QID (hd:QbN p.1)(hl:(Qae f).length≤1000000):∀ (r pre:List GVar) (a:List Bool) (b:List Int),Qae f=pre++r→a.length=pre.length→b.length=pre.length→
  Qc9 a b p p.1 p.2 f.1 f.2.1 f.2.2.1 f.2.2.2.1 f.2.2.2.2.1 f.2.2.2.2.2.1 f.2.2.2.2.2.2 (Qae f) ((Qae f).length:Int) (pre.length:Int)=some (a++r.map (fun x=>flat p.1 x.1),b++iniR p pre.length r):=by
 intro r
 induction r with
 | nil=>
  intro pre a b h ha hb
  rw [Qhr,Qab (by rw [h]; simp)]
  simp [iniR]
 | cons x r ih=>
  intro pre a b h ha hb
  have hln:(Qae f).length=pre.length+(r.length+1):=by rw [h]; simp
  have e2:at' (Qae f) (pre.length:Int)=some x:=by rw [h]; exact Qzh pre x r
  have e3:Ev.wr .i64 ((pre.length:Int)+1)=((pre++[x]).length:Int):=by rw [Sy.QbA (by omega)]; simp
  have hpl:(pre++[x]).length=pre.length+1:=by simp
  rw [Qhr,Qac (by omega),e2,Qaa,Qos p.1 hd,Qaa,Qac (show (a.length+1) * 1≤35184372088832 by omega),QmH,Qaa,Qac (show (b.length+1) * 8≤35184372088832 by omega),e3,ih (pre++[x]) _ _ (by rw [h]; simp) (by simp; omega) (by simp; omega),hpl]
  rw [iniR,List.map_cons]
  cases flat p.1 x.1<;>simp
theorem QGE (hp:Qbv p)(ho:HOk p f)(hl:(Qae f).length≤1000000):∀ (r pre:List GVar) (b:List Int),Qae f=pre++r→b.length=pre.length→
  Qdu b p f (pre.length:Int)=some (b++iniR p pre.length r):=by
 intro r
 induction r with
 | nil=>
  intro pre b h hb
  rw [Qij,Qab (show ¬ (pre.length:Int)<((Qae f).length:Int) by rw [h]; simp)]
  simp [iniR]
 | cons x r ih=>
  intro pre b h hb
  have hln:(Qae f).length=pre.length+(r.length+1):=by rw [h]; simp
  have e2:(Qae f)[((pre.length:Int)).toNat]?=some x:=by rw [h,Int.toNat_natCast]; simp
  have e3:Ev.wr .i64 ((pre.length:Int)+1)=((pre++[x]).length:Int):=by rw [Sy.QbA (by omega)]; simp
  have hpl:(pre++[x]).length=pre.length+1:=by simp
  have hfl:flV p f (pre.length:Int)=flat p.1 x.1:=by unfold flV kd; rw [e2]
  rw [Qij,Qac (show (pre.length:Int)<((Qae f).length:Int) by omega),Qzx p f hp ho (by omega) (by omega),Qaa,QmH,Qaa,Qac (show (b.length+1) * 8≤35184372088832 by omega),e3,ih (pre++[x]) _ (by rw [h]; simp) (by simp; omega),hpl,hfl]
  rw [iniR]
  cases flat p.1 x.1<;>simp
theorem QDq (hp:Qbv p)(k:Nat)(hk:p.2[k]?=some f)(ho:QGC p f):∃ s,QeY p (k:Int)=some (QaH p f,s,p.1,p.2,f.1,f.2.1,f.2.2.1,f.2.2.2.1,f.2.2.2.2.1,f.2.2.2.2.2.1,f.2.2.2.2.2.2)∧QhF p f=some s∧RInv p f s:=by
 have hf:=hp.all f (List.mem_of_getElem? hk)
 have hv:=hf.vars
 have a1:=QID p f hp.Qou hv (Qae f) [] [] [] rfl rfl rfl
 have a2:=QGE p f hp ho.hok hv (Qae f) [] [] rfl rfl
 have i0:=QGD p f
 rw [Qpn,Qai hk,Qaa,show Qc9 ([]:List Bool) ([]:List Int) p p.1 p.2 f.1 f.2.1 f.2.2.1 f.2.2.2.1 f.2.2.2.2.1 f.2.2.2.2.2.1 f.2.2.2.2.2.2 f.2.2.2.1 (f.2.2.2.1.length:Int) 0=_ from a1,Qaa,Qqf,show Qdu ([]:List Int) p f 0=_ from a2,Qaa]
 simp only [List.nil_append,List.length_nil]
 cases he:fExt f with
 | true=>
  rw [show f.2.2.2.2.2.2=true from he]
  exact ⟨_,rfl,rfl,i0⟩
 | false=>
  rw [show f.2.2.2.2.2.2=false from he]
  obtain ⟨s',b1,b2,b3,b4⟩:=QEX p f hp hf _ _ _ _ (ho.body he) i0
  rw [show f.2.2.2.2.2.2=false from he] at b1
  refine ⟨s',?_,?_,b4⟩
  ·rw [cond_false,show QcR (List.map (fun x=>flat p.1 x.1) (Qae f)) (iniR p 0 (Qae f)) p.1 p.2 f.1 f.2.1 f.2.2.1 f.2.2.2.1 f.2.2.2.2.1 f.2.2.2.2.2.1 false f.2.2.2.2.2.1=_ from b1]
   rfl
  ·rw [cond_false,show QgM (iniR p 0 (Qae f)) p f f.2.2.2.2.2.1=_ from b2,Qaa,Qaa]
   show (bif decide ((iniR p 0 (Qae f)).length≤s'.length) then some (List.take (iniR p 0 (Qae f)).length s') else none)=some s'
   rw [Qvl,b4.len.symm,Qac (Nat.le_refl _),List.take_length]
end
end Go.Proofs.YtkecfadnfnnfaaaGreatDoor.LabB.O
namespace Go.Proofs.YtkecfadnfnnfaaaGreatDoor.LabB.O
open Go Go.Ev Go.Sy Go.Proofs.YtkecfadnfnnfaaaGreatDoor.LabB
theorem QDr {α:Type}{q:Nat→α→Bool}:∀ (l:List α) (k:Nat),(∀ (i:Nat) x,l[i]?=some x→q (k+i) x=true)→allI q k l=true
 | [],k,h=>rfl
 | y::l,k,h=>by
  rw [allI,Bool.and_eq_true]
  refine ⟨h 0 y rfl,QDr l (k+1) fun i x hx=>?_⟩
  rw [show k+1+i=k+(i+1) by omega]
  exact h (i+1) x (by simpa using hx)
def gm (G:List Bool)(v:Int):Bool:=G[v.toNat]?==some true
theorem QAJ {G:List Bool}{v:Int}(h0:0≤v)(h1:v<(G.length:Int)):at' G v=some (gm G v):=by
 obtain ⟨x,hx,hx'⟩:=QgJ h0 h1
 rw [hx]
 unfold gm
 rw [hx']
 cases x<;>rfl
theorem QH2 {G:List Bool}{v:Int}:gm G v=true↔G[v.toNat]?=some true:=by unfold gm; rw [beq_iff_eq]
def dupS (s cons reads:List Int):Bool:=allI (fun i v=>!decide (v∈cons.take i)&&reads.all (fun r=>!decide (rt s r=v))) 0 cons
def endS (G B:List Bool)(cons:List Int):Bool:=allI (fun i b=>!(b&&!gm G (i:Int)&&!decide ((i:Int)∈cons))) 0 B
def badS (f:GFun)(s:List Int)(r:Int):Bool:=bif decide (rt s r<fPar f) then !rdOf f (rt s r) else true
def Qhf (f:GFun)(s:List Int)(last:Bool)(op:Int)(cons reads:List Int)(G B:List Bool):Int:=
 if cons.all (fun v=>!rdOf f v)=true then
  (if (cons++reads).all (fun v=>!gm G (rt s v))=true then
   (if dupS s cons reads=true then
    (if op=0∨op=7∨op=8 then
     (if (decide (op=0)||reads.all (fun r=>!badS f s r))=true then (if (!last||endS G B cons)=true then 0 else 12) else 12)
    else 0)
   else 12)
  else 12)
 else 11
theorem QeC (l:List Int)(hl:l.length≤9223372036854775807)(v:Int):Qa1 l v=some (decide (v∈l)):=by
 rw [Qmj,Qor,Qdp (L:=fun i=>QdS l v (l.length:Int) i) (l:=l) (p:=fun x=>decide (v=x)) (A:=fun j=>.inl (j:Int)) (B:=.inr ()) (fun i x hx=>by
  rw [Qhe,Qak hx,cond_true,Qai hx,Qaa,Qal hx hl,Qan]) (by rw [Qhe,Qao,cond_false])]
 have e:decide (v∈l)=l.any (fun x=>decide (v=x)):=by rw [Bool.eq_iff_iff]; simp
 rw [e,← Qcn _ l 0]
 cases Qjl _ 0 l with
 | none=>rfl
 | some j=>simp only [Qaa]; rw [QaD (by omega)]; rfl
theorem Qjf (l:List Int)(hl:l.length≤9223372036854775807)(v:Int):Qe0 l v=some (decide (v∈l)):=by
 rw [Qwy,Qap (L:=fun i=>QiR l v i) (l:=l) (p:=fun x=>!decide (x=v)) (A:=.inl ()) (B:=.inr ()) (fun i x hx=>by
  rw [Qmh,Qak hx,cond_true,Qai hx,Qaa,Qal hx hl,Qan]
  cases decide (x=v)<;>rfl) (by rw [Qmh,Qao,cond_false]),Qaa]
 have:decide (v∈l)=!l.all fun x=>!decide (x=v):=by
  rw [Bool.eq_iff_iff]
  simp
 rw [this]
 cases l.all _<;>rfl
theorem QnD (a b:List Int)(ha:a.length≤1000000)(hb:b.length≤1000000):Qe1 (a::(b::([]:List (List (Int)))))=some (a++b):=by
 have e1:Ev.wr .i64 (0+(a.length:Int))=(a.length:Int):=by rw [Qog (by omega) (by omega)]; omega
 have e2:Ev.wr .i64 ((a.length:Int)+(b.length:Int))=((a++b).length:Int):=by rw [Qog (by omega) (by omega),List.length_append]; omega
 have w1:Ev.wr .i64 ((0:Int)+1)=1:=rfl
 have w2:Ev.wr .i64 ((1:Int)+1)=2:=rfl
 have l0:at' [a,b] 0=some a:=rfl
 have l1:at' [a,b] 1=some b:=rfl
 have hl:(([a,b]:List (List Int)).length:Int)=2:=rfl
 have s0:QeB [a,b] 0 [a,b] (([a,b]:List (List Int)).length:Int) 0=some ((a++b).length:Int):=by
  rw [hl,QeM,Qac (by decide),l0,Qaa,e1,Qab (by omega),w1,QeM,Qac (by decide),l1,Qaa,e2,Qab (by omega),w2,QeM,Qab (by decide)]
 have hab:(a++b).length=a.length+b.length:=by simp
 have s1:QbT a [a,b] 2 1=some (a++b):=by
  rw [QdP,Qac (by decide),l1,Qaa,Qac (by omega),w2,QdP,Qab (by decide)]
 have s2:QbT ([]:List Int) [a,b] 2 0=some (a++b):=by
  rw [QdP,Qac (by decide),l0,Qaa,Qac (by simp; omega),List.nil_append,w1,s1]
 have e3:Ev.wr .i64 (((a++b).length:Int) - 0)=((a++b).length:Int):=by rw [Qog (by omega) (by omega)]; omega
 rw [Qpr,s0,Qaa,Qsk,e3,Qab (by omega),hl]
 by_cases h0:(0:Int)<((a++b).length:Int)
 ·rw [Qac h0,Qab (by omega),Qac (by rw [Int.toNat_natCast]; omega),Qab (by omega),Qaa]
  dsimp only
  rw [Qaa]
  dsimp only
  rw [QmQ,Qac (by decide),l0,Qaa,Qac (by omega),Qac (by omega),List.take_zero,List.nil_append,w1,s1]
  rfl
 ·rw [Qab h0,Qaa]
  dsimp only
  rw [Qaa]
  dsimp only
  rw [s2]
  rfl
section
variable (p:Qad) (f:GFun)
structure Vs (l:List Int):Prop where
 len:l.length≤3000
 rng:∀ v∈l,0≤v∧v<((Qae f).length:Int)∧flV p f v=false
theorem QwO (l:List Int)(hl:l.length≤1000)(hr:∀ v∈l,0≤v→v<((Qae f).length:Int)):(Qkh p f l).length≤1000∧∀ v∈Qkh p f l,0≤v∧v<((Qae f).length:Int)∧flV p f v=false:=by
 refine ⟨Nat.le_trans (List.length_filter_le _ _) hl,fun v hv=>?_⟩
 unfold Qkh at hv
 rw [List.mem_filter,Bool.and_eq_true,decide_eq_true_eq,Bool.not_eq_true'] at hv
 exact ⟨hv.2.1,hr v hv.1 hv.2.1,hv.2.2⟩
theorem QsA (h:GFun)(rd:Bool):∀ (l:List Int) (i:Nat),∀ v∈QnC p f h rd i l,v∈l∧flV p f v=false
 | [],i,v,hv=>by cases hv
 | w::l,i,v,hv=>by
  rw [QnC] at hv
  split at hv
  ·rename_i hc
   rw [Bool.and_eq_true,Bool.not_eq_true'] at hc
   rw [List.mem_cons] at hv
   rcases hv with rfl |hv
   ·exact ⟨by simp,hc.2⟩
   ·have:=QsA h rd l (i+1) v hv
    exact ⟨by simp [this.1],this.2⟩
  ·have:=QsA h rd l (i+1) v hv
   exact ⟨by simp [this.1],this.2⟩
theorem QoC {g:Int}{l:List Int}{h:GFun}(hc:QwL p f g l h)(rd:Bool)(hl:l.length≤1000):(Qjd p f g rd l).length≤1000∧∀ v∈Qjd p f g rd l,0≤v∧v<((Qae f).length:Int)∧flV p f v=false:=by
 unfold Qjd
 rw [hc.get]
 refine ⟨Nat.le_trans (Qsy p f h rd l 0) hl,fun v hv=>?_⟩
 obtain ⟨h1,h2⟩:=QsA p f h rd l 0 v hv
 exact ⟨(hc.rng v h1).1,(hc.rng v h1).2,h2⟩
variable {p f} in
theorem Qbj.cons {sc:List Bool}{n:Qag}(h:Qbj p f sc n)(hn:QbM n)(hs:sc.length=(Qae f).length):Vs p f (Qaf p f n):=by
 have a:=QwO p f (QaJ n) hn.args (h.args hs)
 unfold Qaf
 split
 ·exact ⟨by omega,a.2⟩
 split
 ·split
  ·exact ⟨by omega,a.2⟩
  ·exact ⟨by simp,fun v hv=>by cases hv⟩
 split
 ·rename_i h6
  obtain ⟨g,hc⟩:=h.call hs h6
  have b:=QoC p f hc false hn.args
  exact ⟨by omega,b.2⟩
 split
 ·rename_i h8
  obtain ⟨g,hc⟩:=h.hole hs h8
  have b:=QoC p f hc false hn.more
  refine ⟨by rw [List.length_append]; omega,fun v hv=>?_⟩
  rw [List.mem_append] at hv
  rcases hv with hv |hv
  ·exact a.2 v hv
  ·exact b.2 v hv
 ·exact ⟨by simp,fun v hv=>by cases hv⟩
variable {p f} in
theorem Qbj.rds {sc:List Bool}{n:Qag}(h:Qbj p f sc n)(hn:QbM n)(hs:sc.length=(Qae f).length):Vs p f (reads p f n):=by
 have a:=QwO p f (QaJ n) hn.args (h.args hs)
 unfold reads
 split
 ·exact ⟨by omega,a.2⟩
 split
 ·split
  ·exact ⟨by simp,fun v hv=>by cases hv⟩
  ·exact ⟨by omega,a.2⟩
 split
 ·rename_i h6
  obtain ⟨g,hc⟩:=h.call hs h6
  have b:=QoC p f hc true hn.args
  exact ⟨by omega,b.2⟩
 split
 ·rename_i h8
  obtain ⟨g,hc⟩:=h.hole hs h8
  have b:=QoC p f hc true hn.more
  exact ⟨by omega,b.2⟩
 ·exact ⟨by simp,fun v hv=>by cases hv⟩
theorem Vs.app {a b:List Int}(ha:Vs p f a)(hb:Vs p f b):∀ v∈a++b,0≤v∧v<((Qae f).length:Int)∧flV p f v=false:=fun v hv=>by
 rw [List.mem_append] at hv
 rcases hv with hv |hv
 ·exact ha.rng v hv
 ·exact hb.rng v hv
variable (G B:List Bool) (s:List Int) (n:Qag) (last:Bool) (cons rd:List Int) (gl bl:Nat)
theorem ru0 (l:List Int)(hl:Vs p f l):QbF G B (QaH p f) s l rd p.1 p.2 f.1 f.2.1 f.2.2.1 f.2.2.2.1 f.2.2.2.2.1 f.2.2.2.2.2.1 f.2.2.2.2.2.2 n last (l.length:Int) 0=some (if l.all (fun v=>!rdOf f v)=true then .inr () else .inl ()):=by
 have:=hl.len
 refine Qap (L:=fun i=>QbF G B (QaH p f) s l rd p.1 p.2 f.1 f.2.1 f.2.2.1 f.2.2.2.1 f.2.2.2.2.1 f.2.2.2.2.2.1 f.2.2.2.2.2.2 n last (l.length:Int) i) (l:=l) (fun i v hv=>?_) ?_
 ·obtain ⟨h0,h1,_⟩:=hl.rng v (List.mem_of_getElem? hv)
  obtain ⟨x,hx,_,_,hr⟩:=Qio f h0 h1
  rw [Qfc,Qak hv,cond_true,Qai hv,Qaa,show at' f.2.2.2.1 v=some x from hx,Qaa,Qal hv (by omega),hr]
  cases x.2<;>rfl
 ·rw [Qfc,Qao,cond_false]
theorem ru2 (hs:RInv p f s)(hG:G.length=gl)(hg:gl=(Qae f).length)(l:List Int)(hll:l.length≤1000000)(hl:∀ v∈l,0≤v∧v<((Qae f).length:Int)∧flV p f v=false):QbH G B (QaH p f) s cons rd p.1 p.2 f.1 f.2.1 f.2.2.1 f.2.2.2.1 f.2.2.2.2.1 f.2.2.2.2.2.1 f.2.2.2.2.2.2 n last l (l.length:Int) 0=some (if l.all (fun v=>!gm G (rt s v))=true then .inr () else .inl ()):=by
 refine Qap (L:=fun i=>QbH G B (QaH p f) s cons rd p.1 p.2 f.1 f.2.1 f.2.2.1 f.2.2.2.1 f.2.2.2.2.1 f.2.2.2.2.2.1 f.2.2.2.2.2.2 n last l (l.length:Int) i) (l:=l) (fun i v hv=>?_) ?_
 ·obtain ⟨h0,h1,h2⟩:=hl v (List.mem_of_getElem? hv)
  obtain ⟨r0,r1⟩:=(hs.at_ v h0 h1).2.1 h2
  rw [Qfe,Qak hv,cond_true,Qai hv,Qaa,Qjz h0 (by rw [hs.len]; exact h1),Qaa,QAJ r0 (by omega),Qaa,Qal hv (by omega)]
  cases gm G (rt s v)<;>rfl
 ·rw [Qfe,Qao,cond_false]
theorem ru6 (hs:RInv p f s)(hr:Vs p f rd)(v lc i0:Int):QbJ G B (QaH p f) s cons rd p.1 p.2 f.1 f.2.1 f.2.2.1 f.2.2.2.1 f.2.2.2.2.1 f.2.2.2.2.2.1 f.2.2.2.2.2.2 n last v lc i0 (rd.length:Int) 0=some (if rd.all (fun r=>!decide (rt s r=v))=true then .inr () else .inl ()):=by
 have:=hr.len
 refine Qap (L:=fun i=>QbJ G B (QaH p f) s cons rd p.1 p.2 f.1 f.2.1 f.2.2.1 f.2.2.2.1 f.2.2.2.2.1 f.2.2.2.2.2.1 f.2.2.2.2.2.2 n last v lc i0 (rd.length:Int) i) (l:=rd) (fun i r hv=>?_) ?_
 ·obtain ⟨h0,h1,h2⟩:=hr.rng r (List.mem_of_getElem? hv)
  rw [Qfg,Qak hv,cond_true,Qai hv,Qaa,Qjz h0 (by rw [hs.len]; exact h1),Qaa,Qal hv (by omega)]
  cases decide (rt s r=v)<;>rfl
 ·rw [Qfg,Qao,cond_false]
theorem ru4 (hs:RInv p f s)(hc:Vs p f cons)(hr:Vs p f rd):QbI G B (QaH p f) s cons rd p.1 p.2 f.1 f.2.1 f.2.2.1 f.2.2.2.1 f.2.2.2.2.1 f.2.2.2.2.2.1 f.2.2.2.2.2.2 n last (cons.length:Int) 0=some (if dupS s cons rd=true then .inl () else .inr ()):=by
 have hcl:=hc.len
 unfold dupS
 refine Qcs (L:=fun i=>QbI G B (QaH p f) s cons rd p.1 p.2 f.1 f.2.1 f.2.2.1 f.2.2.2.1 f.2.2.2.2.1 f.2.2.2.2.2.1 f.2.2.2.2.2.2 n last (cons.length:Int) i) (l:=cons) (fun i v hv=>?_) ?_
 ·have hi:=QaU hv
  have htl:(cons.take i).length≤9223372036854775807:=by rw [List.length_take]; omega
  rw [Qff,Qak hv,cond_true,Qai hv,Qaa,Qab (show ¬ (i:Int)<0 by omega),Qab (show ¬ (cons.length:Int)<(i:Int) by omega),Int.toNat_natCast,Qac (show i≤cons.length by omega),QeC _ htl v,Qaa,ru6 p f G B s n last cons rd hs hr,Qaa,Qal hv (by omega)]
  cases decide (v∈cons.take i)<;>cases rd.all (fun r=>!decide (rt s r=v))<;>rfl
 ·rw [Qff,Qao,cond_false]
theorem ru8 (hs:RInv p f s)(hr:Vs p f rd):QbK G B (QaH p f) s cons rd p.1 p.2 f.1 f.2.1 f.2.2.1 f.2.2.2.1 f.2.2.2.2.1 f.2.2.2.2.2.1 f.2.2.2.2.2.2 last (rd.length:Int) 0=some (if rd.all (fun r=>!badS f s r)=true then .inr () else .inl ()):=by
 have:=hr.len
 refine Qap (L:=fun i=>QbK G B (QaH p f) s cons rd p.1 p.2 f.1 f.2.1 f.2.2.1 f.2.2.2.1 f.2.2.2.2.1 f.2.2.2.2.2.1 f.2.2.2.2.2.2 last (rd.length:Int) i) (l:=rd) (fun i r hv=>?_) ?_
 ·obtain ⟨h0,h1,h2⟩:=hr.rng r (List.mem_of_getElem? hv)
  obtain ⟨r0,r1⟩:=(hs.at_ r h0 h1).2.1 h2
  obtain ⟨x,hx,_,_,hrd⟩:=Qio f r0 r1
  rw [Qfh,Qak hv,cond_true,Qai hv,Qaa,Qjz h0 (by rw [hs.len]; exact h1),Qaa,Qal hv (by omega),show at' f.2.2.2.1 (rt s r)=some x from hx,Qaa,Qah,Qaa]
  unfold badS
  rw [hrd]
  cases (bif decide (rt s r<fPar f) then !x.2 else true)<;>rfl
 ·rw [Qfh,Qao,cond_false]
theorem QIE (l:List Int)(hl:Vs p f l):Qa7 G B (QaH p f) s l rd p.1 p.2 f.1 f.2.1 f.2.2.1 f.2.2.2.1 f.2.2.2.2.1 f.2.2.2.2.2.1 f.2.2.2.2.2.2 n bl last (l.length:Int) 0=some (if l.all (fun v=>!rdOf f v)=true then .inr () else .inl ()):=by
 have:=hl.len
 refine Qap (L:=fun i=>Qa7 G B (QaH p f) s l rd p.1 p.2 f.1 f.2.1 f.2.2.1 f.2.2.2.1 f.2.2.2.2.1 f.2.2.2.2.2.1 f.2.2.2.2.2.2 n bl last (l.length:Int) i) (l:=l) (fun i v hv=>?_) ?_
 ·obtain ⟨h0,h1,_⟩:=hl.rng v (List.mem_of_getElem? hv)
  obtain ⟨x,hx,_,_,hr⟩:=Qio f h0 h1
  rw [Qek,Qak hv,cond_true,Qai hv,Qaa,show at' f.2.2.2.1 v=some x from hx,Qaa,Qal hv (by omega),hr]
  cases x.2<;>rfl
 ·rw [Qek,Qao,cond_false]
theorem QIF (hs:RInv p f s)(hG:G.length=gl)(hg:gl=(Qae f).length)(l:List Int)(hll:l.length≤1000000)(hl:∀ v∈l,0≤v∧v<((Qae f).length:Int)∧flV p f v=false):Qa8 G B (QaH p f) s cons rd p.1 p.2 f.1 f.2.1 f.2.2.1 f.2.2.2.1 f.2.2.2.2.1 f.2.2.2.2.2.1 f.2.2.2.2.2.2 n bl last l (l.length:Int) 0=some (if l.all (fun v=>!gm G (rt s v))=true then .inr () else .inl ()):=by
 refine Qap (L:=fun i=>Qa8 G B (QaH p f) s cons rd p.1 p.2 f.1 f.2.1 f.2.2.1 f.2.2.2.1 f.2.2.2.2.1 f.2.2.2.2.2.1 f.2.2.2.2.2.2 n bl last l (l.length:Int) i) (l:=l) (fun i v hv=>?_) ?_
 ·obtain ⟨h0,h1,h2⟩:=hl v (List.mem_of_getElem? hv)
  obtain ⟨r0,r1⟩:=(hs.at_ v h0 h1).2.1 h2
  rw [Qel,Qak hv,cond_true,Qai hv,Qaa,Qjz h0 (by rw [hs.len]; exact h1),Qaa,QAJ r0 (by omega),Qaa,Qal hv (by omega)]
  cases gm G (rt s v)<;>rfl
 ·rw [Qel,Qao,cond_false]
theorem QIG (hs:RInv p f s)(hr:Vs p f rd)(v lc i0:Int):Qbc G B (QaH p f) s cons rd p.1 p.2 f.1 f.2.1 f.2.2.1 f.2.2.2.1 f.2.2.2.2.1 f.2.2.2.2.2.1 f.2.2.2.2.2.2 n bl last v lc i0 (rd.length:Int) 0=some (if rd.all (fun r=>!decide (rt s r=v))=true then .inr () else .inl ()):=by
 have:=hr.len
 refine Qap (L:=fun i=>Qbc G B (QaH p f) s cons rd p.1 p.2 f.1 f.2.1 f.2.2.1 f.2.2.2.1 f.2.2.2.2.1 f.2.2.2.2.2.1 f.2.2.2.2.2.2 n bl last v lc i0 (rd.length:Int) i) (l:=rd) (fun i r hv=>?_) ?_
 ·obtain ⟨h0,h1,h2⟩:=hr.rng r (List.mem_of_getElem? hv)
  rw [Qen,Qak hv,cond_true,Qai hv,Qaa,Qjz h0 (by rw [hs.len]; exact h1),Qaa,Qal hv (by omega)]
  cases decide (rt s r=v)<;>rfl
 ·rw [Qen,Qao,cond_false]
theorem QIH (hs:RInv p f s)(hc:Vs p f cons)(hr:Vs p f rd):Qbb G B (QaH p f) s cons rd p.1 p.2 f.1 f.2.1 f.2.2.1 f.2.2.2.1 f.2.2.2.2.1 f.2.2.2.2.2.1 f.2.2.2.2.2.2 n bl last (cons.length:Int) 0=some (if dupS s cons rd=true then .inr () else .inl ()):=by
 have hcl:=hc.len
 unfold dupS
 refine Qcs (L:=fun i=>Qbb G B (QaH p f) s cons rd p.1 p.2 f.1 f.2.1 f.2.2.1 f.2.2.2.1 f.2.2.2.2.1 f.2.2.2.2.2.1 f.2.2.2.2.2.2 n bl last (cons.length:Int) i) (l:=cons) (fun i v hv=>?_) ?_
 ·have hi:=QaU hv
  have htl:(cons.take i).length≤9223372036854775807:=by rw [List.length_take]; omega
  rw [Qem,Qak hv,cond_true,Qai hv,Qaa,Qab (show ¬ (i:Int)<0 by omega),Qab (show ¬ (cons.length:Int)<(i:Int) by omega),Int.toNat_natCast,Qac (show i≤cons.length by omega),QeC _ htl v,Qaa,QIG p f G B s n last cons rd bl hs hr,Qaa,Qal hv (by omega)]
  cases decide (v∈cons.take i)<;>cases rd.all (fun r=>!decide (rt s r=v))<;>rfl
 ·rw [Qem,Qao,cond_false]
theorem QII (hs:RInv p f s)(hr:Vs p f rd):Qbd G B (QaH p f) s cons rd p.1 p.2 f.1 f.2.1 f.2.2.1 f.2.2.2.1 f.2.2.2.2.1 f.2.2.2.2.2.1 f.2.2.2.2.2.2 bl last (rd.length:Int) 0=some (if rd.all (fun r=>!badS f s r)=true then .inr () else .inl ()):=by
 have:=hr.len
 refine Qap (L:=fun i=>Qbd G B (QaH p f) s cons rd p.1 p.2 f.1 f.2.1 f.2.2.1 f.2.2.2.1 f.2.2.2.2.1 f.2.2.2.2.2.1 f.2.2.2.2.2.2 bl last (rd.length:Int) i) (l:=rd) (fun i r hv=>?_) ?_
 ·obtain ⟨h0,h1,h2⟩:=hr.rng r (List.mem_of_getElem? hv)
  obtain ⟨r0,r1⟩:=(hs.at_ r h0 h1).2.1 h2
  obtain ⟨x,hx,_,_,hrd⟩:=Qio f r0 r1
  rw [Qeo,Qak hv,cond_true,Qai hv,Qaa,Qjz h0 (by rw [hs.len]; exact h1),Qaa,Qal hv (by omega),show at' f.2.2.2.1 (rt s r)=some x from hx,Qaa,Qah,Qaa]
  unfold badS
  rw [hrd]
  cases (bif decide (rt s r<fPar f) then !x.2 else true)<;>rfl
 ·rw [Qeo,Qao,cond_false]
theorem QIJ (l:List Int)(hl:Vs p f l):Qbe G B (QaH p f) s l rd p.1 p.2 f.1 f.2.1 f.2.2.1 f.2.2.2.1 f.2.2.2.2.1 f.2.2.2.2.2.1 f.2.2.2.2.2.2 n gl bl last (l.length:Int) 0=some (if l.all (fun v=>!rdOf f v)=true then .inr () else .inl ()):=by
 have:=hl.len
 refine Qap (L:=fun i=>Qbe G B (QaH p f) s l rd p.1 p.2 f.1 f.2.1 f.2.2.1 f.2.2.2.1 f.2.2.2.2.1 f.2.2.2.2.2.1 f.2.2.2.2.2.2 n gl bl last (l.length:Int) i) (l:=l) (fun i v hv=>?_) ?_
 ·obtain ⟨h0,h1,_⟩:=hl.rng v (List.mem_of_getElem? hv)
  obtain ⟨x,hx,_,_,hr⟩:=Qio f h0 h1
  rw [Qep,Qak hv,cond_true,Qai hv,Qaa,show at' f.2.2.2.1 v=some x from hx,Qaa,Qal hv (by omega),hr]
  cases x.2<;>rfl
 ·rw [Qep,Qao,cond_false]
theorem QIK (hs:RInv p f s)(hG:G.length=gl)(hg:gl=(Qae f).length)(l:List Int)(hll:l.length≤1000000)(hl:∀ v∈l,0≤v∧v<((Qae f).length:Int)∧flV p f v=false):Qbf G B (QaH p f) s cons rd p.1 p.2 f.1 f.2.1 f.2.2.1 f.2.2.2.1 f.2.2.2.2.1 f.2.2.2.2.2.1 f.2.2.2.2.2.2 n gl bl last l (l.length:Int) 0=some (if l.all (fun v=>!gm G (rt s v))=true then .inr () else .inl ()):=by
 refine Qap (L:=fun i=>Qbf G B (QaH p f) s cons rd p.1 p.2 f.1 f.2.1 f.2.2.1 f.2.2.2.1 f.2.2.2.2.1 f.2.2.2.2.2.1 f.2.2.2.2.2.2 n gl bl last l (l.length:Int) i) (l:=l) (fun i v hv=>?_) ?_
 ·obtain ⟨h0,h1,h2⟩:=hl v (List.mem_of_getElem? hv)
  obtain ⟨r0,r1⟩:=(hs.at_ v h0 h1).2.1 h2
  rw [Qeq,Qak hv,cond_true,Qai hv,Qaa,Qjz h0 (by rw [hs.len]; exact h1),Qaa,Qab (show ¬ rt s v<0 by omega),Qac (show rt s v<(gl:Int) by omega),QAJ r0 (by omega),Qaa,Qal hv (by omega)]
  cases gm G (rt s v)<;>rfl
 ·rw [Qeq,Qao,cond_false]
theorem QIL (hs:RInv p f s)(hr:Vs p f rd)(v lc i0:Int):Qbh G B (QaH p f) s cons rd p.1 p.2 f.1 f.2.1 f.2.2.1 f.2.2.2.1 f.2.2.2.2.1 f.2.2.2.2.2.1 f.2.2.2.2.2.2 n gl bl last v lc i0 (rd.length:Int) 0=some (if rd.all (fun r=>!decide (rt s r=v))=true then .inr () else .inl ()):=by
 have:=hr.len
 refine Qap (L:=fun i=>Qbh G B (QaH p f) s cons rd p.1 p.2 f.1 f.2.1 f.2.2.1 f.2.2.2.1 f.2.2.2.2.1 f.2.2.2.2.2.1 f.2.2.2.2.2.2 n gl bl last v lc i0 (rd.length:Int) i) (l:=rd) (fun i r hv=>?_) ?_
 ·obtain ⟨h0,h1,h2⟩:=hr.rng r (List.mem_of_getElem? hv)
  rw [Qes,Qak hv,cond_true,Qai hv,Qaa,Qjz h0 (by rw [hs.len]; exact h1),Qaa,Qal hv (by omega)]
  cases decide (rt s r=v)<;>rfl
 ·rw [Qes,Qao,cond_false]
theorem QIM (hs:RInv p f s)(hc:Vs p f cons)(hr:Vs p f rd):Qbg G B (QaH p f) s cons rd p.1 p.2 f.1 f.2.1 f.2.2.1 f.2.2.2.1 f.2.2.2.2.1 f.2.2.2.2.2.1 f.2.2.2.2.2.2 n gl bl last (cons.length:Int) 0=some (if dupS s cons rd=true then .inr () else .inl ()):=by
 have hcl:=hc.len
 unfold dupS
 refine Qcs (L:=fun i=>Qbg G B (QaH p f) s cons rd p.1 p.2 f.1 f.2.1 f.2.2.1 f.2.2.2.1 f.2.2.2.2.1 f.2.2.2.2.2.1 f.2.2.2.2.2.2 n gl bl last (cons.length:Int) i) (l:=cons) (fun i v hv=>?_) ?_
 ·have hi:=QaU hv
  have htl:(cons.take i).length≤9223372036854775807:=by rw [List.length_take]; omega
  rw [Qer,Qak hv,cond_true,Qai hv,Qaa,Qab (show ¬ (i:Int)<0 by omega),Qab (show ¬ (cons.length:Int)<(i:Int) by omega),Int.toNat_natCast,Qac (show i≤cons.length by omega),QeC _ htl v,Qaa,QIL p f G B s n last cons rd gl bl hs hr,Qaa,Qal hv (by omega)]
  cases decide (v∈cons.take i)<;>cases rd.all (fun r=>!decide (rt s r=v))<;>rfl
 ·rw [Qer,Qao,cond_false]
theorem QIN (hs:RInv p f s)(hr:Vs p f rd):Qbi G B (QaH p f) s cons rd p.1 p.2 f.1 f.2.1 f.2.2.1 f.2.2.2.1 f.2.2.2.2.1 f.2.2.2.2.2.1 f.2.2.2.2.2.2 gl bl last (rd.length:Int) 0=some (if rd.all (fun r=>!badS f s r)=true then .inr () else .inl ()):=by
 have:=hr.len
 refine Qap (L:=fun i=>Qbi G B (QaH p f) s cons rd p.1 p.2 f.1 f.2.1 f.2.2.1 f.2.2.2.1 f.2.2.2.2.1 f.2.2.2.2.2.1 f.2.2.2.2.2.2 gl bl last (rd.length:Int) i) (l:=rd) (fun i r hv=>?_) ?_
 ·obtain ⟨h0,h1,h2⟩:=hr.rng r (List.mem_of_getElem? hv)
  obtain ⟨r0,r1⟩:=(hs.at_ r h0 h1).2.1 h2
  obtain ⟨x,hx,_,_,hrd⟩:=Qio f r0 r1
  rw [Qet,Qak hv,cond_true,Qai hv,Qaa,Qjz h0 (by rw [hs.len]; exact h1),Qaa,Qal hv (by omega),show at' f.2.2.2.1 (rt s r)=some x from hx,Qaa,Qah,Qaa]
  unfold badS
  rw [hrd]
  cases (bif decide (rt s r<fPar f) then !x.2 else true)<;>rfl
 ·rw [Qet,Qao,cond_false]
theorem ru10 (hGB:G.length=B.length)(hBl:B.length≤1000000)(hc:Vs p f cons):Qbt G B (QaH p f) s cons p.1 p.2 f.1 f.2.1 f.2.2.1 f.2.2.2.1 f.2.2.2.2.1 f.2.2.2.2.2.1 f.2.2.2.2.2.2 (B.length:Int) 0=some (if endS G B cons=true then .inr () else .inl ()):=by
 have:=hc.len
 unfold endS
 refine Qcs (L:=fun i=>Qbt G B (QaH p f) s cons p.1 p.2 f.1 f.2.1 f.2.2.1 f.2.2.2.1 f.2.2.2.2.1 f.2.2.2.2.2.1 f.2.2.2.2.2.2 (B.length:Int) i) (l:=B) (fun i b hv=>?_) ?_
 ·have hi:=QaU hv
  rw [QeF,Qak hv,cond_true,Qai hv,Qaa,QAJ (by omega) (by omega),Qaa,Qah,Qaa,QeC cons (by omega),Qaa,Qah,Qaa,Qal hv (by omega)]
  cases b<;>cases gm G (i:Int)<;>cases decide ((i:Int)∈cons)<;>rfl
 ·rw [QeF,Qao,cond_false]
theorem QH3 (hGB:G.length=B.length)(hBl:B.length≤1000000)(hc:Vs p f cons):Qa3 G B (QaH p f) s cons p.1 p.2 f.1 f.2.1 f.2.2.1 f.2.2.2.1 f.2.2.2.2.1 f.2.2.2.2.2.1 f.2.2.2.2.2.2 B.length B.length (B.length:Int) 0=some (if endS G B cons=true then .inr () else .inl ()):=by
 have:=hc.len
 unfold endS
 refine Qcs (L:=fun i=>Qa3 G B (QaH p f) s cons p.1 p.2 f.1 f.2.1 f.2.2.1 f.2.2.2.1 f.2.2.2.2.1 f.2.2.2.2.2.1 f.2.2.2.2.2.2 B.length B.length (B.length:Int) i) (l:=B) (fun i b hv=>?_) ?_
 ·have hi:=QaU hv
  rw [QdT,Qak hv,cond_true,Qab (show ¬ (i:Int)<0 by omega),cond_true,Qai hv,Qaa,QAJ (by omega) (by omega),Qaa,Qah,Qaa,QeC cons (by omega),Qaa,Qah,Qaa,Qal hv (by omega)]
  cases b<;>cases gm G (i:Int)<;>cases decide ((i:Int)∈cons)<;>rfl
 ·rw [QdT,Qao,cond_false]
theorem QH4 (hGB:G.length=B.length)(hBl:B.length≤1000000)(hc:Vs p f cons):Qa4 G B (QaH p f) s cons p.1 p.2 f.1 f.2.1 f.2.2.1 f.2.2.2.1 f.2.2.2.2.1 f.2.2.2.2.2.1 f.2.2.2.2.2.2 G.length B.length B.length (B.length:Int) 0=some (if endS G B cons=true then .inr () else .inl ()):=by
 have:=hc.len
 unfold endS
 refine Qcs (L:=fun i=>Qa4 G B (QaH p f) s cons p.1 p.2 f.1 f.2.1 f.2.2.1 f.2.2.2.1 f.2.2.2.2.1 f.2.2.2.2.2.1 f.2.2.2.2.2.2 G.length B.length B.length (B.length:Int) i) (l:=B) (fun i b hv=>?_) ?_
 ·have hi:=QaU hv
  rw [QdU,Qak hv,cond_true,Qab (show ¬ (i:Int)<0 by omega),cond_true,Qai hv,Qaa,Qac (show (i:Int)<(G.length:Int) by omega),QAJ (by omega) (by omega),Qaa,Qah,Qaa,QeC cons (by omega),Qaa,Qah,Qaa,Qal hv (by omega)]
  cases b<;>cases gm G (i:Int)<;>cases decide ((i:Int)∈cons)<;>rfl
 ·rw [QdU,Qao,cond_false]
theorem QsB:Qe2 n=some (decide (nOp n=0∨nOp n=7∨nOp n=8)):=by
 rw [Qps]
 simp only [Qah,Qaa,QaQ]
 congr 1
 rw [Bool.eq_iff_iff]
 simp only [Bool.or_eq_true,decide_eq_true_eq]
 exact or_assoc
theorem QDs (sc:List Bool)(hn:QbM n)(h:Qbj p f sc n)(hsc:sc.length=(Qae f).length)(hv:(Qae f).length≤1000000)(hs:RInv p f s)(hG:G.length=(Qae f).length)(hB:B.length=(Qae f).length):
  Qfw (QaH p f) s G B p.1 p.2 f.1 f.2.1 f.2.2.1 f.2.2.2.1 f.2.2.2.2.1 f.2.2.2.2.2.1 f.2.2.2.2.2.2 n last=some (Qhf f s last (nOp n) (Qaf p f n) (reads p f n) G B):=by
 have hc:=h.cons hn hsc
 have hr:=h.rds hn hsc
 have h1:=hc.len
 have h2:=hr.len
 rw [Qls,QgN p f s n hn h hsc,Qaa]
 dsimp only
 rw [ru0 p f G B s n last (reads p f n)  (Qaf p f n) hc,Qaa,QnD _ _ (by omega) (by omega),Qaa,
  ru2 p f G B s n last (Qaf p f n) (reads p f n) G.length hs rfl hG _ (by rw [List.length_append]; omega) (hc.app p f hr),Qaa,ru4 p f G B s n last (Qaf p f n) (reads p f n)  hs hc hr,Qaa,QsB n,Qaa,
  ru8 p f G B s last (Qaf p f n) (reads p f n)  hs hr,Qaa,ru10 p f G B s (Qaf p f n) (by omega) (by omega) hc,Qaa]
 unfold Qhf
 cases (Qaf p f n).all (fun v=>!rdOf f v) with
 | false=>rfl
 | true=>
  cases (Qaf p f n++reads p f n).all (fun v=>!gm G (rt s v)) with
  | false=>rfl
  | true=>
   cases dupS s (Qaf p f n) (reads p f n) with
   | false=>rfl
   | true=>
    by_cases ho:nOp n=0∨nOp n=7∨nOp n=8
    ·rw [QbC ho,if_pos ho,show decide (n.1=0)=decide (nOp n=0) from rfl]
     cases decide (nOp n=0)<;>cases (reads p f n).all (fun r=>!badS f s r)<;>cases last<;>cases endS G B (Qaf p f n)<;>rfl
    ·rw [QaD ho,if_neg ho]; rfl
theorem Qym (sc:List Bool)(hn:QbM n)(h:Qbj p f sc n)(hsc:sc.length=(Qae f).length)(hv:(Qae f).length≤1000000)(hs:RInv p f s)(hG:G.length=(Qae f).length)(hB:B.length=(Qae f).length):
  Qee (QaH p f) s G B p.1 p.2 f.1 f.2.1 f.2.2.1 f.2.2.2.1 f.2.2.2.2.1 f.2.2.2.2.2.1 f.2.2.2.2.2.2 n B.length last=some (Qhf f s last (nOp n) (Qaf p f n) (reads p f n) G B):=by
 have hc:=h.cons hn hsc
 have hr:=h.rds hn hsc
 have h1:=hc.len
 have h2:=hr.len
 rw [Qkc,QgN p f s n hn h hsc,Qaa]
 dsimp only
 rw [QIE p f G B s n last (reads p f n) B.length (Qaf p f n) hc,Qaa,QnD _ _ (by omega) (by omega),Qaa,
  QIF p f G B s n last (Qaf p f n) (reads p f n) G.length B.length hs rfl hG _ (by rw [List.length_append]; omega) (hc.app p f hr),Qaa,QIH p f G B s n last (Qaf p f n) (reads p f n) B.length hs hc hr,Qaa,QsB n,Qaa,
  QII p f G B s last (Qaf p f n) (reads p f n) B.length hs hr,Qaa,QH3 p f G B s (Qaf p f n) (by omega) (by omega) hc,Qaa]
 unfold Qhf
 cases (Qaf p f n).all (fun v=>!rdOf f v) with
 | false=>rfl
 | true=>
  cases (Qaf p f n++reads p f n).all (fun v=>!gm G (rt s v)) with
  | false=>rfl
  | true=>
   cases dupS s (Qaf p f n) (reads p f n) with
   | false=>rfl
   | true=>
    by_cases ho:nOp n=0∨nOp n=7∨nOp n=8
    ·rw [QbC ho,if_pos ho,show decide (n.1=0)=decide (nOp n=0) from rfl]
     cases decide (nOp n=0)<;>cases (reads p f n).all (fun r=>!badS f s r)<;>cases last<;>cases endS G B (Qaf p f n)<;>rfl
    ·rw [QaD ho,if_neg ho]; rfl
theorem Qyn (sc:List Bool)(hn:QbM n)(h:Qbj p f sc n)(hsc:sc.length=(Qae f).length)(hv:(Qae f).length≤1000000)(hs:RInv p f s)(hG:G.length=(Qae f).length)(hB:B.length=(Qae f).length):
  Qeg (QaH p f) s G B p.1 p.2 f.1 f.2.1 f.2.2.1 f.2.2.2.1 f.2.2.2.2.1 f.2.2.2.2.2.1 f.2.2.2.2.2.2 n G.length B.length last=some (Qhf f s last (nOp n) (Qaf p f n) (reads p f n) G B):=by
 have hc:=h.cons hn hsc
 have hr:=h.rds hn hsc
 have h1:=hc.len
 have h2:=hr.len
 rw [Qke,QgN p f s n hn h hsc,Qaa]
 dsimp only
 rw [QIJ p f G B s n last (reads p f n) G.length B.length (Qaf p f n) hc,Qaa,QnD _ _ (by omega) (by omega),Qaa,
  QIK p f G B s n last (Qaf p f n) (reads p f n) G.length B.length hs rfl hG _ (by rw [List.length_append]; omega) (hc.app p f hr),Qaa,QIM p f G B s n last (Qaf p f n) (reads p f n) G.length B.length hs hc hr,Qaa,QsB n,Qaa,
  QIN p f G B s last (Qaf p f n) (reads p f n) G.length B.length hs hr,Qaa,QH4 p f G B s (Qaf p f n) (by omega) (by omega) hc,Qaa]
 unfold Qhf
 cases (Qaf p f n).all (fun v=>!rdOf f v) with
 | false=>rfl
 | true=>
  cases (Qaf p f n++reads p f n).all (fun v=>!gm G (rt s v)) with
  | false=>rfl
  | true=>
   cases dupS s (Qaf p f n) (reads p f n) with
   | false=>rfl
   | true=>
    by_cases ho:nOp n=0∨nOp n=7∨nOp n=8
    ·rw [QbC ho,if_pos ho,show decide (n.1=0)=decide (nOp n=0) from rfl]
     cases decide (nOp n=0)<;>cases (reads p f n).all (fun r=>!badS f s r)<;>cases last<;>cases endS G B (Qaf p f n)<;>rfl
    ·rw [QaD ho,if_neg ho]; rfl
end
end Go.Proofs.YtkecfadnfnnfaaaGreatDoor.LabB.O
