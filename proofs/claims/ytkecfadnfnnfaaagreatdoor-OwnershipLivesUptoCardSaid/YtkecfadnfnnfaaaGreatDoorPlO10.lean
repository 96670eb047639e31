/- Of the models of the ownership statements: what is live at a node. -/
import Derived.Test.YtkecfadnfnnfaaaGreatDoorPlO9
set_option linter.unusedVariables false
set_option linter.unusedSimpArgs false
namespace Go.Proofs.YtkecfadnfnnfaaaGreatDoor.LabB.O
open Go Go.Ev Go.Sy Go.Proofs.YtkecfadnfnnfaaaGreatDoor.LabB
theorem Qxv {l:List Int}{G:List Bool}(hl:∀ v∈l,0≤v){v:Int}(h0:0≤v)(h1:v<(G.length:Int)):gm (setS true l G) v=true↔(v∈l∨gm G v=true):=by
 rw [QEq,QEq,Qie]
 by_cases hm:v∈l
 ·rw [if_pos ⟨⟨v,hm,rfl⟩,by omega⟩]
  exact ⟨fun _=>Or.inl hm,fun _=>rfl⟩
 ·rw [if_neg]
  ·exact ⟨fun h=>Or.inr h,fun h=>h.resolve_left hm⟩
  ·rintro ⟨⟨w,hw,he⟩,_⟩
   have:=hl w hw
   exact hm (by rw [show v=w by omega]; exact hw)
def QcE {α β:Type}(g:α→Option β):List α→Option β
 | []=>none
 | x::r=>match g x with |some y=>some y |none=>QcE g r
theorem QsV {α β:Type}{g:α→Option β}:∀ {l:List α} {x:α},x∈l→(∃ y,g x=some y)→∃ y,QcE g l=some y
 | [],x,h,_=>by cases h
 | z::l,x,h,hy=>by
  rw [QcE]
  cases hz:g z with
  | some y=>exact ⟨y,rfl⟩
  | none=>
   rw [List.mem_cons] at h
   rcases h with rfl |h
   ·obtain ⟨y,hy⟩:=hy
    rw [hz] at hy; cases hy
   ·exact QsV h hy
def Qfs (p:Qae)(f:GFun)(node:Int):Nat→List Bool→List Bool→Int→Option (List Bool×List Bool)
 | 0,_,_,_=>none
 | d+1,G,B,k=>if k=node then some (G,B) else match (Qap f)[k.toNat]? with
  | none=>none
  | some n=>QcE (fun x=>Qfs p f node d (setS true (Qao p f n) G) (setS true (x.2.filter (own p f)) B) x.1) (kb n)
def Ql1 (f:GFun)(node:Int):Nat→List Int→Int→Option (List Int)
 | 0,_,_=>none
 | d+1,sl,k=>if k=node then some sl else match (Qap f)[k.toNat]? with
  | none=>none
  | some n=>QcE (fun x=>Ql1 f node d (sl++x.2) x.1) (kb n)
section
variable (p:Qae) (f:GFun) (s:List Int) (node:Int)
structure FR (G B:List Bool)(sl:List Int):Prop where
 glen:G.length=(Qad f).length
 blen:B.length=(Qad f).length
 rng:∀ v∈sl,0≤v∧v<((Qad f).length:Int)
 bnd:∀ v:Int,0≤v→v<((Qad f).length:Int)→(gm B v=true↔(v∈sl∧own p f v=true))
theorem FR.step {G B:List Bool}{sl:List Int}(h:FR p f G B sl)(cons l:List Int)(hl:∀ v∈l,0≤v∧v<((Qad f).length:Int)):FR p f (setS true cons G) (setS true (l.filter (own p f)) B) (sl++l):=by
 refine ⟨by rw [Qbv]; exact h.glen,by rw [Qbv]; exact h.blen,fun v hv=>?_,fun v h0 h1=>?_⟩
 ·rw [List.mem_append] at hv
  rcases hv with hv |hv
  ·exact h.rng v hv
  ·exact hl v hv
 ·rw [Qxv (fun w hw=>(hl w (List.mem_filter.1 hw).1).1) h0 (by rw [h.blen]; exact h1),h.bnd v h0 h1,List.mem_filter,List.mem_append]
  constructor
  ·rintro (⟨a,b⟩ |⟨a,b⟩)
   ·exact ⟨Or.inr a,b⟩
   ·exact ⟨Or.inl a,b⟩
  ·rintro ⟨a |a,b⟩
   ·exact Or.inr ⟨a,b⟩
   ·exact Or.inl ⟨a,b⟩
def QFE (o:Option (List Bool×List Bool))(q:Option (List Int)):Prop:=(o=none∧q=none)∨∃ G B sl,o=some (G,B)∧q=some sl∧FR p f G B sl∧sl.length≤900000
theorem QsW {g:Int×List Int→Option (List Bool×List Bool)}{h:Int×List Int→Option (List Int)}:∀ (l:List (Int×List Int)),(∀ x∈l,QFE p f (g x) (h x))→QFE p f (QcE g l) (QcE h l)
 | [],_=>Or.inl ⟨rfl,rfl⟩
 | x::l,hx=>by
  rcases hx x (by simp) with ⟨a,b⟩ |⟨G,B,sl,a,b,c,e⟩
  ·rw [QcE,QcE,a,b]
   exact QsW l (fun y hy=>hx y (by simp [hy]))
  ·rw [QcE,QcE,a,b]
   exact Or.inr ⟨G,B,sl,rfl,rfl,c,e⟩
theorem Qpm (hvl:(Qad f).length≤1000):∀ (d:Nat) (sc:List Bool) (k:Int) (G B:List Bool) (sl:List Int),Ok p f d sc k→FR p f G B sl→sl.length+1000 * d≤900000→QFE p f (Qfs p f node d G B k) (Ql1 f node d sl k):=by
 intro d
 induction d with
 | zero=>intro sc k G B sl h; exact absurd h id
 | succ d ih=>
  intro sc k G B sl h hr hl
  obtain ⟨h0,hsc,n,hn,hno,hkb⟩:=h
  rw [Qfs,Ql1]
  by_cases hk:k=node
  ·rw [if_pos hk,if_pos hk]
   exact Or.inr ⟨G,B,sl,rfl,rfl,hr,by omega⟩
  ·rw [if_neg hk,if_neg hk,hn]
   refine QsW p f (kb n) fun x hx=>?_
   have hxl:x.2.length≤(binds n).length:=Qxr (k:=x.1) (l:=x.2) hx
   have hbl:=hno.len
   exact ih _ x.1 _ _ _ (hkb x hx) (hr.step p f _ x.2 fun v hv=>hno.rng v (QjQ (k:=x.1) (l:=x.2) hx v hv)) (by rw [List.length_append]; omega)
theorem QFF:∀ (d:Nat) (sc:List Bool) (k:Int) (G B:List Bool),Ok p f d sc k→In f d k node→∃ y,Qfs p f node d G B k=some y:=by
 intro d
 induction d with
 | zero=>intro sc k G B h; exact absurd h id
 | succ d ih=>
  intro sc k G B h hi
  obtain ⟨h0,hsc,n,hn,hno,hkb⟩:=h
  rw [Qfs]
  by_cases hk:k=node
  ·rw [if_pos hk]; exact ⟨_,rfl⟩
  ·rw [if_neg hk,hn]
   rcases hi with hi |⟨n',hn',x,hx,hi⟩
   ·exact absurd hi hk
   ·rw [hn] at hn'
    obtain rfl:=Option.some.inj hn'
    exact QsV hx (ih _ x.1 _ _ (hkb x hx) hi)
variable (G B:List Bool)
def outV (nv:Nat)(k:Int)(o:Option (List Bool×List Bool)):Unit⊕((List Bool×List Bool×Nat×Nat)⊕Unit):=if k=node then .inl () else match o with |some y=>.inr (.inl (y.1,y.2,nv,nv)) |none=>.inr (.inr ())
def outW (nv:Nat)(k:Int)(o:Option (List Bool×List Bool)):Unit⊕(Unit⊕(List Bool×List Bool×Nat×Nat)):=if k=node then .inl () else match o with |some y=>.inr (.inr (y.1,y.2,nv,nv)) |none=>.inr (.inl ())
theorem lk (sc:List Bool)(k:Int)(n:Qaf)(hn:(Qap f)[k.toNat]?=some n)(h0:0≤k)(hsm:QbN n)(h:Qbu p f sc n)(hsc:sc.length=(Qad f).length)(hv:(Qad f).length≤1000000)(hG:G.length=(Qad f).length)(hB:B.length=(Qad f).length)(g:Int×List Int→Option (List Bool×List Bool))
  (hg:∀ x∈kb n,(x.1=node→g x=some (setS true (Qao p f n) G,setS true (x.2.filter (own p f)) B))∧Qay (setS true (Qao p f n) G) (setS true (x.2.filter (own p f)) B) ([]:List Bool) ([]:List Bool) (Qbp p f) s node p.1 p.2 f.1 f.2.1 f.2.2.1 f.2.2.2.1 f.2.2.2.2.1 f.2.2.2.2.2.1 f.2.2.2.2.2.2 x.1 (Qad f).length (Qad f).length=some (outV node (Qad f).length x.1 (g x))):
  ∀ (r pre:List (Int×List Int)),kb n=pre++r→Qb3 G B ([]:List Bool) ([]:List Bool) (Qbp p f) s node p.1 p.2 f.1 f.2.1 f.2.2.1 f.2.2.2.1 f.2.2.2.2.1 f.2.2.2.2.2.1 f.2.2.2.2.2.2 k (kids n) ((kids n).length:Int) (pre.length:Int)=some (match QcE g r with |some y=>.inr (y.1,y.2,(Qad f).length,(Qad f).length) |none=>.inl ()):=by
 intro r
 have hkl:=Qeq n hsm
 have hat0:at' f.2.2.2.2.1 k=some n:=Qdl h0 hn
 induction r with
 | nil=>
  intro pre h
  rw [QfC,Qab (by rw [QaU,h]; simp)]
  rfl
 | cons x r ih=>
  intro pre hk
  have hlen:(kids n).length=pre.length+(r.length+1):=by rw [QaU,hk]; simp
  have hat:(kids n)[pre.length]?=some x.1:=by
   rw [QaU,hk,List.map_append,List.getElem?_append_right (by simp)]
   simp
  have hkb:(kb n)[pre.length]?=some (x.1,x.2):=by rw [hk,List.getElem?_append_right (Nat.le_refl _)]; simp
  have e3:Ev.wr .i64 ((pre.length:Int)+1)=((pre++[x]).length:Int):=by rw [Sy.QaZ (by omega)]; simp
  obtain ⟨g1,g2⟩:=hg x (by rw [hk]; simp)
  rw [QfC,Qal hat,cond_true,Qag hat,Qaa,hat0,Qaa,QzQ p f G B s n sc hsm h hsc hv hG hB pre.length x.1 x.2 hkb,Qaa]
  dsimp only
  rw [g2,Qaa,e3,ih (pre++[x]) (by rw [hk]; simp),QcE]
  unfold outV
  by_cases hx:x.1=node
  ·rw [if_pos hx,g1 hx]
  ·rw [if_neg hx]
   cases g x with
   | some y=>rfl
   | none=>rfl
theorem lkv1 (sc:List Bool)(k:Int)(n:Qaf)(hn:(Qap f)[k.toNat]?=some n)(h0:0≤k)(hsm:QbN n)(h:Qbu p f sc n)(hsc:sc.length=(Qad f).length)(hv:(Qad f).length≤1000000)(hG:G.length=(Qad f).length)(hB:B.length=(Qad f).length)(g:Int×List Int→Option (List Bool×List Bool))
  (hg:∀ x∈kb n,(x.1=node→g x=some (setS true (Qao p f n) G,setS true (x.2.filter (own p f)) B))∧Qay (setS true (Qao p f n) G) (setS true (x.2.filter (own p f)) B) ([]:List Bool) ([]:List Bool) (Qbp p f) s node p.1 p.2 f.1 f.2.1 f.2.2.1 f.2.2.2.1 f.2.2.2.2.1 f.2.2.2.2.2.1 f.2.2.2.2.2.2 x.1 (Qad f).length (Qad f).length=some (outV node (Qad f).length x.1 (g x))):
  ∀ (r pre:List (Int×List Int)),kb n=pre++r→QbB G B ([]:List Bool) ([]:List Bool) (Qbp p f) s node p.1 p.2 f.1 f.2.1 f.2.2.1 f.2.2.2.1 f.2.2.2.2.1 f.2.2.2.2.2.1 f.2.2.2.2.2.2 B.length k (kids n) ((kids n).length:Int) (pre.length:Int)=some (match QcE g r with |some y=>.inr (y.1,y.2,(Qad f).length,(Qad f).length) |none=>.inl ()):=by
 intro r
 have hkl:=Qeq n hsm
 have hat0:at' f.2.2.2.2.1 k=some n:=Qdl h0 hn
 induction r with
 | nil=>
  intro pre h
  rw [QeR,Qab (by rw [QaU,h]; simp)]
  rfl
 | cons x r ih=>
  intro pre hk
  have hlen:(kids n).length=pre.length+(r.length+1):=by rw [QaU,hk]; simp
  have hat:(kids n)[pre.length]?=some x.1:=by
   rw [QaU,hk,List.map_append,List.getElem?_append_right (by simp)]
   simp
  have hkb:(kb n)[pre.length]?=some (x.1,x.2):=by rw [hk,List.getElem?_append_right (Nat.le_refl _)]; simp
  have e3:Ev.wr .i64 ((pre.length:Int)+1)=((pre++[x]).length:Int):=by rw [Sy.QaZ (by omega)]; simp
  obtain ⟨g1,g2⟩:=hg x (by rw [hk]; simp)
  rw [QeR,Qal hat,cond_true,Qag hat,Qaa,hat0,Qaa,QvV p f G B s n sc hsm h hsc hv hG hB pre.length x.1 x.2 hkb,Qaa]
  dsimp only
  rw [g2,Qaa,e3,ih (pre++[x]) (by rw [hk]; simp),QcE]
  unfold outV
  by_cases hx:x.1=node
  ·rw [if_pos hx,g1 hx]
  ·rw [if_neg hx]
   cases g x with
   | some y=>rfl
   | none=>rfl
theorem lkv2 (sc:List Bool)(k:Int)(n:Qaf)(hn:(Qap f)[k.toNat]?=some n)(h0:0≤k)(hsm:QbN n)(h:Qbu p f sc n)(hsc:sc.length=(Qad f).length)(hv:(Qad f).length≤1000000)(hG:G.length=(Qad f).length)(hB:B.length=(Qad f).length)(g:Int×List Int→Option (List Bool×List Bool))
  (hg:∀ x∈kb n,(x.1=node→g x=some (setS true (Qao p f n) G,setS true (x.2.filter (own p f)) B))∧Qay (setS true (Qao p f n) G) (setS true (x.2.filter (own p f)) B) ([]:List Bool) ([]:List Bool) (Qbp p f) s node p.1 p.2 f.1 f.2.1 f.2.2.1 f.2.2.2.1 f.2.2.2.2.1 f.2.2.2.2.2.1 f.2.2.2.2.2.2 x.1 (Qad f).length (Qad f).length=some (outV node (Qad f).length x.1 (g x))):
  ∀ (r pre:List (Int×List Int)),kb n=pre++r→QbC G B ([]:List Bool) ([]:List Bool) (Qbp p f) s node p.1 p.2 f.1 f.2.1 f.2.2.1 f.2.2.2.1 f.2.2.2.2.1 f.2.2.2.2.2.1 f.2.2.2.2.2.2 G.length B.length k (kids n) ((kids n).length:Int) (pre.length:Int)=some (match QcE g r with |some y=>.inl (y.1,y.2,(Qad f).length,(Qad f).length) |none=>.inr ()):=by
 intro r
 have hkl:=Qeq n hsm
 have hat0:at' f.2.2.2.2.1 k=some n:=Qdl h0 hn
 induction r with
 | nil=>
  intro pre h
  rw [QeS,Qab (by rw [QaU,h]; simp)]
  rfl
 | cons x r ih=>
  intro pre hk
  have hlen:(kids n).length=pre.length+(r.length+1):=by rw [QaU,hk]; simp
  have hat:(kids n)[pre.length]?=some x.1:=by
   rw [QaU,hk,List.map_append,List.getElem?_append_right (by simp)]
   simp
  have hkb:(kb n)[pre.length]?=some (x.1,x.2):=by rw [hk,List.getElem?_append_right (Nat.le_refl _)]; simp
  have e3:Ev.wr .i64 ((pre.length:Int)+1)=((pre++[x]).length:Int):=by rw [Sy.QaZ (by omega)]; simp
  obtain ⟨g1,g2⟩:=hg x (by rw [hk]; simp)
  rw [QeS,Qal hat,cond_true,Qag hat,Qaa,hat0,Qaa,QvW p f G B s n sc hsm h hsc hv hG hB pre.length x.1 x.2 hkb,Qaa]
  dsimp only
  rw [g2,Qaa,e3,ih (pre++[x]) (by rw [hk]; simp),QcE]
  unfold outV
  by_cases hx:x.1=node
  ·rw [if_pos hx,g1 hx]
  ·rw [if_neg hx]
   cases g x with
   | some y=>rfl
   | none=>rfl
theorem QDZ (sc:List Bool)(hf:Qgp f)(d:Nat)(k:Int)(hk:Ok p f (d+1) sc k)(hG:G.length=(Qad f).length)(hB:B.length=(Qad f).length)
  (hg:∀ n,(Qap f)[k.toNat]?=some n→∀ x∈kb n,Qay (setS true (Qao p f n) G) (setS true (x.2.filter (own p f)) B) ([]:List Bool) ([]:List Bool) (Qbp p f) s node p.1 p.2 f.1 f.2.1 f.2.2.1 f.2.2.2.1 f.2.2.2.2.1 f.2.2.2.2.2.1 f.2.2.2.2.2.2 x.1 (Qad f).length (Qad f).length=some (outV node (Qad f).length x.1 (Qfs p f node d (setS true (Qao p f n) G) (setS true (x.2.filter (own p f)) B) x.1))):
  Qep G B ([]:List Bool) ([]:List Bool) (Qbp p f) s node p.1 p.2 f.1 f.2.1 f.2.2.1 f.2.2.2.1 f.2.2.2.2.1 f.2.2.2.2.2.1 f.2.2.2.2.2.2 k=some (outW node (Qad f).length k (Qfs p f node (d+1) G B k)):=by
 obtain ⟨h0,hsc,n,hn,ho,hkb⟩:=hk
 have hsm:=hf.nodes n (List.mem_of_getElem? hn)
 have hfv:(Qad f).length≤1000000:=hf.vars
 have hat:at' f.2.2.2.2.1 k=some n:=Qdl h0 hn
 have hd:∀ x∈kb n,0<d:=fun x hx=>by
  have:=hkb x hx
  cases d with
  | zero=>exact absurd this id
  | succ d=>omega
 have hks:Qb3 G B ([]:List Bool) ([]:List Bool) (Qbp p f) s node p.1 p.2 f.1 f.2.1 f.2.2.1 f.2.2.2.1 f.2.2.2.2.1 f.2.2.2.2.2.1 f.2.2.2.2.2.2 k (kids n) ((kids n).length:Int) 0=_:=lk p f s node G B sc k n hn h0 hsm ho hsc hfv hG hB (fun x=>Qfs p f node d (setS true (Qao p f n) G) (setS true (x.2.filter (own p f)) B) x.1)
  (fun x hx=>⟨fun he=>by
   have:=hd x hx
   cases d with
   | zero=>omega
   | succ d=>rw [Qfs,if_pos he],hg n hn x hx⟩) (kb n) [] rfl
 rw [Qmz]
 unfold outW
 by_cases hk:k=node
 ·rw [Qac hk,if_pos hk]
 ·rw [Qab hk,if_neg hk,hat,Qaa,Qjb n hsm,Qaa,hks,Qaa,Qfs,if_neg hk,hn]
  dsimp only
  cases QcE (fun x=>Qfs p f node d (setS true (Qao p f n) G) (setS true (x.2.filter (own p f)) B) x.1) (kb n) with
  | some y=>rfl
  | none=>rfl
theorem QzT (sc:List Bool)(hf:Qgp f)(d:Nat)(k:Int)(hk:Ok p f (d+1) sc k)(hG:G.length=(Qad f).length)(hB:B.length=(Qad f).length)
  (hg:∀ n,(Qap f)[k.toNat]?=some n→∀ x∈kb n,Qay (setS true (Qao p f n) G) (setS true (x.2.filter (own p f)) B) ([]:List Bool) ([]:List Bool) (Qbp p f) s node p.1 p.2 f.1 f.2.1 f.2.2.1 f.2.2.2.1 f.2.2.2.2.1 f.2.2.2.2.2.1 f.2.2.2.2.2.2 x.1 (Qad f).length (Qad f).length=some (outV node (Qad f).length x.1 (Qfs p f node d (setS true (Qao p f n) G) (setS true (x.2.filter (own p f)) B) x.1))):
  Qdf G B ([]:List Bool) ([]:List Bool) (Qbp p f) s node p.1 p.2 f.1 f.2.1 f.2.2.1 f.2.2.2.1 f.2.2.2.2.1 f.2.2.2.2.2.1 f.2.2.2.2.2.2 k B.length=some (outW node (Qad f).length k (Qfs p f node (d+1) G B k)):=by
 obtain ⟨h0,hsc,n,hn,ho,hkb⟩:=hk
 have hsm:=hf.nodes n (List.mem_of_getElem? hn)
 have hfv:(Qad f).length≤1000000:=hf.vars
 have hat:at' f.2.2.2.2.1 k=some n:=Qdl h0 hn
 have hd:∀ x∈kb n,0<d:=fun x hx=>by
  have:=hkb x hx
  cases d with
  | zero=>exact absurd this id
  | succ d=>omega
 have hks:QbB G B ([]:List Bool) ([]:List Bool) (Qbp p f) s node p.1 p.2 f.1 f.2.1 f.2.2.1 f.2.2.2.1 f.2.2.2.2.1 f.2.2.2.2.2.1 f.2.2.2.2.2.2 B.length k (kids n) ((kids n).length:Int) 0=_:=lkv1 p f s node G B sc k n hn h0 hsm ho hsc hfv hG hB (fun x=>Qfs p f node d (setS true (Qao p f n) G) (setS true (x.2.filter (own p f)) B) x.1)
  (fun x hx=>⟨fun he=>by
   have:=hd x hx
   cases d with
   | zero=>omega
   | succ d=>rw [Qfs,if_pos he],hg n hn x hx⟩) (kb n) [] rfl
 rw [Qlh]
 unfold outW
 by_cases hk:k=node
 ·rw [Qac hk,if_pos hk]
 ·rw [Qab hk,if_neg hk,hat,Qaa,Qjb n hsm,Qaa,hks,Qaa,Qfs,if_neg hk,hn]
  dsimp only
  cases QcE (fun x=>Qfs p f node d (setS true (Qao p f n) G) (setS true (x.2.filter (own p f)) B) x.1) (kb n) with
  | some y=>rfl
  | none=>rfl
theorem QzU (sc:List Bool)(hf:Qgp f)(d:Nat)(k:Int)(hk:Ok p f (d+1) sc k)(hG:G.length=(Qad f).length)(hB:B.length=(Qad f).length)
  (hg:∀ n,(Qap f)[k.toNat]?=some n→∀ x∈kb n,Qay (setS true (Qao p f n) G) (setS true (x.2.filter (own p f)) B) ([]:List Bool) ([]:List Bool) (Qbp p f) s node p.1 p.2 f.1 f.2.1 f.2.2.1 f.2.2.2.1 f.2.2.2.2.1 f.2.2.2.2.2.1 f.2.2.2.2.2.2 x.1 (Qad f).length (Qad f).length=some (outV node (Qad f).length x.1 (Qfs p f node d (setS true (Qao p f n) G) (setS true (x.2.filter (own p f)) B) x.1))):
  Qay G B ([]:List Bool) ([]:List Bool) (Qbp p f) s node p.1 p.2 f.1 f.2.1 f.2.2.1 f.2.2.2.1 f.2.2.2.2.1 f.2.2.2.2.2.1 f.2.2.2.2.2.2 k G.length B.length=some (outV node (Qad f).length k (Qfs p f node (d+1) G B k)):=by
 obtain ⟨h0,hsc,n,hn,ho,hkb⟩:=hk
 have hsm:=hf.nodes n (List.mem_of_getElem? hn)
 have hfv:(Qad f).length≤1000000:=hf.vars
 have hat:at' f.2.2.2.2.1 k=some n:=Qdl h0 hn
 have hd:∀ x∈kb n,0<d:=fun x hx=>by
  have:=hkb x hx
  cases d with
  | zero=>exact absurd this id
  | succ d=>omega
 have hks:QbC G B ([]:List Bool) ([]:List Bool) (Qbp p f) s node p.1 p.2 f.1 f.2.1 f.2.2.1 f.2.2.2.1 f.2.2.2.2.1 f.2.2.2.2.2.1 f.2.2.2.2.2.2 G.length B.length k (kids n) ((kids n).length:Int) 0=_:=lkv2 p f s node G B sc k n hn h0 hsm ho hsc hfv hG hB (fun x=>Qfs p f node d (setS true (Qao p f n) G) (setS true (x.2.filter (own p f)) B) x.1)
  (fun x hx=>⟨fun he=>by
   have:=hd x hx
   cases d with
   | zero=>omega
   | succ d=>rw [Qfs,if_pos he],hg n hn x hx⟩) (kb n) [] rfl
 rw [Qlj]
 unfold outV
 by_cases hk:k=node
 ·rw [Qac hk,if_pos hk]
 ·rw [Qab hk,if_neg hk,hat,Qaa,Qjb n hsm,Qaa,hks,Qaa,Qfs,if_neg hk,hn]
  dsimp only
  cases QcE (fun x=>Qfs p f node d (setS true (Qao p f n) G) (setS true (x.2.filter (own p f)) B) x.1) (kb n) with
  | some y=>rfl
  | none=>rfl
theorem QFG (hf:Qgp f):∀ (d:Nat) (sc:List Bool) (k:Int) (G B:List Bool),Ok p f d sc k→G.length=(Qad f).length→B.length=(Qad f).length→
  Qay G B ([]:List Bool) ([]:List Bool) (Qbp p f) s node p.1 p.2 f.1 f.2.1 f.2.2.1 f.2.2.2.1 f.2.2.2.2.1 f.2.2.2.2.2.1 f.2.2.2.2.2.2 k (Qad f).length (Qad f).length=some (outV node (Qad f).length k (Qfs p f node d G B k)):=by
 intro d
 induction d with
 | zero=>intro sc k G B h; exact absurd h id
 | succ d ih=>
  intro sc k G B h hG hB
  have:=QzU p f s node G B sc hf d k h hG hB (fun n hn x hx=>by
   obtain ⟨_,_,n',hn',_,hkb⟩:=h
   rw [hn'] at hn
   obtain rfl:=Option.some.inj hn
   exact ih _ x.1 _ _ (hkb x hx) (by rw [Qbv]; exact hG) (by rw [Qbv]; exact hB))
  rw [hG,hB] at this
  exact this
def outS (o:Option (List Int)):List Int×Bool:=match o with |some sl=>(sl,true) |none=>([],false)
theorem sk0 (sl:List Int)(bs:List Qcq)(hl:bs.length≤1000000)(hsl:sl.length≤1000000)(g:Int×List Int→Option (List Int))(hg:∀ b∈bs,b.1.length≤1000000∧Qco f b.2 node (sl++b.1)=some (outS (g (b.2,b.1)))):∀ (r pre:List Qcq),bs=pre++r→
  QdA f node sl bs (bs.length:Int) (pre.length:Int)=some (match QcE g (r.map fun b=>(b.2,b.1)) with |some y=>.inl y |none=>.inr ()):=by
 intro r
 induction r with
 | nil=>
  intro pre h
  rw [Qh6]
  subst h
  rw [Qdd (Qd5 pre)]
  rfl
 | cons b r ih=>
  intro pre h
  have hlen:bs.length=pre.length+(r.length+1):=by rw [h]; simp
  have e2:bs[pre.length]?=some b:=by rw [h]; simp
  have e3:Ev.wr .i64 ((pre.length:Int)+1)=((pre++[b]).length:Int):=by rw [Sy.QaZ (by omega)]; simp
  obtain ⟨b1,b2⟩:=hg b (List.mem_of_getElem? e2)
  rw [Qh6,Qal e2,cond_true,Qag e2,Qaa,Qac (show sl.length * 8≤35184372088832 by omega),Qac (show (sl.length+b.1.length) * 8≤35184372088832 by omega),b2,Qaa,e3,ih (pre++[b]) (by rw [h]; simp),List.map_cons,QcE]
  cases g (b.2,b.1) with
  | some y=>rfl
  | none=>rfl
theorem sk2 (n:Qaf)(hn:QbN n)(hbl:(binds n).length≤1000000)(sl:List Int)(ks:List Int)(hl:ks.length≤1000000)(hsl:sl.length≤1000000)(g:Int×List Int→Option (List Int))(hg:∀ k∈ks,Qco f k node (sl++binds n)=some (outS (g (k,binds n)))):∀ (r pre:List Int),ks=pre++r→
  QdB f n node sl ks (ks.length:Int) (pre.length:Int)=some (match QcE g (r.map fun k=>(k,binds n)) with |some y=>.inl y |none=>.inr ()):=by
 intro r
 induction r with
 | nil=>
  intro pre h
  rw [Qh7]
  subst h
  rw [Qdd (Qd5 pre)]
  rfl
 | cons k r ih=>
  intro pre h
  have hlen:ks.length=pre.length+(r.length+1):=by rw [h]; simp
  have e2:ks[pre.length]?=some k:=by rw [h]; simp
  have e3:Ev.wr .i64 ((pre.length:Int)+1)=((pre++[k]).length:Int):=by rw [Sy.QaZ (by omega)]; simp
  rw [Qh7,Qal e2,cond_true,Qag e2,Qaa,Qac (show sl.length * 8≤35184372088832 by omega),Qui n hn,Qaa,Qac (show (sl.length+(binds n).length) * 8≤35184372088832 by omega),hg k (List.mem_of_getElem? e2),Qaa,e3,ih (pre++[k]) (by rw [h]; simp),List.map_cons,QcE]
  cases g (k,binds n) with
  | some y=>rfl
  | none=>rfl
theorem QCw (hf:Qgp f)(hvl:(Qad f).length≤1000):∀ (d:Nat) (sc:List Bool) (k:Int) (sl:List Int),Ok p f d sc k→sl.length+1000 * d≤900000→Qco f k node sl=some (outS (Ql1 f node d sl k)):=by
 intro d
 induction d with
 | zero=>intro sc k sl h; exact absurd h id
 | succ d ih=>
  intro sc k sl h hl
  obtain ⟨h0,hsc,n,hn,hno,hkb⟩:=h
  have hsm:=hf.nodes n (List.mem_of_getElem? hn)
  have hat:at' f.2.2.2.2.1 k=some n:=Qdl h0 hn
  have hbl:=hno.len
  have hkl:=Qeq n hsm
  have hbr:=hsm.br
  have hkid:∀ x∈kb n,Qco f x.1 node (sl++x.2)=some (outS (Ql1 f node d (sl++x.2) x.1)):=fun x hx=>by
   have hxl:x.2.length≤(binds n).length:=Qxr (k:=x.1) (l:=x.2) hx
   exact ih _ x.1 _ (hkb x hx) (by rw [List.length_append]; omega)
  rw [Qri,Ql1]
  by_cases hk:k=node
  ·rw [Qac hk,if_pos hk]; rfl
  ·rw [Qab hk,if_neg hk,hat,Qaa,hn]
   dsimp only
   by_cases h9:nOp n=9
   ·have hkbe:kb n=(nBr n).map fun b=>(b.2,b.1):=by unfold kb; rw [if_pos h9]
    have:=sk0 f node sl (nBr n) (by omega) (by omega) (fun x=>Ql1 f node d (sl++x.2) x.1) (fun b hb=>by
     have hm:(b.2,b.1)∈kb n:=by rw [hkbe]; exact List.mem_map.2 ⟨b,hb,rfl⟩
     have hle:=Qxr hm
     exact ⟨by omega,hkid _ hm⟩) (nBr n) [] rfl
    rw [← hkbe] at this
    rw [Qac h9,show QdA f node sl n.2.2.2.2.2.2.2.2.1 (n.2.2.2.2.2.2.2.2.1.length:Int) 0=_ from this,Qaa]
    cases QcE (fun x=>Ql1 f node d (sl++x.2) x.1) (kb n)<;>rfl
   ·have hkbe:kb n=(kids n).map fun k=>(k,binds n):=by unfold kb; rw [if_neg h9]
    have:=sk2 f node n hsm (by omega) sl (kids n) (by omega) (by omega) (fun x=>Ql1 f node d (sl++x.2) x.1) (fun k hk=>hkid (k,binds n) (by rw [hkbe]; exact List.mem_map.2 ⟨k,hk,rfl⟩)) (kids n) [] rfl
    rw [← hkbe] at this
    rw [Qab h9,QsO n hsm,Qaa,show QdB f n node sl (kids n) ((kids n).length:Int) 0=_ from this,Qaa]
    cases QcE (fun x=>Ql1 f node d (sl++x.2) x.1) (kb n)<;>rfl
def Qxw (U B:List Bool):List Int:=(Qfm (Qad f).length).filter fun v=>gm U v&&gm B v
theorem lo (U:List Bool)(hU:U.length=(Qad f).length)(hB:B.length=(Qad f).length)(hv:(Qad f).length≤1000000):∀ (j i:Nat),i+j=(Qad f).length→Qa3 G B ((Qfm i).filter fun v=>gm U v&&gm B v) U ((Qad f).length:Int) (i:Int)=some (Qxw f U B)
 | 0,i,h=>by
  obtain rfl:i=(Qad f).length:=by omega
  rw [Qgo,Qab (by omega)]
  rfl
 | j+1,i,h=>by
  have hle:((Qfm i).filter fun v=>gm U v&&gm B v).length≤i:=Nat.le_trans (List.length_filter_le _ _) (by rw [Qgd]; exact Nat.le_refl _)
  have ih:=lo U hU hB hv j (i+1) (by omega)
  rw [QgN,List.filter_append] at ih
  rw [Qgo,Qac (by omega),QzN (by omega) (by omega),Qaa,QzN (G:=B) (by omega) (by omega),Qaa,Sy.QaZ (by omega)]
  cases h1:gm U (i:Int) with
  | false=>simpa [h1,Qaa] using ih
  | true=>
   cases h2:gm B (i:Int) with
   | false=>simpa [h1,h2,Qaa] using ih
   | true=>
    rw [cond_true,Qaa,cond_true,Qac (show (((Qfm i).filter fun v=>gm U v&&gm B v).length+1) * 8≤35184372088832 by omega)]
    simpa [h1,h2] using ih
theorem lov1 (U:List Bool)(hU:U.length=(Qad f).length)(hB:B.length=(Qad f).length)(hv:(Qad f).length≤1000000):∀ (j i:Nat),i+j=(Qad f).length→QaS G B ((Qfm i).filter fun v=>gm U v&&gm B v) U G.length B.length ((Qad f).length:Int) (i:Int)=some (Qxw f U B)
 | 0,i,h=>by
  obtain rfl:i=(Qad f).length:=by omega
  rw [QfD,Qab (by omega)]
  rfl
 | j+1,i,h=>by
  have hle:((Qfm i).filter fun v=>gm U v&&gm B v).length≤i:=Nat.le_trans (List.length_filter_le _ _) (by rw [Qgd]; exact Nat.le_refl _)
  have ih:=lov1 U hU hB hv j (i+1) (by omega)
  rw [QgN,List.filter_append] at ih
  rw [QfD,Qac (by omega),QzN (by omega) (by omega),Qaa,Qab (show ¬ (i:Int)<0 by omega),Qac (show (i:Int)<(B.length:Int) by omega),QzN (G:=B) (by omega) (by omega),Qaa,Sy.QaZ (by omega)]
  cases h1:gm U (i:Int) with
  | false=>simpa [h1,Qaa] using ih
  | true=>
   cases h2:gm B (i:Int) with
   | false=>simpa [h1,h2,Qaa] using ih
   | true=>
    rw [cond_true,Qaa,cond_true,Qac (show (((Qfm i).filter fun v=>gm U v&&gm B v).length+1) * 8≤35184372088832 by omega)]
    simpa [h1,h2] using ih
theorem lov2 (U:List Bool)(hU:U.length=(Qad f).length)(hB:B.length=(Qad f).length)(hv:(Qad f).length≤1000000):∀ (j i:Nat),i+j=(Qad f).length→Qbt G B ((Qfm i).filter fun v=>gm U v&&gm B v) U B.length ((Qad f).length:Int) (i:Int)=some (Qxw f U B)
 | 0,i,h=>by
  obtain rfl:i=(Qad f).length:=by omega
  rw [QfE,Qab (by omega)]
  rfl
 | j+1,i,h=>by
  have hle:((Qfm i).filter fun v=>gm U v&&gm B v).length≤i:=Nat.le_trans (List.length_filter_le _ _) (by rw [Qgd]; exact Nat.le_refl _)
  have ih:=lov2 U hU hB hv j (i+1) (by omega)
  rw [QgN,List.filter_append] at ih
  rw [QfE,Qac (by omega),QzN (by omega) (by omega),Qaa,Qab (show ¬ (i:Int)<0 by omega),Qac (show (i:Int)<(B.length:Int) by omega),QzN (G:=B) (by omega) (by omega),Qaa,Sy.QaZ (by omega)]
  cases h1:gm U (i:Int) with
  | false=>simpa [h1,Qaa] using ih
  | true=>
   cases h2:gm B (i:Int) with
   | false=>simpa [h1,h2,Qaa] using ih
   | true=>
    rw [cond_true,Qaa,cond_true,Qac (show (((Qfm i).filter fun v=>gm U v&&gm B v).length+1) * 8≤35184372088832 by omega)]
    simpa [h1,h2] using ih
theorem lr (hp:QbS p)(hk:HOk p f)(l sl:List Int)(hl:l.length≤1000000000)(hsl:sl.length≤1000000)(hsr:∀ v∈sl,0≤v∧v<((Qad f).length:Int))(hv:(Qad f).length≤1000000):∀ (j i:Nat),i+j=(Qad f).length→
  QcL l ((Qfm i).filter fun v=>decide (v∈l)&&decide (v∈sl.filter (own p f))) p f sl (i:Int)=some ((Qfm (Qad f).length).filter fun v=>decide (v∈l)&&decide (v∈sl.filter (own p f)))
 | 0,i,h=>by
  obtain rfl:i=(Qad f).length:=by omega
  rw [Qke,Qab (show ¬ ((Qad f).length:Int)<((Qad f).length:Int) by omega)]
 | j+1,i,h=>by
  have hle:((Qfm i).filter fun v=>decide (v∈l)&&decide (v∈sl.filter (own p f))).length≤i:=Nat.le_trans (List.length_filter_le _ _) (by rw [Qgd]; exact Nat.le_refl _)
  have hfl:(sl.filter (own p f)).length≤sl.length:=List.length_filter_le _ _
  have ih:=lr hp hk l sl hl hsl hsr hv j (i+1) (by omega)
  rw [QgN,List.filter_append] at ih
  rw [Qke,Qac (show (i:Int)<((Qad f).length:Int) by omega),QyA l (by omega),Qaa,QCs p f hp hk sl hsl hsr,Qaa,QyA _ (by omega),Qaa,Sy.QaZ (by omega)]
  have e:([(i:Int)].filter fun v=>decide (v∈l)&&decide (v∈sl.filter (own p f)))=if (decide ((i:Int)∈l)&&decide ((i:Int)∈sl.filter (own p f)))=true then [(i:Int)] else []:=by
   rw [List.filter_cons]; rfl
  rw [e] at ih
  cases h1:decide ((i:Int)∈l) with
  | false=>
   rw [h1,Bool.false_and,if_neg (by simp),List.append_nil] at ih
   rw [cond_false,Qaa,cond_false]
   exact ih
  | true=>
   cases h2:decide ((i:Int)∈sl.filter (own p f)) with
   | false=>
    rw [h1,h2,Bool.and_false,if_neg (by simp),List.append_nil] at ih
    rw [cond_true,Qaa,cond_false]
    exact ih
   | true=>
    rw [h1,h2,Bool.and_true,if_pos rfl] at ih
    rw [cond_true,Qaa,cond_true,Qac (show (((Qfm i).filter fun v=>decide (v∈l)&&decide (v∈sl.filter (own p f))).length+1) * 8≤35184372088832 by omega)]
    exact ih
end
theorem QvZ (l:List Int)(hl:l.length≤1000000000):QlH l l=some true:=by
 rw [Que,Qac rfl,QaF (L:=fun i=>QgF l l i) (l:=l) (p:=fun _=>true) (A:=.inl ()) (B:=.inr ()) (fun i x hx=>by
  rw [Qkb,Qal hx,cond_true,Qag hx,Qaa,Qaa,Qac rfl,Qam hx (by omega),if_pos rfl]) (by rw [Qkb,Qar,cond_false]),Qaa]
 have:(l.all fun _=>true)=true:=by simp
 rw [this]
 rfl
theorem QzV (p:Qae)(hp:FewP p)(k:Int):∃ r e,Qhe p k=some (r,e)∧Qmv p k=some (r,e)∧r.length≤1000000:=by
 have hl:=hp.funs
 rw [Qno,Qr1,Qyv p hp.small,QCm p hp.small,Qaa,Qaa]
 by_cases h0:chk p=0
 ·rw [Qac h0,Qac h0]
  simp only [Qai,Qaa,QaQ]
  by_cases hr:0≤k∧k<(p.2.length:Int)
  ·rw [QaP (show ¬ k<0 by omega),QbE hr.2]
   obtain ⟨f,hf,hf'⟩:=Qfp hr.1 hr.2
   have hko:k=((k.toNat:Nat):Int):=by omega
   have hfe:=hp.few f (List.mem_of_getElem? hf')
   have hvl:=hfe.vars
   obtain ⟨s,a1,a2,hs⟩:=QvR p f hp.small k.toNat hf' (QGX p _ f (Qyy h0 _ f hf'))
   rw [← hko] at a1
   rw [a1,Qaa,hf,Qaa,a2,Qaa]
   exact ⟨s,0,rfl,rfl,by have:=hs.len; omega⟩
  ·have:(decide (k<0)||!decide (k<(p.2.length:Int)))=true:=by
    rw [Bool.or_eq_true,Bool.not_eq_true',decide_eq_true_eq,decide_eq_false_iff_not]; omega
   rw [this]
   exact ⟨[],2,rfl,rfl,by simp⟩
 ·rw [Qab h0,Qab h0]
  exact ⟨[],3,rfl,rfl,by simp⟩
theorem QCx (p:Qae)(hp:FewP p)(k node:Int):∃ r e,Qio p k node=some (r,e)∧Qog p k node=some (r,e)∧r.length≤1000000:=by
 have hl:=hp.funs
 rw [Qop,Qud,Qyv p hp.small,QCm p hp.small,Qaa,Qaa]
 by_cases h0:chk p=0
 ·rw [Qac h0,Qac h0]
  simp only [Qai,Qaa,QaQ]
  by_cases hk0:k<0
  ·rw [Qac hk0,QbE hk0]
   exact ⟨[],2,rfl,rfl,by simp⟩
  ·rw [Qab hk0]
   by_cases hk1:k<(p.2.length:Int)
   ·rw [Qac hk1,QaP hk0,QbE hk1]
    by_cases hn0:node<0
    ·rw [Qac hn0,QbE hn0]
     exact ⟨[],2,rfl,rfl,by simp⟩
    ·rw [Qab hn0,QaP hn0]
     obtain ⟨f,hf,hf'⟩:=Qfp (l:=p.2) (i:=k) (by omega) hk1
     rw [hf,Qaa]
     simp only [Qaa,Bool.not_true,Bool.or_false,cond_false]
     by_cases hn1:node<((Qap f).length:Int)
     ·have hn1':node<(f.2.2.2.2.1.length:Int):=hn1
      rw [Qac hn1',QbE hn1',Bool.not_true,cond_false]
      have hko:k=((k.toNat:Nat):Int):=by omega
      have hch:=Qyy h0 _ f hf'
      have ho:=QGX p _ f hch
      have hfe:=hp.few f (List.mem_of_getElem? hf')
      have hcl:=hfe.code
      have hvl:=hfe.vars
      have hsf:=hp.small.all f (List.mem_of_getElem? hf')
      obtain ⟨s,a1,a2,hs⟩:=QvR p f hp.small k.toNat hf' ho
      rw [← hko] at a1
      obtain ⟨p0,p1⟩:=ho.hok.par
      have hm:fPar f=((fPar f).toNat:Int):=by omega
      have hext:fExt f=false:=by
       cases he:fExt f with
       | false=>rfl
       | true=>
        have:=(ho.ext he).1
        rw [this] at hn1
        simp at hn1
        omega
      obtain ⟨z1,z2⟩:=QFD p _ f hch hext
      have hin:=z2 node (by omega) hn1
      have hbody:=ho.body hext
      obtain ⟨d',sc',hok',hsz⟩:=QHz p f _ _ _ node hbody hin
      have hfr:FR p f (G0 f) (B0 p f (fPar f).toNat) (Qfm (fPar f).toNat):=by
       have hr:∀ v∈Qfm (fPar f).toNat,0≤v∧v<((Qad f).length:Int):=fun v hv=>by rw [QvX] at hv; omega
       refine ⟨Qo7 f,Qnz p f _,hr,fun v v0 v1=>?_⟩
       have hg0:gm (G0 f) v=true↔False:=by
        unfold gm G0
        rw [List.getElem?_replicate]
        split<;>simp
       unfold B0
       rw [Qxv (fun w hw=>(hr w (List.mem_filter.1 hw).1).1) v0 (by rw [Qo7]; exact v1),hg0,or_false,List.mem_filter]
      obtain ⟨y,hy⟩:=QFF p f node _ _ _ (G0 f) (B0 p f (fPar f).toNat) hbody hin
      have hrel:=Qpm p f node (by omega) _ _ _ _ _ _ hbody hfr (by rw [Qgd]; omega)
      rcases hrel with ⟨e1,_⟩ |⟨G',B',sl,e1,e2,hfr',hsl⟩
      ·rw [hy] at e1; cases e1
      have hscope:=QCw p f node hsf (by omega) _ _ _ (Qfm (fPar f).toNat) hbody (by rw [Qgd]; omega)
      rw [e2] at hscope
      have hu:=QDX p f s hs hsf d' sc' node (List.replicate (Qad f).length false) hok' (by simp)
      obtain ⟨u1,u2⟩:=Qur p f s hs hsf d' sc' node hok'
      have hur:=QCv p f s hp.small ho.hok hs hsf d' sc' node hok' (by omega)
      have huse:QaX (Qbp p f) s p.1 p.2 f.1 f.2.1 f.2.2.1 f.2.2.2.1 f.2.2.2.2.1 f.2.2.2.2.2.1 f.2.2.2.2.2.2 node=some (setS true (QdP p f s d' node) (List.replicate (Qad f).length false)):=by
       rw [Qli,Qab (by omega),Qac (by rw [Int.toNat_natCast]; show (Qad f).length * 1≤140737488355328; omega),Int.toNat_natCast,show Qbi (Qbp p f) s (List.replicate f.2.2.2.1.length false) p.1 p.2 f.1 f.2.1 f.2.2.1 f.2.2.2.1 f.2.2.2.2.1 f.2.2.2.2.2.1 f.2.2.2.2.2.2 node=_ from hu,Qaa]
      have hUl:(setS true (QdP p f s d' node) (List.replicate (Qad f).length false)).length=(Qad f).length:=by rw [Qbv]; simp
      have hR:QcL (QdP p f s d' node) ([]:List Int) p f sl 0=some (Qxw f (setS true (QdP p f s d' node) (List.replicate (Qad f).length false)) B'):=by
       have:=lr p f hp.small ho.hok (QdP p f s d' node) sl (by omega) (by omega) hfr'.rng (by omega) (Qad f).length 0 (by omega)
       rw [show QcL (QdP p f s d' node) ([]:List Int) p f sl 0=_ from this]
       unfold Qxw
       congr 1
       refine List.filter_congr fun v hv=>?_
       rw [QvX] at hv
       have b1:=hfr'.bnd v hv.1 (by omega)
       have b2:=Qxv (G:=List.replicate (Qad f).length false) (fun w hw=>(u2 w hw).1) hv.1 (by simp; omega)
       have b3:gm (List.replicate (Qad f).length false) v=true↔False:=by
        unfold gm
        rw [List.getElem?_replicate]
        split<;>simp
       rw [b3,or_false] at b2
       rw [Bool.eq_iff_iff,Bool.and_eq_true,Bool.and_eq_true,decide_eq_true_eq,decide_eq_true_eq,b2,b1,List.mem_filter]
      have hlen:(Qxw f (setS true (QdP p f s d' node) (List.replicate (Qad f).length false)) B').length≤1000000:=Nat.le_trans (List.length_filter_le _ _) (by rw [Qgd]; omega)
      have hkids:∀ n,(Qap f)[(Qa0 f).toNat]?=some n→∀ x∈kb n,Ok p f (Qap f).length (setS true x.2 (parS (Qad f).length (fPar f).toNat)) x.1:=fun n hn x hx=>by
       obtain ⟨_,_,n',hn',_,hkb⟩:=hbody
       rw [hn'] at hn
       obtain rfl:=Option.some.inj hn
       exact hkb x hx
      have hgo:=QFG p f s node hsf
      generalize hmm:(fPar f).toNat=m at *
      refine ⟨Qxw f (setS true (QdP p f s d' node) (List.replicate (Qad f).length false)) B',0,?_,?_,hlen⟩
      ·rw [a1,Qaa]
       dsimp only
       rw [QzR p f s m hm (by omega) (by omega),Qaa]
       by_cases hz:m=0
       ·rw [if_pos hz]
        dsimp only
        subst hz
        have h1:=QDZ p f s node (G0 f) (B0 p f 0) _ hsf _ _ hbody (Qo7 f) (Qnz p f 0) (fun n hn x hx=>hgo _ _ _ _ _ (hkids n hn x hx) (by rw [Qbv]; exact Qo7 f) (by rw [Qbv]; exact Qnz p f 0))
        rw [show Qep (G0 f) (B0 p f 0) ([]:List Bool) ([]:List Bool) (Qbp p f) s node p.1 p.2 f.1 f.2.1 f.2.2.1 f.2.2.2.1 f.2.2.2.2.1 f.2.2.2.2.2.1 f.2.2.2.2.2.2 f.2.2.2.2.2.1=_ from h1,Qaa]
        unfold outW
        by_cases hb:Qa0 f=node
        ·rw [if_pos hb]
         dsimp only
         have hx:Qfs p f node ((Qap f).length+1) (G0 f) (B0 p f 0) (Qa0 f)=some (G0 f,B0 p f 0):=by rw [Qfs,if_pos hb]
         rw [hx,osi,Prod.mk.injEq] at e1
         rw [huse,Qaa,show ((setS true (QdP p f s d' node) (List.replicate (Qad f).length false)).length:Int)=((Qad f).length:Int) by rw [hUl]]
         rw [e1.2,show Qa3 (G0 f) B' ([]:List Int) (setS true (QdP p f s d' node) (List.replicate (Qad f).length false)) ((Qad f).length:Int) 0=_ from lo f (G0 f) B' _ hUl hfr'.blen (by omega) (Qad f).length 0 (by omega),Qaa]
        ·rw [if_neg hb,e1]
         dsimp only
         rw [huse,Qaa,show ((setS true (QdP p f s d' node) (List.replicate (Qad f).length false)).length:Int)=((Qad f).length:Int) by rw [hUl]]
         have:=lov1 f G' B' _ hUl hfr'.blen (by omega) (Qad f).length 0 (by omega)
         rw [hfr'.glen,hfr'.blen] at this
         rw [show QaS G' B' ([]:List Int) (setS true (QdP p f s d' node) (List.replicate (Qad f).length false)) (Qad f).length (Qad f).length ((Qad f).length:Int) 0=_ from this,Qaa]
       ·rw [if_neg hz]
        dsimp only
        have h1:=QzT p f s node (G0 f) (B0 p f m) _ hsf _ _ hbody (Qo7 f) (Qnz p f m) (fun n hn x hx=>hgo _ _ _ _ _ (hkids n hn x hx) (by rw [Qbv]; exact Qo7 f) (by rw [Qbv]; exact Qnz p f m))
        rw [Qnz] at h1
        rw [show Qdf (G0 f) (B0 p f m) ([]:List Bool) ([]:List Bool) (Qbp p f) s node p.1 p.2 f.1 f.2.1 f.2.2.1 f.2.2.2.1 f.2.2.2.2.1 f.2.2.2.2.2.1 f.2.2.2.2.2.2 f.2.2.2.2.2.1 (Qad f).length=_ from h1,Qaa]
        unfold outW
        by_cases hb:Qa0 f=node
        ·rw [if_pos hb]
         dsimp only
         have hx:Qfs p f node ((Qap f).length+1) (G0 f) (B0 p f m) (Qa0 f)=some (G0 f,B0 p f m):=by rw [Qfs,if_pos hb]
         rw [hx,osi,Prod.mk.injEq] at e1
         rw [huse,Qaa,show ((setS true (QdP p f s d' node) (List.replicate (Qad f).length false)).length:Int)=((Qad f).length:Int) by rw [hUl]]
         have:=lov2 f (G0 f) B' _ hUl hfr'.blen (by omega) (Qad f).length 0 (by omega)
         rw [hfr'.blen] at this
         rw [e1.2,show Qbt (G0 f) B' ([]:List Int) (setS true (QdP p f s d' node) (List.replicate (Qad f).length false)) (Qad f).length ((Qad f).length:Int) 0=_ from this,Qaa]
        ·rw [if_neg hb,e1]
         dsimp only
         rw [huse,Qaa,show ((setS true (QdP p f s d' node) (List.replicate (Qad f).length false)).length:Int)=((Qad f).length:Int) by rw [hUl]]
         have:=lov1 f G' B' _ hUl hfr'.blen (by omega) (Qad f).length 0 (by omega)
         rw [hfr'.glen,hfr'.blen] at this
         rw [show QaS G' B' ([]:List Int) (setS true (QdP p f s d' node) (List.replicate (Qad f).length false)) (Qad f).length (Qad f).length ((Qad f).length:Int) 0=_ from this,Qaa]
      ·rw [QzS f m hm (by omega),Qaa,show Qco f f.2.2.2.2.2.1 node (Qfm m)=_ from hscope,Qaa]
       unfold outS
       dsimp only
       rw [a2,Qaa,hur,Qaa,hR,Qaa]
     ·have hn1':¬ node<(f.2.2.2.2.1.length:Int):=hn1
      rw [Qab hn1',QaP hn1']
      exact ⟨[],2,rfl,rfl,by simp⟩
   ·rw [Qab hk1,QaP hk0,QaP hk1]
    exact ⟨[],2,rfl,rfl,by simp⟩
 ·rw [Qab h0,Qab h0]
  exact ⟨[],3,rfl,rfl,by simp⟩
theorem QyT (hawake:Qmt=some true)(p:Qae)(hb:QFB p)(k node:Int):Qd0 p k node=some true:=by
 rw [QjL,hawake,Qaa,cond_true]
 obtain ⟨b,h1,h2⟩:=QDW p hb
 rw [h1,Qaa]
 cases b with
 | false=>rfl
 | true=>
  obtain ⟨r,e,a1,a2,a3⟩:=QzV p (h2 rfl) k
  obtain ⟨q,e2,b1,b2,b3⟩:=QCx p (h2 rfl) k node
  rw [cond_true,a1,a2,b1,b2]
  simp only [Qaa]
  rw [QvZ r (by omega),QvZ q (by omega)]
  simp [Qaa]
end Go.Proofs.YtkecfadnfnnfaaaGreatDoor.LabB.O
