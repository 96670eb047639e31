/- The soundness of new blocks, built values and stores. -/
import Derived.Test.YtkecfadnfnnfaaaGreatDoorEvT
import Derived.Test.YtkecfadnfnnfaaaGreatDoorEvS
import Derived.Deep.MidRow
set_option linter.unusedVariables false
set_option linter.unusedSimpArgs false
namespace Go.Ev
def QCI:AV→Bool
 | .nils=>true
 | .emp=>true
 | _=>false
def QeX (c:Ctx):List Nat→List AV→Heap→List AV×Heap
 | z::zs,v::vs,H=>if z≠0∧QCI v=true then let r:=QeX c zs vs (H++[.rows (c.ty (z - 1)).size true []]); (.sl H.length 0 0::r.1,r.2) else let r:=QeX c zs vs H; (v::r.1,r.2)
 | [],vs,H=>(vs,H)
 | _::_,[],H=>([],H)
theorem QeG {β:Type}(c:Ctx):∀ (zs:List Nat) (vs:List AV) (H:Heap) (k:List AV→Heap→β),QaA c zs vs H k=k (QeX c zs vs H).1 (QeX c zs vs H).2
 | [],vs,H,k=>by simp [QaA,QeX]
 | z::zs,[],H,k=>by simp [QaA,QeX]
 | z::zs,v::vs,H,k=>by
  cases z with
  | zero=>simp only [QaA,QeX]; rw [QeG]; simp
  | succ z=>cases v<;>(simp only [QaA,QeX,Qig,Qat]; rw [QeG]; simp [QCI])
section
variable {I:Imm} {w:World}
theorem QgY {c:Ctx}:∀ (zs:List Nat) (vs:List AV) (H:Heap) (ρ:Ren) (g:Nat→Option Value),Sim I ρ H w→(∀ j x u,vs[j]?=some x→g j=some u→VRel I ρ x u)→
  ∃ ρ',Sim I ρ' (QeX c zs vs H).2 w∧Ext H.length I ρ H w I ρ' (QeX c zs vs H).2 w∧H.length≤(QeX c zs vs H).2.length∧(QeX c zs vs H).1.length=vs.length∧
    (∀ j x u,(QeX c zs vs H).1[j]?=some x→g j=some u→VRel I ρ' x u)∧(vs.all AV.Qax=true→(QeX c zs vs H).1.all AV.Qax=true)
 | [],vs,H,ρ,g,hs,hv=>by
  simp only [QeX]
  exact ⟨ρ,hs,Ext.refl _ _ _ _ _,Nat.le_refl _,trivial,hv,id⟩
 | z::zs,[],H,ρ,g,hs,hv=>by
  simp only [QeX]
  exact ⟨ρ,hs,Ext.refl _ _ _ _ _,Nat.le_refl _,trivial,hv,id⟩
 | z::zs,v::vs,H,ρ,g,hs,hv=>by
  simp only [QeX]
  split
  ·rename_i hz
   obtain ⟨s1,e1⟩:=hs.Qz5 (c.ty (z - 1)).size
   have h1:∀ j x u,vs[j]?=some x→g (j+1)=some u→VRel I (ρ.put H.length (0,(c.ty (z - 1)).size,0)) x u:=fun j x u hx hu=>e1.vrel hs (hv (j+1) x u hx hu)
   obtain ⟨ρ',s2,e2,l2,n2,v2,c2⟩:=QgY (c:=c) zs vs (H++[.rows (c.ty (z - 1)).size true []]) _ (fun j=>g (j+1)) s1 h1
   have hlt:H.length<(H++[Blk.rows (c.ty (z - 1)).size true []]).length:=by simp
   refine ⟨ρ',s2,e1.trans e2 (by simp),by simp at l2 ⊢; omega,by simp [n2],fun j x u hx hu=>?_,fun hc=>?_⟩
   ·cases j with
    | zero=>
     simp only [List.getElem?_cons_zero,osi] at hx
     subst hx
     have h0:=hv 0 v u rfl hu
     have hρ:ρ' H.length=some (0,(c.ty (z - 1)).size,0):=by rw [e2.ren _ hlt]; exact Ren.QaV _ _ _
     have he:=hz.2
     cases h0 with
     | nils=>exact .sle _ _ _ _ _ _ hρ
     | emp _ a=>exact .sle _ _ _ _ _ _ hρ
     | _=>simp [QCI] at he
    | succ j=>exact v2 j x u hx hu
   ·simp only [List.all_cons,Bool.and_eq_true] at hc ⊢
    exact ⟨rfl,c2 hc.2⟩
  ·obtain ⟨ρ',s2,e2,l2,n2,v2,c2⟩:=QgY (c:=c) zs vs H ρ (fun j=>g (j+1)) hs (fun j x u hx hu=>hv (j+1) x u hx hu)
   refine ⟨ρ',s2,e2,l2,by simp [n2],fun j x u hx hu=>?_,fun hc=>?_⟩
   ·cases j with
    | zero=>
     simp only [List.getElem?_cons_zero,osi] at hx
     subst hx
     exact e2.vrel hs (hv 0 _ u rfl hu)
    | succ j=>exact v2 j x u hx hu
   ·simp only [List.all_cons,Bool.and_eq_true] at hc ⊢
    exact ⟨hc.1,c2 hc.2⟩
def Ql5 (c:Ctx)(zs:List Nat)(v:AV)(H:Heap):AV×Heap:=match zs with
 | []=>(v,H)
 | zs=>match v with
  | .agg cs=>(.agg (QeX c zs cs H).1,(QeX c zs cs H).2)
  | v=>(oneOf v (QeX c zs [v] H).1,(QeX c zs [v] H).2)
theorem QAh {β:Type}(c:Ctx)(zs:List Nat)(v:AV)(H:Heap)(k:AV→Heap→β):QoA c zs v H k=k (Ql5 c zs v H).1 (Ql5 c zs v H).2:=by
 cases zs with
 | nil=>rfl
 | cons z zs=>
  cases v<;>simp only [QoA,Ql5,QeG]
theorem QAi {c:Ctx}{zs:List Nat}{v:AV}{H:Heap}{ρ:Ren}{cv:Value}(hs:Sim I ρ H w)(hv:VRel I ρ v cv):
  ∃ ρ',Sim I ρ' (Ql5 c zs v H).2 w∧Ext H.length I ρ H w I ρ' (Ql5 c zs v H).2 w∧H.length≤(Ql5 c zs v H).2.length∧VRel I ρ' (Ql5 c zs v H).1 cv:=by
 cases zs with
 | nil=>exact ⟨ρ,hs,Ext.refl _ _ _ _ _,Nat.le_refl _,hv⟩
 | cons z zs=>
  have single:(Ql5 c (z::zs) v H)=(oneOf v (QeX c (z::zs) [v] H).1,(QeX c (z::zs) [v] H).2)→
    ∃ ρ',Sim I ρ' (Ql5 c (z::zs) v H).2 w∧Ext H.length I ρ H w I ρ' (Ql5 c (z::zs) v H).2 w∧H.length≤(Ql5 c (z::zs) v H).2.length∧VRel I ρ' (Ql5 c (z::zs) v H).1 cv:=fun e=>by
   rw [e]
   obtain ⟨ρ',s2,e2,l2,n2,v2,c2⟩:=QgY (c:=c) (z::zs) [v] H ρ (fun j=>if j=0 then some cv else none) hs (fun j x u hx hu=>by
    cases j with
    | zero=>simp at hx hu; subst hx; subst hu; exact hv
    | succ j=>simp at hx)
   refine ⟨ρ',s2,e2,l2,?_⟩
   unfold oneOf
   split
   ·rename_i x hx
    exact v2 0 x cv (by rw [hx]; rfl) rfl
   ·exact e2.vrel hs hv
  cases v with
  | agg cs=>
   cases hv with
   | agg _ _ vs hl hh=>
    obtain ⟨ρ',s2,e2,l2,n2,v2,c2⟩:=QgY (c:=c) (z::zs) cs H ρ (fun j=>vs[j]?) hs (fun j x u hx hu=>hh j x u hx hu)
    exact ⟨ρ',s2,e2,l2,.agg _ _ _ (by rw [n2]; exact hl) (fun j x u hx hu=>v2 j x u hx hu)⟩
  | _=>exact single rfl
def QfJ (c:Ctx)(nz:Nat→List Nat):Fr→Heap→Fr×Heap
 | [],H=>([],H)
 | p::r,H=>(((p.1,(Ql5 c (nz p.1) p.2 H).1)::(QfJ c nz r (Ql5 c (nz p.1) p.2 H).2).1),(QfJ c nz r (Ql5 c (nz p.1) p.2 H).2).2)
theorem Qp0 {β:Type}(c:Ctx)(nz:Nat→List Nat):∀ (fr:Fr) (H:Heap) (k:Fr→Heap→β),QlQ c nz fr H k=k (QfJ c nz fr H).1 (QfJ c nz fr H).2
 | [],H,k=>rfl
 | p::r,H,k=>by simp only [QlQ,QfJ,QAh]; rw [Qp0]
theorem Qsf (c:Ctx)(nz:Nat→List Nat):∀ (fr:Fr) (H:Heap),(QfJ c nz fr H).1.map (·.1)=fr.map (·.1)
 | [],H=>rfl
 | p::r,H=>by simp only [QfJ,List.map_cons]; rw [Qsf]
theorem QAj {c:Ctx}{nz:Nat→List Nat}{fr:Fr}{H:Heap}(h:Srt fr):Srt (QfJ c nz fr H).1:=by
 unfold Srt at *
 have h1:(fr.map (·.1)).Pairwise (·<·):=List.pairwise_map.2 h
 rw [← Qsf c nz fr H] at h1
 exact List.pairwise_map.1 h1
theorem QuE {c:Ctx}{nz:Nat→List Nat}:∀ (fr:Fr) (H:Heap) (ρ:Ren) (g:Nat→Value),Sim I ρ H w→(∀ p∈fr,VRel I ρ p.2 (g p.1))→
  ∃ ρ',Sim I ρ' (QfJ c nz fr H).2 w∧Ext H.length I ρ H w I ρ' (QfJ c nz fr H).2 w∧H.length≤(QfJ c nz fr H).2.length∧∀ p∈(QfJ c nz fr H).1,VRel I ρ' p.2 (g p.1)
 | [],H,ρ,g,hs,hv=>⟨ρ,hs,Ext.refl _ _ _ _ _,Nat.le_refl _,fun p hp=>by simp [QfJ] at hp⟩
 | p::r,H,ρ,g,hs,hv=>by
  obtain ⟨ρ1,s1,e1,l1,v1⟩:=QAi (c:=c) (zs:=nz p.1) hs (hv p (by simp))
  obtain ⟨ρ2,s2,e2,l2,v2⟩:=QuE (c:=c) (nz:=nz) r _ ρ1 g s1 (fun q hq=>e1.vrel hs (hv q (by simp [hq])))
  simp only [QfJ]
  refine ⟨ρ2,s2,e1.trans e2 l1,Nat.le_trans l1 l2,fun q hq=>?_⟩
  rcases List.mem_cons.1 hq with rfl |hq
  ·exact e2.vrel s1 v1
  ·exact v2 q hq
theorem get_of_mem:∀ (fr:Fr) (t:Nat),fr.get t=.undef∨∃ p∈fr,p.1=t∧fr.get t=p.2
 | [],t=>.inl rfl
 | p::r,t=>by
  rw [Fr.QbO]
  cases h:Nat.beq p.1 t with
  | true=>exact .inr ⟨p,by simp,Nat.eq_of_beq_eq_true h,rfl⟩
  | false=>
   rcases get_of_mem r t with h1 |⟨q,hq,h1,h2⟩
   ·exact .inl (by simpa [ifB] using h1)
   ·exact .inr ⟨q,by simp [hq],h1,by simpa [ifB] using h2⟩
theorem QyM {c:Ctx}{nz:Nat→List Nat}{fr:Fr}{H:Heap}{ρ:Ren}{tmps:Array Value}{n:Nat}(hs:Sim I ρ H w)(hf:QcO I ρ fr tmps n):
  ∃ ρ',Sim I ρ' (QfJ c nz fr H).2 w∧Ext H.length I ρ H w I ρ' (QfJ c nz fr H).2 w∧H.length≤(QfJ c nz fr H).2.length∧QcO I ρ' (QfJ c nz fr H).1 tmps n:=by
 obtain ⟨ρ',s,e,l,v⟩:=QuE (c:=c) (nz:=nz) fr H ρ (fun t=>tmps.getD t undef) hs (fun p hp=>by have:=hf.at_ p.1; rw [hf.srt.get hp] at this; exact this)
 refine ⟨ρ',s,e,l,QcO.Quy hf.size (QAj hf.srt) fun t=>?_⟩
 rcases get_of_mem (QfJ c nz fr H).1 t with h |⟨p,hp,rfl,h⟩
 ·rw [h]; exact .undef _ _
 ·rw [h]; exact v p hp
end
end Go.Ev
namespace Go.Ev
open Go.RowKit
section
variable {P:Program} {c:Ctx} {I:Imm} {ρ:Ren} {H:Heap} {w:World}
def Did (P:Program)(I:Imm)(ρ:Ren)(H:Heap)(w:World)(s:Sem Value)(v:AV)(H':Heap):Prop:=
 ∃ cv w' I' ρ',s.run P w=.ok cv w'∧Ext H.length I ρ H w I' ρ' H' w'∧Sim I' ρ' H' w'∧VRel I' ρ' v cv∧H.length≤H'.length
theorem Did.of (hs:Sim I ρ H w){s:Sem Value}{v:AV}(h:∃ cv,s.run P w=.ok cv w∧VRel I ρ v cv):Did P I ρ H w s v H:=
 let ⟨cv,h1,h2⟩:=h; ⟨cv,w,I,ρ,h1,Ext.refl _ _ _ _ _,hs,h2,Nat.le_refl _⟩
theorem Qlr {t:TypeId}{i:TypeInfo}{d:TypeDesc}{z:Value}(ht:TyOk P c t i d z):(c.ty t).zero.length=z.cells.size∧∀ (j:Nat) (x:AV) (u:Value),(c.ty t).zero[j]?=some x→z.cells[j]?=some u→VRel I ρ x u:=by
 refine ⟨by rw [ht.cells]; simp,fun j x u hx hu=>?_⟩
 rw [ht.cells,List.getElem?_map,Array.getElem?_toList,hu] at hx
 simp at hx
 subst hx
 exact QpV _ _ _
theorem QxD (hs:Sim I ρ H w)(el:TypeId)(cells:Array Value)(r:List AV)(hl:r.length=cells.size)(hc:∀ x∈r,x.Qax=true)(hv:∀ (j:Nat) (x:AV) (u:Value),r[j]?=some x→cells[j]?=some u→VRel I ρ x u):
  Did P I ρ H w (do pure (.pointer (some (← newRow el cells)))) (.ptr H.length 0 0) (H++[.rows r.length false [r]]):=by
 obtain ⟨s1,e1⟩:=hs.QkG (w':=w.alloc (.cells cells el)) (Qgt.alloc w (.cells cells el)) r.length 1 false [r] (by simp) (by simp [hl]) (fun r' hr=>by simp at hr; subst hr; exact ⟨rfl,hc⟩) (fun i j r' x v hr hx hcell=>by
  have:i=0:=by have:=(List.getElem?_eq_some_iff.1 hr).1; simp at this; omega
  subst this
  simp at hr
  subst hr
  rw [Nat.zero_mul,Nat.zero_add] at hcell
  exact hv j x v hx hcell)
 exact ⟨_,_,I,_,rfl,e1,s1,Ren.QEv,by simp⟩
theorem QAk (hc:TysOk P c)(hs:Sim I ρ H w){t:TypeId}{v:AV}{H':Heap}(h:QpH c (c.ty t) H=some (v,H')):Did P I ρ H w (Instr.alloc t true (.tuple #[])) v H':=by
 unfold QpH at h
 cases hk:(c.ty t).known with
 | false=>simp [hk] at h
 | true=>
  cases hz:(c.ty t).zero.all AV.Qax with
  | false=>simp only [hk,hz,Bool.and_false] at h; cases h
  | true=>
   simp only [hk,hz,Bool.and_self,QeG,Qr5,Qat,osi,Prod.mk.injEq] at h
   obtain ⟨rfl,rfl⟩:=h
   obtain ⟨i,d,z,ht⟩:=hc.ty t hk
   obtain ⟨z1,z2⟩:=Qlr (I:=I) (ρ:=ρ) ht
   obtain ⟨ρ1,s1,e1,l1,n1,v1,c1⟩:=QgY (c:=c) (c.ty t).zs (c.ty t).zero H ρ (fun j=>z.cells[j]?) hs z2
   have:=QxD (P:=P) s1 t z.cells _ (n1.trans z1) (fun x hx=>List.all_eq_true.1 (c1 hz) x hx) v1
   have e:(c.ty t).size=(QeX c (c.ty t).zs (c.ty t).zero H).1.length:=by rw [n1,z1,ht.len,ht.size]
   rw [e]
   obtain ⟨cv,w',I',ρ',h1,h2,h3,h4,h5⟩:=this
   refine ⟨cv,w',I',ρ',?_,e1.trans h2 l1,h3,h4,Nat.le_trans l1 h5⟩
   unfold Instr.alloc
   simp only [Sem.run_bind,zeroValue,typeInfo,run_program,Result.andThen_ok,ht.info,Sem.run_pure,ht.zero,newVar]
   simpa [Sem.run_bind] using h1
theorem QEw (hs:Sim I ρ H w){t:TypeId}{x v:AV}{u:Value}{H':Heap}{zs:List Nat}(h:Qz1 c zs x H=some (v,H'))(hx:VRel I ρ x u):Did P I ρ H w (Instr.box t u) v H':=by
 unfold Qz1 at h
 cases hz:x.cells.all AV.Qax with
 | false=>simp [hz] at h
 | true=>
  simp only [hz,QeG,Qr5,Qat,osi,Prod.mk.injEq] at h
  obtain ⟨rfl,rfl⟩:=h
  obtain ⟨h1,h2,h3⟩:=hx.cells hz
  obtain ⟨ρ1,s1,e1,l1,n1,v1,c1⟩:=QgY (c:=c) zs x.cells H ρ (fun j=>u.cells[j]?) hs h2
  obtain ⟨cv,w',I',ρ',g1,g2,g3,g4,g5⟩:=QxD (P:=P) s1 t u.cells _ (n1.trans h1) (fun y hy=>List.all_eq_true.1 (c1 hz) y hy) v1
  rw [n1] at g2 g3 g5
  exact ⟨cv,w',I',ρ',g1,e1.trans g2 l1,g3,g4,Nat.le_trans l1 g5⟩
theorem Qhz:∀ (cs:List AV) (o:Nat) (vs:List AV),(setFrom cs o vs).length=cs.length∧∀ (j:Nat),(setFrom cs o vs)[j]?=if o≤j∧j<o+vs.length∧j<cs.length then vs[j - o]? else cs[j]?
 | cs,0,[]=>by
  refine ⟨by simp [setFrom],fun j=>?_⟩
  simp [setFrom]
 | [],0,v::vs=>by simp [setFrom]
 | c::r,0,v::vs=>by
  obtain ⟨h1,h2⟩:=Qhz r 0 vs
  refine ⟨by simp [setFrom,h1],fun j=>?_⟩
  cases j with
  | zero=>simp [setFrom]
  | succ j=>
   simp only [setFrom,List.getElem?_cons_succ,h2]
   have e:(0≤j∧j<0+vs.length∧j<r.length)↔(0≤j+1∧j+1<0+(v::vs).length∧j+1<(c::r).length):=by simp
   by_cases hcond:0≤j∧j<0+vs.length∧j<r.length
   ·rw [if_pos hcond,if_pos (e.1 hcond)]; simp
   ·rw [if_neg hcond,if_neg (fun h=>hcond (e.2 h))]
 | [],o+1,vs=>by simp [setFrom]
 | c::r,o+1,vs=>by
  obtain ⟨h1,h2⟩:=Qhz r o vs
  refine ⟨by simp [setFrom,h1],fun j=>?_⟩
  cases j with
  | zero=>simp [setFrom]
  | succ j=>
   simp only [setFrom,List.getElem?_cons_succ,h2]
   have e:(o≤j∧j<o+vs.length∧j<r.length)↔(o+1≤j+1∧j+1<o+1+vs.length∧j+1<(c::r).length):=by simp; omega
   by_cases hcond:o≤j∧j<o+vs.length∧j<r.length
   ·rw [if_pos hcond,if_pos (e.1 hcond)]
    congr 1; omega
   ·rw [if_neg hcond,if_neg (fun h=>hcond (e.2 h))]
theorem Qta (off:Nat):∀ (vs:List Value) (k:Nat) (cells:Array Value),(vs.zipIdx k).foldl (fun cs (x:Value×Nat)=>cs.setIfInBounds (off+x.2) x.1) cells=(vs.zipIdx k).foldl (fun cs (x:Value×Nat)=>cs.setIfInBounds (off+x.2) x.1) cells∧
  ((vs.zipIdx k).foldl (fun cs (x:Value×Nat)=>cs.setIfInBounds (off+x.2) x.1) cells).size=cells.size∧
  ∀ (j:Nat),((vs.zipIdx k).foldl (fun cs (x:Value×Nat)=>cs.setIfInBounds (off+x.2) x.1) cells)[j]?=if off+k≤j∧j<off+k+vs.length∧j<cells.size then vs[j - (off+k)]? else cells[j]?
 | [],k,cells=>by
  refine ⟨rfl,rfl,fun j=>?_⟩
  rw [if_neg (by simp; omega)]
  rfl
 | v::vs,k,cells=>by
  obtain ⟨_,h1,h2⟩:=Qta off vs (k+1) (cells.setIfInBounds (off+k) v)
  refine ⟨rfl,by simpa using h1,fun j=>?_⟩
  have e0:((v::vs).zipIdx k).foldl (fun cs (x:Value×Nat)=>cs.setIfInBounds (off+x.2) x.1) cells=(vs.zipIdx (k+1)).foldl (fun cs (x:Value×Nat)=>cs.setIfInBounds (off+x.2) x.1) (cells.setIfInBounds (off+k) v):=rfl
  rw [e0,h2 j]
  simp only [Array.size_setIfInBounds,List.length_cons]
  by_cases c1:off+(k+1)≤j∧j<off+(k+1)+vs.length∧j<cells.size
  ·rw [if_pos c1,if_pos (by omega)]
   rw [show j - (off+k)=(j - (off+(k+1)))+1 by omega,List.getElem?_cons_succ]
  ·rw [if_neg c1]
   by_cases c2:off+k≤j∧j<off+k+(vs.length+1)∧j<cells.size
   ·rw [if_pos c2]
    have:j=off+k:=by omega
    subst this
    simp [Array.getElem?_setIfInBounds,c2.2.2]
   ·rw [if_neg c2,Array.getElem?_setIfInBounds]
    split
    ·rename_i e
     have:¬ j<cells.size:=by omega
     rw [if_neg (by omega),Array.getElem?_eq_none (Nat.le_of_not_lt this)]
    ·rfl
inductive PRel (I:Imm)(ρ:Ren):List (Nat×AV)→List (Nat×Value)→Prop where
 | nil:PRel I ρ [] []
 | cons (i:Nat) (x:AV) (u:Value) (l:List (Nat×AV)) (m:List (Nat×Value)) (h:VRel I ρ x u) (r:PRel I ρ l m):PRel I ρ ((i,x)::l) ((i,u)::m)
theorem PRel.of {fr:Fr}{a:Act}{n:Nat}(h:QcO I ρ fr a.tmps n):∀ (l:List (Nat×Operand)),PRel I ρ (l.map fun p=>(p.1,opv fr p.2)) (l.map fun p=>(p.1,a.eval p.2))
 | []=>.nil
 | (i,x)::l=>.cons _ _ _ _ _ (QaL h x) (PRel.of h l)
theorem QxE {place:Nat→Option (Nat×Nat)}{pl:Nat→Option (Nat×Nat)}(hp:∀ k p,pl k=some p→place k=some p):∀ (l:List (Nat×AV)) (m:List (Nat×Value)) (cs cs':List AV) (cells:Array Value),PRel I ρ l m→
  QmE pl cs l=some cs'→cs.length=cells.size→(∀ (j:Nat) (x:AV) (u:Value),cs[j]?=some x→cells[j]?=some u→VRel I ρ x u)→
  ∃ cells',Instr.fill place cells m=some cells'∧cs'.length=cells'.size∧cells'.size=cells.size∧∀ (j:Nat) (x:AV) (u:Value),cs'[j]?=some x→cells'[j]?=some u→VRel I ρ x u
 | [],m,cs,cs',cells,hr,h,hl,hv=>by
  cases hr
  simp [QmE] at h
  subst h
  exact ⟨cells,rfl,hl,rfl,hv⟩
 | (i,x)::l,m,cs,cs',cells,hr,h,hl,hv=>by
  cases hr with
  | cons _ _ u _ m hx hr=>
   simp only [QmE] at h
   cases hpl:pl i with
   | none=>simp [hpl] at h
   | some p=>
    obtain ⟨off,size⟩:=p
    simp only [hpl] at h
    split at h
    ·rename_i hb
     rw [Qat] at h
     rw [Bool.and_eq_true,Bool.and_eq_true] at hb
     obtain ⟨⟨b1,b2⟩,b3⟩:=hb
     have b1:=Nat.eq_of_beq_eq_true b1
     have b2:=Nat.le_of_ble_eq_true b2
     obtain ⟨c1,c2,c3⟩:=hx.cells b3
     obtain ⟨s1,s2⟩:=Qhz cs off x.cells
     obtain ⟨_,l1,l2⟩:=Qta off u.cells.toList 0 cells
     have hfold:(u.cells.zipIdx.foldl (fun cs (x:Value×Nat)=>cs.setIfInBounds (off+x.2) x.1) cells)=(u.cells.toList.zipIdx 0).foldl (fun cs (x:Value×Nat)=>cs.setIfInBounds (off+x.2) x.1) cells:=by
      rw [← Array.foldl_toList,Array.toList_zipIdx]
     obtain ⟨cells',f1,f2,f3,f4⟩:=QxE hp l m _ cs' ((u.cells.toList.zipIdx 0).foldl (fun cs (x:Value×Nat)=>cs.setIfInBounds (off+x.2) x.1) cells) hr h (by rw [s1,l1,hl]) (fun j y q hy hq=>by
      rw [s2] at hy
      rw [l2] at hq
      simp only [Nat.add_zero,Array.length_toList,c1,hl] at hy hq
      split at hy
      ·rename_i hc
       rw [if_pos hc,Array.getElem?_toList] at hq
       exact c2 _ y q hy hq
      ·rename_i hc
       rw [if_neg hc] at hq
       exact hv j y q hy hq)
     refine ⟨cells',?_,f2,by rw [f3,l1],f4⟩
     simp only [Instr.fill,hp i _ hpl]
     rw [if_neg (by simp; omega)]
     rw [← f1,← hfold]
    ·cases h
theorem QoK (hc:TysOk P c):∀ (gs:List Field) (fs:List (Nat×TypeId)),fs.length=gs.length→(∀ (k:Nat) (p:Nat×TypeId) (g:Field),fs[k]?=some p→gs[k]?=some g→g.offset=p.1∧g.type=p.2∧(c.ty p.2).known=true)→
  ∃ places:List (Nat×Nat),gs.mapM (fun f=>(P.info? f.type).map fun i=>(f.offset,i.size))=some places∧∀ k p,Qr6 c fs k=some p→places[k]?=some p
 | [],fs,hl,_=>⟨[],rfl,fun k p h=>by
   have:fs=[]:=List.length_eq_zero_iff.1 (by simpa using hl)
   subst this
   simp [Qr6] at h⟩
 | g::gs,[],hl,_=>by simp at hl
 | g::gs,p::fs,hl,hf=>by
  obtain ⟨pl,h1,h2⟩:=QoK hc gs fs (by simpa using hl) (fun k p g hp hg=>hf (k+1) p g hp hg)
  obtain ⟨e1,e2,e3⟩:=hf 0 p g rfl rfl
  obtain ⟨i,d,z,ht⟩:=hc.ty p.2 e3
  refine ⟨(p.1,(c.ty p.2).size)::pl,?_,fun k q hq=>?_⟩
  ·simp [List.mapM_cons,e2,ht.info,h1,e1,ht.size]
  ·cases k with
   | zero=>simp [Qr6] at hq; simp [← hq]
   | succ k=>simp only [List.getElem?_cons_succ]; exact h2 k q (by simpa [Qr6] using hq)
theorem QAl (hc:TysOk P c){t:TypeId}{l:List (Nat×AV)}{m:Array (Nat×Value)}{v:AV}(h:QpI c (c.ty t) l=some v)(hr:PRel I ρ l m.toList):∃ cv,(Instr.build t m).run P w=.ok cv w∧VRel I ρ v cv:=by
 unfold QpI at h
 have hkn:(c.ty t).known=true:=by unfold TI.known; cases hd:(c.ty t).d<;>simp [hd] at h<;>rfl
 obtain ⟨i,d,z,ht⟩:=hc.ty t hkn
 obtain ⟨z1,z2⟩:=Qlr (I:=I) (ρ:=ρ) ht
 have hrel:=ht.rel
 have hu:=ht.und
 have hb:∀ {place pl:Nat→Option (Nat×Nat)} {cs:List AV},(∀ k p,pl k=some p→place k=some p)→QmE pl (c.ty t).zero l=some cs→∃ cells',Instr.fill place z.cells m.toList=some cells'∧cs.length=cells'.size∧
   ∀ (j:Nat) (x:AV) (u:Value),cs[j]?=some x→cells'[j]?=some u→VRel I ρ x u:=by
  intro place pl cs hp hf
  obtain ⟨cells',f1,f2,_,f3⟩:=QxE hp l m.toList _ cs z.cells hr hf z1 z2
  exact ⟨cells',f1,f2,f3⟩
 revert h hrel hb
 generalize hz:(c.ty t).zero=zr
 generalize (c.ty t).d=td
 intro h hrel hb
 cases hrel with
 | Qbk fs gs hl hf=>
  simp only at h
  split at h
  ·rename_i cs hcs
   simp at h
   subst h
   obtain ⟨pl,p1,p2⟩:=QoK (P:=P) hc gs.toList fs (by simpa using hl) (fun k p g hp hg=>hf k p g hp (by simpa using hg))
   obtain ⟨cells',f1,f2,f3⟩:=hb (place:=fun k=>pl.toArray[k]?) (fun k p hk=>by simpa using p2 k p hk) hcs
   have hbt:P.built t m.toList=some cells':=by
    unfold Program.built
    simp only [ht.info,hu,ht.zero,p1]
    exact f1
   exact ⟨_,run_build w t m cells' hbt,.agg _ _ _ f2 f3⟩
  ·cases h
 | arr n e he=>
  simp only at h
  obtain ⟨i2,d2,z2',ht2⟩:=hc.ty e he
  split at h
  ·rename_i cs hcs
   simp at h
   subst h
   obtain ⟨cells',f1,f2,f3⟩:=hb (place:=fun k=>some (k * i2.size,i2.size)) (fun k p hk=>by rw [ht2.size]; exact hk) hcs
   have hbt:P.built t m.toList=some cells':=by
    unfold Program.built
    simp only [ht.info,hu,ht.zero,ht2.info]
    exact f1
   exact ⟨_,run_build w t m cells' hbt,.agg _ _ _ f2 f3⟩
  ·cases h
 | _=>simp at h
theorem Qp1 (hc:TysOk P c)(hs:Sim I ρ H w){t:TypeId}{b i o:Nat}{v:List AV}{u:Value}{H':Heap}{g z n:Nat}(h:Qih c t b i o v H=some H')(hρ:ρ b=some (g,z,n))
  (c1:v.length=u.cells.size) (c2:∀ (j:Nat) (x:AV) (y:Value),v[j]?=some x→u.cells[j]?=some y→VRel I ρ x y) (c3:∀ x∈u.cells,x.oneCell'=true)
  (hp:∀ z' es,H[b]?=some (.rows z' true es)→∀ (j:Nat) (x:AV) (y:Value),v[j]?=some x→u.cells[j]?=some y→VRel I ρ0 x y):
  ∃ w',(Instr.storeAt t (.pointer (some ⟨g,i * z+o,none⟩)) u).run P w=.ok () w'∧Ext H.length I ρ H w I ρ H' w'∧Sim I ρ H' w'∧H.length≤H'.length:=by
 unfold Qih at h
 split at h
 case h_2=>cases h
 rename_i z' pu es hb
 split at h
 case h_1=>cases h
 rename_i r hr
 split at h
 case h_2=>cases h
 rename_i hok
 split at h
 case h_2=>cases h
 rename_i hkn
 rw [Bool.and_eq_true,Bool.and_eq_true] at hok
 obtain ⟨⟨k1,k2⟩,k3⟩:=hok
 have k1:=Nat.eq_of_beq_eq_true k1
 have k2:=Nat.le_of_ble_eq_true k2
 simp only [Qat,osi] at h
 subst h
 obtain ⟨ti,d,zv,ht⟩:=hc.ty t hkn
 obtain ⟨rfl,h2,h3,h4,h5⟩:=hs.blk b _ g z n hb hρ
 have hi:i<es.length:=(List.getElem?_eq_some_iff.1 hr).1
 have hrl:=(h3 r (List.mem_of_getElem? hr)).1
 have hin:∀ j,j<u.cells.toList.length→(w.cell? ⟨g,i * z'+o+j,none⟩).isSome=true∧w.frozen? ⟨g,i * z'+o+j,none⟩=false:=fun j hj=>by
  have:i * z'+(o+j)<n * z':=Qct (by omega) (by simp at hj; omega)
  rw [Nat.add_assoc]
  exact h4 _ this
 have hst:=run_storeCells_cells (P:=P) g (i * z'+o) u.cells.toList 0 w (fun j hj=>(hin j hj).1) (fun j hj=>(hin j hj).2) (fun x hx=>c3 x (by simpa using hx))
 rw [Nat.add_zero] at hst
 obtain ⟨s1,s2⟩:=Qhz r o v
 have hcl:u.cells.toList.length=v.length:=by simp [c1]
 have hbrel:BRel I ρ (w.setCells g (i * z'+o) u.cells.toList) g z' n (.rows z' pu (es.set i (setFrom r o v))):=by
  refine ⟨rfl,by simpa using h2,fun r' hr'=>?_,fun q hq=>?_,fun i' j r' x y hr' hx hy=>?_⟩
  ·rcases List.mem_or_eq_of_mem_set hr' with hm |rfl
   ·exact h3 r' hm
   ·refine ⟨by rw [s1,hrl],fun x hx=>?_⟩
    obtain ⟨j,hj⟩:=List.mem_iff_getElem?.1 hx
    rw [s2] at hj
    split at hj
    ·exact List.all_eq_true.1 k3 x (List.mem_of_getElem? hj)
    ·exact (h3 r (List.mem_of_getElem? hr)).2 x (List.mem_of_getElem? hj)
  ·rw [World.frozen?_setCells]
   exact ⟨World.isSome_setCells g _ _ w _ (h4 q hq).1,(h4 q hq).2⟩
  ·rw [List.getElem?_set] at hr'
   split at hr'
   ·rename_i e
    subst e
    simp [hi] at hr'
    subst hr'
    rw [s2] at hx
    split at hx
    ·rename_i hcond
     have hj':j - o<u.cells.toList.length:=by omega
     have:=World.cell?_setCells_in g u.cells.toList (i * z'+o) w (fun q hq=>(hin q hq).1) (j - o) hj'
     rw [show i * z'+o+(j - o)=i * z'+j by omega] at this
     rw [this] at hy
     have hu:u.cells[j - o]?=some y:=by
      rw [← Array.getElem?_toList,List.getElem?_eq_getElem hj']; exact hy
     cases pu with
     | true=>
      exact hp z' es hb _ x y hx hu
     | false=>exact c2 _ x y hx hu
    ·rename_i hcond
     have hjr:j<r.length:=(List.getElem?_eq_some_iff.1 hx).1
     rw [World.cell?_setCells_out g _ _ w _ (fun _ _=>by simp only; rw [hcl]; omega)] at hy
     exact h5 i j r x y hr hx hy
   ·rename_i e
    have hjr:j<z':=by
     have:=(List.getElem?_eq_some_iff.1 hx).1
     rw [(h3 r' (List.mem_of_getElem? hr')).1] at this
     exact this
    rw [World.cell?_setCells_out g _ _ w _ (fun _ _=>by
     simp only
     rw [hcl]
     rcases Nat.lt_trichotomy i i' with hlt |heq |hgt
     ·right
      have:=Nat.mul_le_mul_right z' (show i+1≤i' from hlt)
      rw [Nat.succ_mul] at this
      omega
     ·exact absurd heq e
     ·left
      have:=Nat.mul_le_mul_right z' (show i'+1≤i from hgt)
      rw [Nat.succ_mul] at this
      omega)] at hy
    exact h5 i' j r' x y hr' hx hy
 obtain ⟨s3,e3⟩:=hs.setB hb rfl hρ (by omega) (Upd.setCells g u.cells.toList (i * z'+o) w) (.inl rfl) hbrel
 refine ⟨_,?_,e3,s3,by simp⟩
 unfold Instr.storeAt storeVar
 have hsz:¬ (u.cells.size≠(c.ty t).size):=by rw [← c1]; simp [k1]
 simp only [Instr.sureAddr,Sem.run_bind,Sem.run_pure,Result.andThen_ok,run_sizeOf ht,if_neg hsz,hst]
theorem QmL {c:Ctx}{t:TypeId}{b i o:Nat}{v:List AV}{H H':Heap}(h:Qih c t b i o v H=some H'):v.all AV.Qax=true:=by
 unfold Qih at h
 split at h
 case h_2=>cases h
 split at h
 case h_1=>cases h
 split at h
 case h_2=>cases h
 rename_i hok
 rw [Bool.and_eq_true] at hok
 exact hok.2
theorem Ql6 {c:Ctx}:∀ (zs:List Nat) (vs:List AV) (H:Heap),(QeX c zs vs H).1.all AV.Qax=true→vs.all AV.Qax=true
 | [],vs,H,h=>h
 | _::_,[],H,h=>rfl
 | z::zs,v::vs,H,h=>by
  simp only [QeX] at h
  split at h
  ·rename_i hz
   simp only [List.all_cons,Bool.and_eq_true] at h ⊢
   refine ⟨?_,Ql6 zs vs _ h.2⟩
   have:=hz.2
   cases v<;>simp [QCI] at this<;>rfl
  ·simp only [List.all_cons,Bool.and_eq_true] at h ⊢
   exact ⟨h.1,Ql6 zs vs _ h.2⟩
theorem Qp2 {c:Ctx}:∀ (zs:List Nat) (vs:List AV) (H:Heap) (b:Nat) (k:Blk),H[b]?=some k→(QeX c zs vs H).2[b]?=some k
 | [],vs,H,b,k,h=>h
 | _::_,[],H,b,k,h=>h
 | z::zs,v::vs,H,b,k,h=>by
  simp only [QeX]
  split
  ·exact Qp2 zs vs _ b k (by rw [List.getElem?_append_left (List.getElem?_eq_some_iff.1 h).1]; exact h)
  ·exact Qp2 zs vs _ b k h
theorem QAm (hc:TysOk P c)(hs:Sim I ρ H w){t:TypeId}{x y:AV}{u1 u2:Value}{H':Heap}(h:Qkz c t H x y=some H')(hx:VRel I ρ x u1)(hy:VRel I ρ y u2):
  ∃ w' I' ρ',(Instr.storeAt t u1 u2).run P w=.ok () w'∧Ext H.length I ρ H w I' ρ' H' w'∧Sim I' ρ' H' w'∧H.length≤H'.length:=by
 unfold Qkz at h
 cases hx with
 | ptr _ b i o g z n hρ=>
  simp only at h
  split at h
  ·rename_i z' es hb
   split at h
   ·cases h
   ·rename_i v' H1 hf
    obtain ⟨J,sJ,eJ,rJ,lJ⟩:=Ql3 hs hf hy
    have hall:=QmL h
    obtain ⟨c1,c2,c3⟩:=rJ.cells hall
    obtain ⟨w',h1,h2,h3,h4⟩:=Qp1 hc sJ h hρ c1 (fun j x y hx hy=>(c2 j x y hx hy).any) c3 (fun _ _ _=>c2)
    exact ⟨w',J,ρ,h1,eJ.trans h2 (by omega),h3,by omega⟩
  ·rename_i z' es hb
   rw [QeG] at h
   have hall:y.cells.all AV.Qax=true:=Ql6 _ _ _ (QmL h)
   obtain ⟨c1,c2,c3⟩:=hy.cells hall
   obtain ⟨ρ1,s1,e1,l1,n1,v1,_⟩:=QgY (c:=c) (c.ty t).zs y.cells H ρ (fun j=>u2.cells[j]?) hs c2
   have hb':(QeX c (c.ty t).zs y.cells H).2[b]?=some (.rows z' false es):=Qp2 _ _ _ _ _ hb
   obtain ⟨w',h1,h2,h3,h4⟩:=Qp1 hc s1 h ((e1.ren b (hs.dom b _ hρ).1).trans hρ) (n1.trans c1) v1 c3 (fun z1 es1 hb1=>by rw [hb'] at hb1; cases hb1)
   exact ⟨w',I,ρ1,h1,e1.trans h2 l1,h3,Nat.le_trans l1 h4⟩
  ·cases h
 | _=>simp at h
end
end Go.Ev
