/- Functions with other numbers: the visit goes the same way, and the normal form is the same. -/
import Derived.Test.YtkecfadnfnnfaaaGreatDoorPlB19
set_option linter.unusedVariables false
set_option linter.unusedSimpArgs false
namespace Go.Proofs.YtkecfadnfnnfaaaGreatDoor.LabB.V
open Go Go.Ev Go.Sy Go.Proofs.YtkecfadnfnnfaaaGreatDoor.LabB
structure Bij (c:Nat)(π:Int→Int):Prop where
 rng:∀ k:Int,0≤k→k<(c:Int)→0≤π k∧π k<(c:Int)
 inj:∀ j k:Int,0≤j→j<(c:Int)→0≤k→k<(c:Int)→π j=π k→j=k
theorem Bij.surj {c:Nat}{π:Int→Int}(h:Bij c π)(j:Nat)(hj:j<c):∃ k:Nat,k<c∧π (k:Int)=(j:Int):=by
 have hn:((List.range c).map fun k=>(π ((k:Nat):Int)).toNat).Nodup:=by
  rw [List.nodup_iff_pairwise_ne,List.pairwise_iff_getElem]
  intro i k hi hk hik
  simp only [List.length_map,List.length_range] at hi hk
  simp only [List.getElem_map,List.getElem_range]
  intro e
  have a1:=h.rng i (by omega) (by omega)
  have a2:=h.rng k (by omega) (by omega)
  have:=h.inj i k (by omega) (by omega) (by omega) (by omega) (by omega)
  omega
 have:=QDO hn (m:=c) (fun x hx=>by
  obtain ⟨k,hk,rfl⟩:=List.mem_map.1 hx
  rw [List.mem_range] at hk
  have:=h.rng k (by omega) (by omega)
  omega) (by simp) j hj
 obtain ⟨k,hk,e⟩:=List.mem_map.1 this
 rw [List.mem_range] at hk
 have:=h.rng k (by omega) (by omega)
 exact ⟨k,hk,by omega⟩
structure Tp (c:Nat)(π:Int→Int)(a b:List Bool):Prop where
 la:a.length=c
 lb:b.length=c
 at_:∀ k:Int,0≤k→k<(c:Int)→b[(π k).toNat]?=a[k.toNat]?
theorem QDR {c:Nat}{a:List Bool}{k:Int}{x:Bool}(h0:0≤k)(hl:a.length=c)(h:a[k.toNat]?=some x):k<(c:Int):=by
 have:=Qat h
 omega
theorem Tp.set {c:Nat}{π:Int→Int}{a b:List Bool}(h:Tp c π a b)(hb:Bij c π)(x:Bool){k:Int}(h0:0≤k)(h1:k<(c:Int)):Tp c π (a.set k.toNat x) (b.set (π k).toNat x):=by
 refine ⟨by simp [h.la],by simp [h.lb],fun j j0 j1=>?_⟩
 have r1:=hb.rng k h0 h1
 have r2:=hb.rng j j0 j1
 rw [List.getElem?_set,List.getElem?_set,h.la,h.lb]
 by_cases e:j=k
 ·subst e
  rw [if_pos rfl,if_pos rfl,if_pos (by omega),if_pos (by omega)]
 ·rw [if_neg (fun e'=>e (hb.inj j k j0 j1 h0 h1 (by omega))),if_neg (by omega)]
  exact h.at_ j j0 j1
theorem Tp.rep (c:Nat){π:Int→Int}(hb:Bij c π)(x:Bool):Tp c π (List.replicate c x) (List.replicate c x):=by
 refine ⟨by simp,by simp,fun k h0 h1=>?_⟩
 have:=hb.rng k h0 h1
 rw [List.getElem?_replicate,List.getElem?_replicate,if_pos (by omega),if_pos (by omega)]
theorem Tp.all {c:Nat}{π:Int→Int}{a b:List Bool}(h:Tp c π a b)(hb:Bij c π)(ha:a.all id=true):b.all id=true:=by
 refine QBp fun i hi=>?_
 obtain ⟨k,hk,e⟩:=hb.surj i (by rw [← h.lb]; exact hi)
 have:=h.at_ (k:Int) (by omega) (by omega)
 rw [e,Int.toNat_natCast,Int.toNat_natCast,all_true ha (by rw [h.la]; exact hk)] at this
 exact this
theorem Qxk {c:Nat}{σ:Int→Int}(hb:Bij c σ):∀ (l:List Int) (bo bo' bo2:List Bool),(∀ v∈l,0≤v∧v<(c:Int))→Tp c σ bo bo2→Qje bo l=.inr bo'→∃ bo2',Qje bo2 (l.map σ)=.inr bo2'∧Tp c σ bo' bo2'
 | [],bo,bo',bo2,hr,t,h=>by cases h; exact ⟨bo2,rfl,t⟩
 | v::l,bo,bo',bo2,hr,t,h=>by
  obtain ⟨v0,v1⟩:=hr v (by simp)
  unfold Qje at h
  split at h
  ·rename_i hf
   obtain ⟨b2,e1,e2⟩:=Qxk hb l _ _ _ (fun x hx=>hr x (by simp [hx])) (t.set hb true v0 v1) h
   refine ⟨b2,?_,e2⟩
   rw [List.map_cons,Qje,if_pos (by rw [t.at_ v v0 v1]; exact hf)]
   exact e1
  ·cases h
theorem Qxl {c:Nat}{π:Int→Int}(hb:Bij c π):∀ (l:List Int) (re re' re2:List Bool),Tp c π re re2→Qlr re l=.inr re'→∃ re2',Qlr re2 (l.map π)=.inr re2'∧Tp c π re' re2'∧∀ k∈l,0≤k∧k<(c:Int)
 | [],re,re',re2,t,h=>by cases h; exact ⟨re2,rfl,t,fun k hk=>by simp at hk⟩
 | v::l,re,re',re2,t,h=>by
  unfold Qlr at h
  split at h
  ·rename_i hf
   have v1:=QDR hf.1 t.la hf.2
   obtain ⟨b2,e1,e2,e3⟩:=Qxl hb l _ _ _ (t.set hb true hf.1 v1) h
   refine ⟨b2,?_,e2,fun k hk=>?_⟩
   ·rw [List.map_cons,Qlr,if_pos ⟨(hb.rng v hf.1 v1).1,by rw [t.at_ v hf.1 v1]; exact hf.2⟩]
    exact e1
   ·rcases List.mem_cons.1 hk with rfl |hk
    ·exact ⟨hf.1,v1⟩
    ·exact e3 k hk
  ·cases h
theorem Qv0 {c:Nat}{σ:Int→Int}(hb:Bij c σ)(x:Bool):∀ (l:List Int) (sc sc2:List Bool),(∀ v∈l,0≤v∧v<(c:Int))→Tp c σ sc sc2→Tp c σ (setS x l sc) (setS x (l.map σ) sc2)
 | [],sc,sc2,hr,t=>t
 | v::l,sc,sc2,hr,t=>by
  obtain ⟨v0,v1⟩:=hr v (by simp)
  exact Qv0 hb x l _ _ (fun y hy=>hr y (by simp [hy])) (t.set hb x v0 v1)
theorem QBw {c:Nat}{σ:Int→Int}(hb:Bij c σ){sc sc2:List Bool}(t:Tp c σ sc sc2){l:List Int}(h:LabB.Qd0 sc l=true):LabB.Qd0 sc2 (l.map σ)=true∧∀ v∈l,0≤v∧v<(c:Int):=by
 unfold LabB.Qd0 at h ⊢
 have hr:∀ v∈l,(0≤v∧v<(c:Int))∧sc[v.toNat]?=some true:=fun v hv=>by
  have:=List.all_eq_true.1 h v hv
  rw [decide_eq_true_eq] at this
  exact ⟨⟨this.1,QDR this.1 t.la this.2⟩,this.2⟩
 refine ⟨?_,fun v hv=>(hr v hv).1⟩
 rw [List.all_map,List.all_eq_true]
 intro v hv
 obtain ⟨⟨v0,v1⟩,v2⟩:=hr v hv
 show decide _=true
 rw [decide_eq_true_eq,t.at_ v v0 v1]
 exact ⟨(hb.rng v v0 v1).1,v2⟩
def Qng (π σ:Int→Int)(b:Qak):Qak:=(b.1.map σ,π b.2)
def ren (π σ:Int→Int)(n:Qab):Qab:=
 (nOp n,(if nOp n≠9∧QaS (nOp n)=true then σ (nVar n) else nVar n,
  (if QaI (nOp n)=true then QaG n else (QaG n).map σ,(n.2.2.2.1,(n.2.2.2.2.1,(n.2.2.2.2.2.1,
   (if QaI (nOp n)=true then Qbf n else (Qbf n).map σ,(n.2.2.2.2.2.2.2.1,(if nOp n=9 then (nBr n).map (Qng π σ) else nBr n,
    if nOp n≠9∧QbY (nOp n)=true then π (Qbg n) else Qbg n)))))))))
theorem QDS (tl nl:List Int)(n:Qab):tr tl nl n=ren (toOf tl) (numOf nl) n:=rfl
structure Ren (f g:GFun)(π σ:Int→Int):Prop where
 name:g.1=f.1
 par:fPar g=fPar f
 res:fRes g=fRes f
 ext:fExt g=fExt f
 vlen:(Qac g).length=(Qac f).length
 clen:(Qag g).length=(Qag f).length
 bv:Bij (Qac f).length σ
 bn:Bij (Qag f).length π
 var:∀ v:Int,0≤v→v<((Qac f).length:Int)→(Qac g)[(σ v).toNat]?=(Qac f)[v.toNat]?
 out:∀ v:Int,¬ (0≤v∧v<((Qac f).length:Int))→σ v=v
 spar:∀ v:Int,0≤v→v<fPar f→σ v=v
 par1:0≤fPar f∧fPar f≤((Qac f).length:Int)
 node:∀ (k:Int) (n:Qab),0≤k→(Qag f)[k.toNat]?=some n→(Qag g)[(π k).toNat]?=some (ren π σ n)
 body:fExt f=false→QaM g=π (QaM f)
 QHd:fExt f=true→QaM g=QaM f
theorem Ren.pos {f g:GFun}{π σ:Int→Int}(h:Ren f g π σ)(v:Int):0≤σ v↔0≤v:=by
 by_cases hv:0≤v∧v<((Qac f).length:Int)
 ·have:=h.bv.rng v hv.1 hv.2
  exact ⟨fun _=>hv.1,fun _=>this.1⟩
 ·rw [h.out v hv]
theorem Ren.one {f g:GFun}{π σ:Int→Int}(h:Ren f g π σ)(v:Int):σ v = -1↔v = -1:=by
 by_cases hv:0≤v∧v<((Qac f).length:Int)
 ·have:=h.bv.rng v hv.1 hv.2
  omega
 ·rw [h.out v hv]
theorem Ren.vat {f g:GFun}{π σ:Int→Int}(h:Ren f g π σ){v:Int}(hv:0≤v):(Qac g)[(σ v).toNat]?=(Qac f)[v.toNat]?:=by
 by_cases h1:v<((Qac f).length:Int)
 ·exact h.var v hv h1
 ·rw [h.out v (fun x=>h1 x.2),List.getElem?_eq_none (by rw [h.vlen]; omega),List.getElem?_eq_none (by omega)]
theorem Ren.kd {f g:GFun}{π σ:Int→Int}(h:Ren f g π σ){v:Int}(hv:0≤v):LabB.kd g (σ v)=LabB.kd f v:=by
 unfold LabB.kd
 rw [h.vat hv]
theorem Ren.rd {f g:GFun}{π σ:Int→Int}(h:Ren f g π σ){v:Int}(hv:0≤v):rdOf g (σ v)=rdOf f v:=by
 unfold rdOf
 rw [h.vat hv]
theorem QsU {α β:Type}(g:α→β)(p:Nat→β→Bool):∀ (l:List α) (i:Nat),allI p i (l.map g)=allI (fun i x=>p i (g x)) i l
 | [],i=>rfl
 | x::l,i=>by rw [List.map_cons,allI,allI,QsU g p l]
theorem Qnh {α:Type}{p q:Nat→α→Bool}:∀ (l:List α) (i:Nat),(∀ i,∀ x∈l,p i x=q i x)→allI p i l=allI q i l
 | [],i,h=>rfl
 | x::l,i,h=>by rw [allI,allI,h i x (by simp),Qnh l (i+1) (fun i y hy=>h i y (by simp [hy]))]
theorem Ren.tyL {f g:GFun}{π σ:Int→Int}(h:Ren f g π σ)(hole:Int)(l ts:List Int):LabB.tyL g hole (l.map σ) ts=LabB.tyL f hole l ts:=by
 unfold LabB.tyL
 rw [List.length_map,QsU]
 congr 1
 refine Qnh l 0 fun i v hv=>?_
 by_cases hh:(i:Int)=hole
 ·rw [if_pos hh,if_pos hh,Bool.eq_iff_iff,decide_eq_true_eq,decide_eq_true_eq]
  exact h.one v
 ·rw [if_neg hh,if_neg hh]
  by_cases hp:0≤v
  ·rw [h.kd hp,Qc1 hp,Qc1 ((h.pos v).2 hp)]
  ·rw [Qa7 hp,Qa7 (fun x=>hp ((h.pos v).1 x))]
   rfl
theorem Qxm (π σ:Int→Int)(n:Qab):kids (ren π σ n)=(kids n).map π:=by
 unfold kids
 show (if nOp n=9 then _ else if QbY (nOp n)=true then _ else _)=_
 by_cases h9:nOp n=9
 ·rw [if_pos h9,if_pos h9]
  show (if nOp n=9 then (nBr n).map (Qng π σ) else nBr n).map (·.2)=_
  rw [if_pos h9,List.map_map,List.map_map]
  rfl
 ·rw [if_neg h9,if_neg h9]
  by_cases hn:QbY (nOp n)=true
  ·rw [if_pos hn,if_pos hn]
   show [if nOp n≠9∧QbY (nOp n)=true then π (Qbg n) else Qbg n]=_
   rw [if_pos ⟨h9,hn⟩]
   rfl
  ·rw [if_neg hn,if_neg hn]
   rfl
theorem Qmv (π σ:Int→Int)(n:Qab):binds (ren π σ n)=(binds n).map σ:=by
 unfold binds
 show (if nOp n=9 then _ else if QaS (nOp n)=true then _ else _)=_
 by_cases h9:nOp n=9
 ·rw [if_pos h9,if_pos h9]
  show (if nOp n=9 then (nBr n).map (Qng π σ) else nBr n).flatMap (·.1)=_
  rw [if_pos h9,List.flatMap_map,List.map_flatMap]
  rfl
 ·rw [if_neg h9,if_neg h9]
  by_cases hn:QaS (nOp n)=true
  ·rw [if_pos hn,if_pos hn]
   show [if nOp n≠9∧QaS (nOp n)=true then σ (nVar n) else nVar n]=_
   rw [if_pos ⟨h9,hn⟩]
   rfl
  ·rw [if_neg hn,if_neg hn]
   rfl
theorem QDT (π σ:Int→Int)(n:Qab):kb (ren π σ n)=(kb n).map fun x=>(π x.1,x.2.map σ):=by
 unfold kb
 rw [Qxm,Qmv]
 show (if nOp n=9 then (nBr (ren π σ n)).map _ else _)=_
 by_cases h9:nOp n=9
 ·rw [if_pos h9,if_pos h9]
  show (if nOp n=9 then (nBr n).map (Qng π σ) else nBr n).map _=_
  rw [if_pos h9,List.map_map,List.map_map]
  rfl
 ·rw [if_neg h9,if_neg h9,List.map_map,List.map_map]
  rfl
theorem Qxn (op:Int):QaI op=true↔(op<0∨10≤op∨op=1):=by
 unfold QaI
 rw [decide_eq_true_eq]
 omega
theorem Ren.uses {f g:GFun}{π σ:Int→Int}(h:Ren f g π σ)(n:Qab):uses (ren π σ n)=(uses n).map σ:=by
 unfold LabB.uses
 show (if nOp n<0∨10≤nOp n∨nOp n=1 then _ else if nOp n=8 then _ else _)=_
 by_cases hb:nOp n<0∨10≤nOp n∨nOp n=1
 ·rw [if_pos hb,if_pos hb]
  rfl
 ·rw [if_neg hb,if_neg hb]
  have hb':¬ QaI (nOp n)=true:=fun x=>hb ((Qxn _).1 x)
  have ea:QaG (ren π σ n)=(QaG n).map σ:=by
   show (if QaI (nOp n)=true then _ else _)=_
   rw [if_neg hb']
  have em:Qbf (ren π σ n)=(Qbf n).map σ:=by
   show (if QaI (nOp n)=true then _ else _)=_
   rw [if_neg hb']
  rw [ea,em]
  by_cases h8:nOp n=8
  ·rw [if_pos h8,if_pos h8,← List.map_append,List.filter_map]
   congr 1
   refine List.filter_congr fun v hv=>?_
   show decide (0≤σ v)=decide (0≤v)
   rw [Bool.eq_iff_iff,decide_eq_true_eq,decide_eq_true_eq]
   exact h.pos v
  ·rw [if_neg h8,if_neg h8]
theorem QnR (π σ:Int→Int)(n:Qab):(QaG (ren π σ n)).length=(QaG n).length:=by
 show (if QaI (nOp n)=true then _ else _:List Int).length=_
 split<;>simp
theorem QnS (π σ:Int→Int)(n:Qab):(Qbf (ren π σ n)).length=(Qbf n).length:=by
 show (if QaI (nOp n)=true then _ else _:List Int).length=_
 split<;>simp
theorem Qni (π σ:Int→Int)(n:Qab):(nBr (ren π σ n)).length=(nBr n).length:=by
 show (if nOp n=9 then _ else _:List Qak).length=_
 split<;>simp
theorem QDq (π σ:Int→Int)(n:Qab):Qcd (ren π σ n)=Qcd n:=by
 have hv:(QaS (nOp n)||decide (nVar (ren π σ n)=0))=(QaS (nOp n)||decide (nVar n=0)):=by
  show (QaS (nOp n)||decide ((if nOp n≠9∧QaS (nOp n)=true then σ (nVar n) else nVar n)=0))=_
  cases hb:QaS (nOp n) with
  | true=>rfl
  | false=>rw [if_neg (by simp)]
 have hn:(QbY (nOp n)||decide (Qbg (ren π σ n)=0))=(QbY (nOp n)||decide (Qbg n=0)):=by
  show (QbY (nOp n)||decide ((if nOp n≠9∧QbY (nOp n)=true then π (Qbg n) else Qbg n)=0))=_
  cases hb:QbY (nOp n) with
  | true=>rfl
  | false=>rw [if_neg (by simp)]
 unfold Qcd
 rw [QnR,QnS,Qni]
 show (decide (0≤nOp n∧nOp n<10)&&(decide (fArgs (nOp n)<0)||decide (((QaG n).length:Int)=fArgs (nOp n)))&&(QaS (nOp n)||decide (nVar (ren π σ n)=0))&&(fCon (nOp n)||decide (nCon n=0))&&(fNum (nOp n)||decide (nNum n=0))&&(fFun (nOp n)||decide (nFun n=0))&&_&&_&&(QbY (nOp n)||decide (Qbg (ren π σ n)=0))&&_)=_
 rw [hv,hn]
 rfl
end Go.Proofs.YtkecfadnfnnfaaaGreatDoor.LabB.V
namespace Go.Proofs.YtkecfadnfnnfaaaGreatDoor.LabB.V
open Go Go.Ev Go.Sy Go.Proofs.YtkecfadnfnnfaaaGreatDoor.LabB
structure Sig (p q:Qae):Prop where
 Qj4:q.1=p.1
 len:q.2.length=p.2.length
 names:q.2.map (·.1)=p.2.map (·.1)
 ps:∀ t,QfN q t=QfN p t
 rs:∀ t,QsR q t=QsR p t
section
variable {p q:Qae} {f g:GFun} {π σ:Int→Int}
theorem Sig.fields (hs:Sig p q)(t c:Int):fieldsOf q t c=fieldsOf p t c:=by unfold fieldsOf; rw [hs.Qj4]
theorem Ren.Qib (h:Ren f g π σ)(hs:Sig p q)(t:Int)(l:List Int):LabB.Qib q g t (l.map σ)=LabB.Qib p f t l:=by
 unfold LabB.Qib
 rw [hs.ps]
 cases QfN p t with
 | none=>rfl
 | some ts=>exact h.tyL (-1) l ts
theorem Qky {n:Qab}(h:¬ QaI (nOp n)=true):QaG (ren π σ n)=(QaG n).map σ:=by
 show (if QaI (nOp n)=true then _ else _)=_
 rw [if_neg h]
theorem QDr {n:Qab}(h:¬ QaI (nOp n)=true):Qbf (ren π σ n)=(Qbf n).map σ:=by
 show (if QaI (nOp n)=true then _ else _)=_
 rw [if_neg h]
theorem QDs {n:Qab}(h:¬ QaI (nOp n)=true)(hl:QaG n≠[]):arg0 (ren π σ n)=σ (arg0 n):=by
 unfold arg0
 rw [Qky h]
 cases hn:QaG n with
 | nil=>exact absurd hn hl
 | cons v l=>rfl
theorem QE4 {n:Qab}(h9:nOp n≠9)(h:QaS (nOp n)=true):nVar (ren π σ n)=σ (nVar n):=by
 show (if nOp n≠9∧QaS (nOp n)=true then _ else _)=_
 rw [if_pos ⟨h9,h⟩]
theorem QE5 {n:Qab}(h:Qcd n=true):0≤nOp n∧nOp n<10:=by
 unfold Qcd at h
 simp only [Bool.and_eq_true,decide_eq_true_eq] at h
 exact h.1.1.1.1.1.1.1.1.1
theorem QBx {n:Qab}(h:Qcd n=true):fArgs (nOp n)<0∨((QaG n).length:Int)=fArgs (nOp n):=by
 unfold Qcd at h
 simp only [Bool.and_eq_true,Bool.or_eq_true,decide_eq_true_eq] at h
 exact h.1.1.1.1.1.1.1.1.2
theorem QBy {n:Qab}(h:Qcd n=true):nOp n=9∨nBr n=[]:=by
 unfold Qcd at h
 simp only [Bool.and_eq_true,Bool.or_eq_true,decide_eq_true_eq] at h
 rcases h.2 with h |h
 ·exact .inl h
 ·exact .inr (List.eq_nil_of_length_eq_zero (by omega))
theorem QE6 {n:Qab}(hl:QaG n≠[]):arg0 n∈QaG n:=by
 unfold arg0
 cases hn:QaG n with
 | nil=>exact absurd hn hl
 | cons v l=>simp
theorem Ren.typed (h:Ren f g π σ)(hs:Sig p q)(n:Qab)(hform:Qcd n=true)(hu:∀ v∈LabB.uses n,0≤v)(hb:∀ v∈binds n,0≤v):Qj5 q g (ren π σ n)=Qj5 p f n:=by
 have hop:=QE5 hform
 have hfa:=QBx hform
 have eop:nOp (ren π σ n)=nOp n:=rfl
 have eco:nCon (ren π σ n)=nCon n:=rfl
 have enu:nNum (ren π σ n)=nNum n:=rfl
 have efu:nFun (ren π σ n)=nFun n:=rfl
 have eta:Qlq (ren π σ n)=Qlq n:=rfl
 have hkv:nOp n≠9→QaS (nOp n)=true→LabB.kd g (nVar (ren π σ n))=LabB.kd f (nVar n):=fun h9 hbn=>by
  rw [QE4 h9 hbn]
  refine h.kd (hb _ ?_)
  unfold binds
  rw [if_neg h9,if_pos hbn]
  simp
 have hka:¬ QaI (nOp n)=true→nOp n≠8→fArgs (nOp n)=1→LabB.kd g (arg0 (ren π σ n))=LabB.kd f (arg0 n):=fun hba h8 h1=>by
  have hl:QaG n≠[]:=fun e=>by
   rw [h1,e] at hfa
   simp at hfa
  rw [QDs hba hl]
  refine h.kd (hu _ ?_)
  unfold LabB.uses
  rw [if_neg (fun x=>hba ((Qxn _).2 x)),if_neg h8]
  exact QE6 hl
 unfold Qj5
 rw [eop,eco,enu,efu,eta,hs.Qj4,h.res]
 rcases Qxc hop with e |e |e |e |e |e |e |e |e |e
 ·simp only [if_pos e]
  rw [hka (by rw [e]; decide) (by omega) (by rw [e]; decide)]
 ·simp only [if_neg (show ¬ nOp n=0 by omega),if_pos e]
  rw [hkv (by omega) (by rw [e]; decide)]
 ·simp only [if_neg (show ¬ nOp n=0 by omega),if_neg (show ¬ nOp n=1 by omega),if_pos e]
  rw [hkv (by omega) (by rw [e]; decide),Qky (by rw [e]; decide),h.tyL]
 ·simp only [if_neg (show ¬ nOp n=0 by omega),if_neg (show ¬ nOp n=1 by omega),if_neg (show ¬ nOp n=2 by omega),if_pos e]
  rw [hkv (by omega) (by rw [e]; decide),Qky (by rw [e]; decide),hs.fields]
  cases fieldsOf p (LabB.kd f (nVar n)) (nCon n) with
  | none=>rfl
  | some ts=>exact h.tyL _ _ _
 ·simp only [if_neg (show ¬ nOp n=0 by omega),if_neg (show ¬ nOp n=1 by omega),if_neg (show ¬ nOp n=2 by omega),if_neg (show ¬ nOp n=3 by omega),if_pos e]
  rw [hkv (by omega) (by rw [e]; decide),hka (by rw [e]; decide) (by omega) (by rw [e]; decide)]
 ·simp only [if_neg (show ¬ nOp n=0 by omega),if_neg (show ¬ nOp n=1 by omega),if_neg (show ¬ nOp n=2 by omega),if_neg (show ¬ nOp n=3 by omega),if_neg (show ¬ nOp n=4 by omega),if_pos e]
  rw [hka (by rw [e]; decide) (by omega) (by rw [e]; decide)]
 ·simp only [if_neg (show ¬ nOp n=0 by omega),if_neg (show ¬ nOp n=1 by omega),if_neg (show ¬ nOp n=2 by omega),if_neg (show ¬ nOp n=3 by omega),if_neg (show ¬ nOp n=4 by omega),if_neg (show ¬ nOp n=5 by omega),if_pos e]
  rw [hkv (by omega) (by rw [e]; decide),Qky (by rw [e]; decide),h.Qib hs,hs.rs]
 ·simp only [if_neg (show ¬ nOp n=0 by omega),if_neg (show ¬ nOp n=1 by omega),if_neg (show ¬ nOp n=2 by omega),if_neg (show ¬ nOp n=3 by omega),if_neg (show ¬ nOp n=4 by omega),if_neg (show ¬ nOp n=5 by omega),if_neg (show ¬ nOp n=6 by omega),if_pos e]
  rw [Qky (by rw [e]; decide),h.Qib hs,hs.rs]
 ·simp only [if_neg (show ¬ nOp n=0 by omega),if_neg (show ¬ nOp n=1 by omega),if_neg (show ¬ nOp n=2 by omega),if_neg (show ¬ nOp n=3 by omega),if_neg (show ¬ nOp n=4 by omega),if_neg (show ¬ nOp n=5 by omega),if_neg (show ¬ nOp n=6 by omega),if_neg (show ¬ nOp n=7 by omega),if_pos e]
  rw [Qky (by rw [e]; decide),QDr (by rw [e]; decide),hs.fields,hs.rs]
  cases fieldsOf p (fRes f) (nCon n) with
  | none=>rfl
  | some ts=>simp only [h.tyL,h.Qib hs]
 ·simp only [if_neg (show ¬ nOp n=0 by omega),if_neg (show ¬ nOp n=1 by omega),if_neg (show ¬ nOp n=2 by omega),if_neg (show ¬ nOp n=3 by omega),if_neg (show ¬ nOp n=4 by omega),if_neg (show ¬ nOp n=5 by omega),if_neg (show ¬ nOp n=6 by omega),if_neg (show ¬ nOp n=7 by omega),if_neg (show ¬ nOp n=8 by omega)]
  rw [hka (by rw [e]; decide) (by omega) (by rw [e]; decide),Qni]
  congr 1
  show allI _ 0 (if nOp n=9 then (nBr n).map (Qng π σ) else nBr n)=_
  rw [if_pos e,QsU]
  refine Qnh _ 0 fun i b hb=>?_
  show (match (QgK p.1 (LabB.kd f (arg0 n)))[i]? with |some c=>LabB.tyL g (-1) (b.1.map σ) c.2 |none=>false)=_
  cases (QgK p.1 (LabB.kd f (arg0 n)))[i]? with
  | none=>rfl
  | some c=>exact h.tyL _ _ _
theorem Ren.QHe (h:Ren f g π σ)(hs:Sig p q)(n:Qab)(hb:∀ v∈binds n,0≤v):Qmp q g (ren π σ n)=Qmp p f n:=by
 unfold Qmp
 rw [Qmv,List.all_map,hs.Qj4]
 rw [Bool.eq_iff_iff,List.all_eq_true,List.all_eq_true]
 refine forall_congr' fun v=>?_
 refine forall_congr' fun hv=>?_
 show (rdOf g (σ v)==(decide (nOp n=9)&&(!Qlq n&&!flat p.1 (LabB.kd g (σ v)))))=true↔_
 rw [h.rd (hb v hv),h.kd (hb v hv)]
theorem Ren.alone (h:Ren f g π σ)(hs:Sig p q){n:Qab}{sc bo bo' sc2 bo2:List Bool}(ts:Tp (Qac f).length σ sc sc2)(tb:Tp (Qac f).length σ bo bo2)(e:Qj6 p f sc bo n=.inr bo'):
  ∃ bo2',Qj6 q g sc2 bo2 (ren π σ n)=.inr bo2'∧Tp (Qac f).length σ bo' bo2':=by
 obtain ⟨h1,h2,h3,h4,h5,h6,h7⟩:=QhZ e
 obtain ⟨u1,u2⟩:=QBw h.bv ts h2
 obtain ⟨bo2',m1,m2⟩:=Qxk h.bv _ _ _ _ h3 tb h5
 refine ⟨bo2',?_,m2⟩
 have e1:Qcd (ren π σ n)=true:=by rw [QDq]; exact h1
 have e2:LabB.Qd0 sc2 (LabB.uses (ren π σ n))=true:=by rw [h.uses]; exact u1
 have e3:(binds (ren π σ n)).all (inR g)=true:=by
  rw [Qmv,List.all_map,List.all_eq_true]
  intro v hv
  have:=h.bv.rng v (h3 v hv).1 (h3 v hv).2
  show inR g (σ v)=true
  unfold inR
  rw [decide_eq_true_eq,h.vlen]
  exact this
 have e4:Qmq q (ren π σ n)=false:=by
  rw [← h4]
  unfold Qmq
  rw [hs.len]
  rfl
 have e6:Qj5 q g (ren π σ n)=true:=by rw [h.typed hs n h1 (fun v hv=>(u2 v hv).1) (fun v hv=>(h3 v hv).1)]; exact h6
 have e7:Qmp q g (ren π σ n)=true:=by rw [h.QHe hs n (fun v hv=>(h3 v hv).1)]; exact h7
 unfold Qj6
 rw [e1,e2,e3,e4,Qmv,m1]
 simp only [reduceCtorEq,if_false,Bool.false_eq_true,Bool.true_eq_false]
 rw [e6,e7]
 rfl
def Goes (f:GFun)(π σ:Int→Int)(G H:List Bool→List Bool→List Bool→Int→Int⊕(List Bool×List Bool)):Prop:=
 ∀ (re bo sc re' bo' re2 bo2 sc2:List Bool) (k:Int),G re bo sc k=.inr (re',bo')→Tp (Qag f).length π re re2→Tp (Qac f).length σ bo bo2→Tp (Qac f).length σ sc sc2→0≤k→
   ∃ re2' bo2',H re2 bo2 sc2 (π k)=.inr (re2',bo2')∧Tp (Qag f).length π re' re2'∧Tp (Qac f).length σ bo' bo2'
theorem Quq (h:Ren f g π σ){G H:List Bool→List Bool→List Bool→Int→Int⊕(List Bool×List Bool)}(hg:Goes f π σ G H){sc sc2:List Bool}(ts:Tp (Qac f).length σ sc sc2):
  ∀ (r:List (Int×List Int)) (re bo re' bo' re2 bo2:List Bool),Qjf G r re bo sc=.inr (re',bo')→Tp (Qag f).length π re re2→Tp (Qac f).length σ bo bo2→(∀ x∈r,0≤x.1)→(∀ x∈r,∀ v∈x.2,0≤v∧v<((Qac f).length:Int))→
  ∃ re2' bo2',Qjf H (r.map fun x=>(π x.1,x.2.map σ)) re2 bo2 sc2=.inr (re2',bo2')∧Tp (Qag f).length π re' re2'∧Tp (Qac f).length σ bo' bo2'
 | [],re,bo,re',bo',re2,bo2,e,tr_,tb,hk,hv=>by
  cases e
  exact ⟨re2,bo2,rfl,tr_,tb⟩
 | (k,l)::r,re,bo,re',bo',re2,bo2,e,tr_,tb,hk,hv=>by
  unfold Qjf at e
  split at e
  ·cases e
  rename_i re3 bo3 hgo
  obtain ⟨re4,bo4,a1,a2,a3⟩:=hg _ _ _ _ _ re2 bo2 (setS true (l.map σ) sc2) k hgo tr_ tb (Qv0 h.bv true l _ _ (hv (k,l) (by simp)) ts) (hk (k,l) (by simp))
  obtain ⟨re5,bo5,b1,b2,b3⟩:=Quq h hg ts r _ _ _ _ re4 bo4 e a2 a3 (fun x hx=>hk x (by simp [hx])) (fun x hx=>hv x (by simp [hx]))
  refine ⟨re5,bo5,?_,b2,b3⟩
  rw [List.map_cons,Qjf,a1]
  exact b1
theorem Qxo (h:Ren f g π σ)(hs:Sig p q):∀ d:Nat,Goes f π σ (walk p f d) (walk q g d)
 | 0=>fun re bo sc re' bo' re2 bo2 sc2 k e _ _ _ _=>by cases e
 | d+1=>fun re bo sc re' bo' re2 bo2 sc2 k e tr_ tb ts k0=>by
  unfold walk at e
  split at e
  ·cases e
  rename_i n hn
  split at e
  ·cases e
  rename_i bo3 hal
  split at e
  ·cases e
  rename_i re3 hmk
  obtain ⟨bo4,a1,a2⟩:=h.alone hs ts tb hal
  obtain ⟨re4,b1,b2,b3⟩:=Qxl h.bn _ _ _ _ tr_ hmk
  have hbi:=(QhZ hal).2.2.1
  obtain ⟨re5,bo5,c1,c2,c3⟩:=Quq h (Qxo h hs d) ts (kb n) _ _ _ _ re4 bo4 e b2 a2 (fun x hx=>(b3 x.1 (by rw [QbW]; exact List.mem_map_of_mem hx)).1) (fun x hx v hv=>hbi v (LabB.Qor (k:=x.1) (l:=x.2) hx v hv))
  refine ⟨re5,bo5,?_,c2,c3⟩
  rw [walk,h.node k n k0 hn]
  simp only
  rw [a1]
  simp only
  rw [Qxm,b1]
  simp only
  rw [QDT]
  exact c1
theorem Qv1 (h:Ren f g π σ):Tp (Qac f).length σ (parS (Qac f).length (fPar f).toNat) (parS (Qac f).length (fPar f).toNat):=by
 have hp:(fPar f).toNat≤(Qac f).length:=by have:=h.par1; omega
 refine ⟨Qdz _ _ hp,Qdz _ _ hp,fun v v0 v1=>?_⟩
 have r:=h.bv.rng v v0 v1
 rw [Qqb _ _ _ hp (by omega),Qqb _ _ _ hp (by omega)]
 congr 1
 rw [Bool.eq_iff_iff,decide_eq_true_eq,decide_eq_true_eq]
 have hpp:=h.par1
 constructor
 ·intro hv
  have e:=h.spar (σ v) r.1 (by omega)
  have:=h.bv.inj _ _ r.1 r.2 v0 v1 e
  omega
 ·intro hv
  rw [h.spar v v0 (by omega)]
  exact hv
theorem QE7 (h:Ren f g π σ)(hs:Sig p q)(k:Nat)(e:hdr p k f=0):hdr q k g=0:=by
 obtain ⟨ho,hbody,hext,hname,hp6,hfl,heb⟩:=Qrv e
 have hany:(p.2.take k).any (fun x=>decide (x.1=f.1))=false∧¬ (6<fPar f∨512<((Qac f).length:Int)∨4096<((Qag f).length:Int))∧¬ (fPar f<0∨((Qac f).length:Int)<fPar f):=by
  unfold hdr at e
  split at e
  ·cases e
  split at e
  ·cases e
  rename_i h1
  split at e
  ·cases e
  rename_i h2
  split at e
  ·cases e
  rename_i h3
  exact ⟨Bool.eq_false_iff.2 h1,h2,h3⟩
 obtain ⟨h1,h2,h3⟩:=hany
 have hany2:(q.2.take k).any (fun x=>decide (x.1=g.1))=false:=by
  rw [← h1,h.name]
  have a:∀ l:List GFun,l.any (fun x=>decide (x.1=f.1))=(l.map (·.1)).any (fun x=>decide (x=f.1)):=fun l=>by rw [List.any_map]; rfl
  rw [a,a,List.map_take,List.map_take,hs.names]
 have hvar:∀ x∈Qac g,∃ y∈Qac f,x=y:=fun x hx=>by
  obtain ⟨i,hi⟩:=List.getElem?_of_mem hx
  have hil:=Qat hi
  obtain ⟨j,hj,ej⟩:=h.bv.surj i (by rw [← h.vlen]; exact hil)
  have:=h.var (j:Int) (by omega) (by omega)
  rw [ej,Int.toNat_natCast,Int.toNat_natCast,hi] at this
  exact ⟨x,List.mem_of_getElem? this.symm,rfl⟩
 have hv1:(Qac g).all (fun v=>isTy q.1 v.1)=true:=by
  rw [List.all_eq_true]
  intro x hx
  obtain ⟨y,hy,rfl⟩:=hvar x hx
  rw [hs.Qj4]
  exact ho.vars x hy
 have hv2:(Qac g).all (fun v=>!(v.2&&flat q.1 v.1))=true:=by
  rw [List.all_eq_true]
  intro x hx
  obtain ⟨y,hy,rfl⟩:=hvar x hx
  rw [hs.Qj4]
  cases h2:x.2 with
  | false=>rfl
  | true=>rw [hfl x hy h2]; rfl
 unfold hdr
 rw [h.name,hname,if_neg (by simp),← h.name,hany2,if_neg (by simp),h.par,h.vlen,h.clen,if_neg h2,if_neg h3]
 rw [h.ext,if_neg,h.res,hs.Qj4,ho.res,if_neg (by simp),← hs.Qj4,hv1,if_neg (by simp),hv2,if_neg (by simp)]
 rintro (⟨x1,x2⟩ |⟨x1,x2⟩)
 ·obtain ⟨y1,y2⟩:=hext x1
  rw [h.QHd x1,heb x1,y1] at x2
  simp at x2
  omega
 ·have hb:=hbody x1
  rw [h.body x1] at x2
  have:=h.bn.rng _ hb.1 hb.2
  omega
theorem QDt (h:Ren f g π σ)(hs:Sig p q)(k:Nat)(e:chkF p k f=0):chkF q k g=0:=by
 unfold chkF at e
 split at e
 ·rename_i h1; exact absurd e h1
 rename_i hh
 have hh:hdr p k f=0:=by simpa using hh
 have hh2:=QE7 h hs k hh
 obtain ⟨ho,hbody,hext,_⟩:=Qrv hh
 unfold chkF
 rw [if_neg (by rw [hh2]; simp),h.ext]
 split at e
 ·rename_i he
  rw [if_pos he]
 ·rename_i he
  rw [if_neg he]
  have he:fExt f=false:=by simpa using he
  obtain ⟨hb0,hb1⟩:=hbody he
  split at e
  ·rename_i e' hw
   exact absurd e (Qot p f _ _ _ _ _ _ hw)
  ·rename_i re bo hw
   split at e
   ·cases e
   rename_i hre
   split at e
   ·cases e
   rename_i hbo
   obtain ⟨re2,bo2,w1,w2,w3⟩:=Qxo h hs _ _ _ _ _ _ _ _ _ _ hw ((Tp.rep _ h.bn false).set h.bn true hb0 hb1) (Qv1 h) (Qv1 h) hb0
   rw [h.clen,h.vlen,h.par,h.body he,w1]
   simp only
   rw [w2.all h.bn (by simpa using hre),w3.all h.bv (by simpa using hbo)]
   rfl
end
end Go.Proofs.YtkecfadnfnnfaaaGreatDoor.LabB.V
namespace Go.Proofs.YtkecfadnfnnfaaaGreatDoor.LabB.V
open Go Go.Ev Go.Sy Go.Proofs.YtkecfadnfnnfaaaGreatDoor.LabB
section
variable {f g:GFun} {π σ:Int→Int}
theorem Qv2 {c:Nat}(hb:Bij c π){a b r:List Bool}{k:Int}(t:Tp c π a b)(e:mark c a k=some r):(0≤k∧k<(c:Int))∧∃ r2,mark c b (π k)=some r2∧Tp c π r r2:=by
 obtain ⟨k0,k1,k2,rfl⟩:=Qcu e
 have r:=hb.rng k k0 k1
 refine ⟨⟨k0,k1⟩,_,QsT r.1 r.2 ?_,t.set hb true k0 k1⟩
 rw [t.at_ k k0 k1]
 exact k2
theorem Qxp {c:Nat}(hb:Bij c σ):∀ (l:List Int) (bo sc bo' sc' bo2 sc2:List Bool) (va va':List Int),Qd2 c l (bo,sc,va)=some (bo',sc',va')→Tp c σ bo bo2→Tp c σ sc sc2→
  ∃ bo2' sc2',Qd2 c (l.map σ) (bo2,sc2,va.map σ)=some (bo2',sc2',va'.map σ)∧Tp c σ bo' bo2'∧Tp c σ sc' sc2'∧∀ v∈l,0≤v∧v<(c:Int)
 | [],bo,sc,bo',sc',bo2,sc2,va,va',e,tb,ts=>by
  cases e
  exact ⟨bo2,sc2,rfl,tb,ts,fun v hv=>by simp at hv⟩
 | v::l,bo,sc,bo',sc',bo2,sc2,va,va',e,tb,ts=>by
  unfold Qd2 at e
  split at e
  ·cases e
  rename_i b3 hm
  obtain ⟨⟨v0,v1⟩,b4,m1,m2⟩:=Qv2 hb tb hm
  obtain ⟨b5,s5,e1,e2,e3,e4⟩:=Qxp hb l _ _ _ _ b4 (sc2.set (σ v).toNat true) _ _ e m2 (ts.set hb true v0 v1)
  refine ⟨b5,s5,?_,e2,e3,fun x hx=>?_⟩
  ·rw [List.map_cons,Qd2,m1]
   simp only
   rw [← e1,List.map_append]
   rfl
  ·rcases List.mem_cons.1 hx with rfl |hx
   ·exact ⟨v0,v1⟩
   ·exact e4 x hx
theorem QDu {c:Nat}(hb:Bij c σ){sc sc2:List Bool}(t:Tp c σ sc sc2){l:List Int}(h:Qd0 c sc l=true):Qd0 c sc2 (l.map σ)=true:=by
 unfold Qd0 at h ⊢
 rw [List.all_map,List.all_eq_true]
 intro v hv
 have:=List.all_eq_true.1 h v hv
 rw [decide_eq_true_eq] at this
 have r:=hb.rng v this.1 this.2.1
 show decide _=true
 rw [decide_eq_true_eq,t.at_ v this.1 this.2.1]
 exact ⟨r.1,r.2,this.2.2⟩
structure TS (f:GFun)(π σ:Int→Int)(s t:S):Prop where
 nodes:t.nodes=s.nodes.map π
 va:t.va=s.va.map σ
 re:Tp (Qag f).length π s.re t.re
 bo:Tp (Qac f).length σ s.bo t.bo
 sc:Tp (Qac f).length σ s.sc t.sc
def QGp (f:GFun)(π σ:Int→Int)(G H:S→Int→Option S):Prop:=∀ (s s' t:S) (k:Int),G s k=some s'→TS f π σ s t→0≤k→∃ t',H t (π k)=some t'∧TS f π σ s' t'
theorem Qxq (h:Ren f g π σ){G H:S→Int→Option S}(hg:QGp f π σ G H):∀ (r:List (Int×List Int)) (s s' t:S),visL f G r s=some s'→TS f π σ s t→∃ t',visL g H (r.map fun x=>(π x.1,x.2.map σ)) t=some t'∧TS f π σ s' t'
 | [],s,s',t,e,ts=>by
  cases e
  exact ⟨t,rfl,ts⟩
 | (k,l)::r,s,s',t,e,ts=>by
  unfold visL at e
  split at e
  ·cases e
  rename_i re3 hm
  split at e
  ·cases e
  rename_i bo3 sc3 va3 hbi
  split at e
  ·cases e
  rename_i s2 hgo
  obtain ⟨⟨k0,k1⟩,re4,m1,m2⟩:=Qv2 h.bn ts.re hm
  obtain ⟨bo4,sc4,b1,b2,b3,b4⟩:=Qxp h.bv l _ _ _ _ t.bo t.sc _ _ hbi ts.bo ts.sc
  obtain ⟨t2,g1,g2⟩:=hg _ _ ⟨t.nodes,sc4,re4,bo4,va3.map σ⟩ k hgo ⟨ts.nodes,rfl,m2,b2,b3⟩ k0
  obtain ⟨t3,c1,c2⟩:=Qxq h hg r _ _ ⟨t2.nodes,QeI (l.map σ) t2.sc,t2.re,t2.bo,t2.va⟩ e ⟨g2.nodes,g2.va,g2.re,g2.bo,by
   rw [Qkx,Qkx]
   exact Qv0 h.bv false l _ _ b4 g2.sc⟩
  refine ⟨t3,?_,c2⟩
  rw [List.map_cons,visL,h.clen,m1]
  simp only
  rw [h.vlen,ts.va,b1]
  simp only
  rw [g1]
  exact c1
theorem QBz (h:Ren f g π σ):∀ d:Nat,QGp f π σ (vis f d) (vis g d)
 | 0=>fun s s' t k e _ _=>by cases e
 | d+1=>fun s s' t k e ts k0=>by
  unfold vis at e
  split at e
  ·cases e
  rename_i n hn
  split at e
  ·rename_i hu
   obtain ⟨t',c1,c2⟩:=Qxq h (QBz h d) (kb n) _ _ ⟨t.nodes++[π k],t.sc,t.re,t.bo,t.va⟩ e ⟨by rw [ts.nodes,List.map_append]; rfl,ts.va,ts.re,ts.bo,ts.sc⟩
   refine ⟨t',?_,c2⟩
   rw [vis,h.node k n k0 hn]
   simp only
   rw [h.uses,h.vlen,if_pos (QDu h.bv ts.sc hu),QDT]
   exact c1
  ·cases e
theorem QyI (h:Ren f g π σ){N V:List Int}(e:Qc4 f=some (N,V)):Qc4 g=some (N.map π,V.map σ):=by
 unfold Qc4 at e ⊢
 rw [h.par,h.vlen,h.ext,h.clen]
 split at e
 ·cases e
 rename_i hp
 rw [if_neg hp]
 split at e
 ·rename_i he
  rw [if_pos he]
  cases e
  rfl
 ·rename_i he
  rw [if_neg he]
  split at e
  ·cases e
  rename_i re hm
  split at e
  ·cases e
  rename_i s hv
  cases e
  rw [h.body (by simpa using he)]
  obtain ⟨⟨k0,k1⟩,re2,m1,m2⟩:=Qv2 h.bn (Tp.rep _ h.bn false) hm
  rw [m1]
  simp only
  have tp:Tp (Qac f).length σ (ini (fPar f).toNat (Qac f).length) (ini (fPar f).toNat (Qac f).length):=Qv1 h
  obtain ⟨t',c1,c2⟩:=QBz h _ _ _ ⟨[],ini (fPar f).toNat (Qac f).length,re2,ini (fPar f).toNat (Qac f).length,[]⟩ _ hv ⟨rfl,rfl,m2,tp,tp⟩ k0
  rw [c1]
  simp only
  rw [c2.nodes,c2.va]
theorem Qnj {N V:List Int}(w:Whole f N V){k:Int}(h0:0≤k)(h1:k<((Qag f).length:Int)):∃ j:Nat,N[j]?=some k:=by
 have sh:=Qd1 w.shaped
 have:=QDP sh.nn 0 (Qag f).length (fun x hx=>by obtain ⟨a,b,_⟩:=sh.ng x hx; omega) w.nodes k h0 (by omega)
 obtain ⟨j,hj⟩:=List.getElem?_of_mem this
 exact ⟨j,hj⟩
theorem Qur {N V:List Int}(w:Whole f N V){v:Int}(h0:fPar f≤v)(h1:v<((Qac f).length:Int)):∃ j:Nat,V[j]?=some v:=by
 have sh:=Qd1 w.shaped
 have p0:=sh.par0
 have wv:=w.vars
 have:=QDP sh.vn (fPar f) V.length (fun x hx=>by have:=sh.vg x hx; omega) rfl v h0 (by omega)
 obtain ⟨j,hj⟩:=List.getElem?_of_mem this
 exact ⟨j,hj⟩
theorem to_at {tl:List Int}{k j:Int}(h:tl[k.toNat]?=some j):toOf tl k=j:=by
 rw [toOf,List.getD_eq_getElem?_getD,h]
 rfl
theorem Qrz {nl:List Int}{v j:Int}(h0:0≤v)(h:nl[v.toNat]?=some j):numOf nl v=j:=by
 have:=Qat h
 rw [numOf,if_pos ⟨h0,by omega⟩,List.getD_eq_getElem?_getD,h]
 rfl
theorem QGq (h:Ren f g π σ){N V tl nl tl2 nl2:List Int}(w:Whole f N V)(m:QiX f N V tl nl)(m2:QiX g (N.map π) (V.map σ) tl2 nl2):
  (∀ k:Int,0≤k→k<((Qag f).length:Int)→toOf tl2 (π k)=toOf tl k)∧(∀ v:Int,numOf nl2 (σ v)=numOf nl v):=by
 have sh:=Qd1 w.shaped
 refine ⟨fun k k0 k1=>?_,fun v=>?_⟩
 ·obtain ⟨j,hj⟩:=Qnj w k0 k1
  rw [to_at (m.to j k hj),to_at (m2.to j (π k) (by rw [List.getElem?_map,hj]; rfl))]
 ·by_cases hv:0≤v∧v<((Qac f).length:Int)
  ·by_cases hp:v<fPar f
   ·rw [h.spar v hv.1 hp]
    have a1:=m.par v.toNat (by omega)
    have a2:=m2.par v.toNat (by rw [h.par]; omega)
    rw [Qrz hv.1 a1,Qrz hv.1 a2]
   ·obtain ⟨j,hj⟩:=Qur w (by omega) hv.2
    rw [Qrz hv.1 (m.num j v hj),Qrz ((h.pos v).2 hv.1) (m2.num j (σ v) (by rw [List.getElem?_map,hj]; rfl)),h.par]
  ·rw [h.out v hv,numOf,numOf,if_neg (by rw [m2.nlen,h.vlen]; exact hv),if_neg (by rw [m.nlen]; exact hv)]
theorem QHf (h:Ren f g π σ){N V tl nl tl2 nl2:List Int}(w:Whole f N V)(m:QiX f N V tl nl)(m2:QiX g (N.map π) (V.map σ) tl2 nl2){n:Qab}(hk:∀ x∈kb n,0≤x.1∧x.1<((Qag f).length:Int)):
  tr tl2 nl2 (ren π σ n)=tr tl nl n:=by
 obtain ⟨t1,t2⟩:=QGq h w m m2
 rw [QDS,QDS]
 have e1:(if nOp n≠9∧QaS (nOp n)=true then numOf nl2 (nVar (ren π σ n)) else nVar (ren π σ n))=(if nOp n≠9∧QaS (nOp n)=true then numOf nl (nVar n) else nVar n):=by
  show (if nOp n≠9∧QaS (nOp n)=true then numOf nl2 (if nOp n≠9∧QaS (nOp n)=true then σ (nVar n) else nVar n) else (if nOp n≠9∧QaS (nOp n)=true then σ (nVar n) else nVar n))=_
  split
  ·exact t2 _
  ·rfl
 have e2:∀ l:List Int,(if QaI (nOp n)=true then (if QaI (nOp n)=true then l else l.map σ) else (if QaI (nOp n)=true then l else l.map σ).map (numOf nl2))=(if QaI (nOp n)=true then l else l.map (numOf nl)):=fun l=>by
  split
  ·rfl
  ·rw [List.map_map]
   exact List.map_congr_left fun v _=>t2 v
 have e3:(if nOp n=9 then (nBr (ren π σ n)).map (Qng (toOf tl2) (numOf nl2)) else nBr (ren π σ n))=(if nOp n=9 then (nBr n).map (Qng (toOf tl) (numOf nl)) else nBr n):=by
  show (if nOp n=9 then (if nOp n=9 then (nBr n).map (Qng π σ) else nBr n).map (Qng (toOf tl2) (numOf nl2)) else (if nOp n=9 then (nBr n).map (Qng π σ) else nBr n))=_
  split
  ·rename_i h9
   rw [List.map_map]
   refine List.map_congr_left fun b hb=>?_
   have hr:=hk (b.2,b.1) (by unfold kb; rw [if_pos h9]; exact List.mem_map.2 ⟨b,hb,rfl⟩)
   show (((b.1.map σ).map (numOf nl2)),toOf tl2 (π b.2))=(b.1.map (numOf nl),toOf tl b.2)
   rw [t1 b.2 hr.1 hr.2,List.map_map]
   congr 1
   exact List.map_congr_left fun v _=>t2 v
  ·rfl
 have e4:(if nOp n≠9∧QbY (nOp n)=true then toOf tl2 (Qbg (ren π σ n)) else Qbg (ren π σ n))=(if nOp n≠9∧QbY (nOp n)=true then toOf tl (Qbg n) else Qbg n):=by
  show (if nOp n≠9∧QbY (nOp n)=true then toOf tl2 (if nOp n≠9∧QbY (nOp n)=true then π (Qbg n) else Qbg n) else (if nOp n≠9∧QbY (nOp n)=true then π (Qbg n) else Qbg n))=_
  split
  ·rename_i h9
   have hr:=hk (Qbg n,binds n) (by unfold kb; rw [if_neg h9.1]; unfold kids; rw [if_neg h9.1,if_pos h9.2]; simp)
   exact t1 _ hr.1 hr.2
  ·rfl
 show (nOp n,((if nOp n≠9∧QaS (nOp n)=true then numOf nl2 (nVar (ren π σ n)) else nVar (ren π σ n)),((if QaI (nOp n)=true then (if QaI (nOp n)=true then QaG n else (QaG n).map σ) else (if QaI (nOp n)=true then QaG n else (QaG n).map σ).map (numOf nl2)),(n.2.2.2.1,(n.2.2.2.2.1,(n.2.2.2.2.2.1,((if QaI (nOp n)=true then (if QaI (nOp n)=true then Qbf n else (Qbf n).map σ) else (if QaI (nOp n)=true then Qbf n else (Qbf n).map σ).map (numOf nl2)),(n.2.2.2.2.2.2.2.1,((if nOp n=9 then (nBr (ren π σ n)).map (Qng (toOf tl2) (numOf nl2)) else nBr (ren π σ n)),(if nOp n≠9∧QbY (nOp n)=true then toOf tl2 (Qbg (ren π σ n)) else Qbg (ren π σ n)))))))))))=_
 rw [e1,e2,e2,e3,e4]
 rfl
theorem QGr (h:Ren f g π σ){N V tl nl tl2 nl2:List Int}(w:Whole f N V)(m:QiX f N V tl nl)(m2:QiX g (N.map π) (V.map σ) tl2 nl2):nf g (N.map π) (V.map σ) tl2 nl2=nf f N V tl nl:=by
 have sh:=Qd1 w.shaped
 have e1:(Qac g).take (fPar f).toNat=(Qac f).take (fPar f).toNat:=by
  apply List.ext_getElem?
  intro i
  rw [List.getElem?_take,List.getElem?_take]
  split
  ·rename_i hi
   have p1:=h.par1
   have:=h.var (i:Int) (by omega) (by omega)
   rw [h.spar (i:Int) (by omega) (by omega),Int.toNat_natCast] at this
   exact this
  ·rfl
 have e2:Qnc (Qac g) (V.map σ)=Qnc (Qac f) V:=by
  unfold Qnc
  rw [List.map_map]
  refine List.map_congr_left fun v hv=>?_
  have:=sh.vg v hv
  have p0:=sh.par0
  show ((Qac g)[(σ v).toNat]?).getD (0,false)=_
  rw [h.var v (by omega) this.2]
 have e3:(N.map π).map (fun x=>tr tl2 nl2 (QeJ g x))=N.map fun x=>tr tl nl (QeJ f x):=by
  rw [List.map_map]
  refine List.map_congr_left fun x hx=>?_
  obtain ⟨x0,x1,n,hn,hkb⟩:=sh.ng x hx
  show tr tl2 nl2 (QeJ g (π x))=_
  have a1:QeJ g (π x)=ren π σ n:=by unfold QeJ; rw [h.node x n x0 hn]; rfl
  have a2:QeJ f x=n:=by unfold QeJ; rw [hn]; rfl
  rw [a1,a2]
  exact QHf h w m m2 fun y hy=>(hkb y hy).1
 unfold nf
 rw [h.name,h.par,e1,e2,e3,h.ext]
 show (f.1,(fPar f,(fRes g,_)))=_
 rw [h.res]
end
end Go.Proofs.YtkecfadnfnnfaaaGreatDoor.LabB.V
