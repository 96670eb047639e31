/- RenameMoves: the law of the models. -/
import Derived.Test.YtkecfadnfnnfaaaGreatDoorPlM3
set_option linter.unusedVariables false
set_option linter.unusedSimpArgs false
namespace Go.Proofs.YtkecfadnfnnfaaaGreatDoor.LabB.V
open Go Go.Ev Go.Sy Go.Proofs.YtkecfadnfnnfaaaGreatDoor.LabB
section
variable {f:GFun}
theorem QrA {G:S→Int→Option S}(hg:∀ s k s',G s k=some s'→∃ r,s'.nodes=s.nodes++r):∀ (r:List (Int×List Int)) (s s':S),visL f G r s=some s'→∃ r,s'.nodes=s.nodes++r
 | [],s,s',e=>by cases e; exact ⟨[],by simp⟩
 | (k,l)::r,s,s',e=>by
  unfold visL at e
  split at e
  ·cases e
  split at e
  ·cases e
  split at e
  ·cases e
  rename_i s2 hgo
  obtain ⟨r1,h1⟩:=hg _ _ _ hgo
  obtain ⟨r2,h2⟩:=QrA hg r _ _ e
  exact ⟨r1++r2,by rw [h2,h1,List.append_assoc]⟩
theorem Qus:∀ (d:Nat) (s:S) (k:Int) (s':S),vis f d s k=some s'→∃ r,s'.nodes=s.nodes++k::r
 | 0,s,k,s',e=>by cases e
 | d+1,s,k,s',e=>by
  unfold vis at e
  split at e
  ·cases e
  split at e
  ·obtain ⟨r,h⟩:=QrA (fun s k s' e=>by obtain ⟨r,h⟩:=Qus d s k s' e; exact ⟨k::r,h⟩) _ _ _ e
   exact ⟨r,by rw [h]; simp⟩
  ·cases e
theorem Qut {N V:List Int}(e:Qc4 f=some (N,V))(he:fExt f=false):N[0]?=some (QaM f):=by
 unfold Qc4 at e
 split at e
 ·cases e
 split at e
 ·rename_i h; rw [he] at h; cases h
 split at e
 ·cases e
 split at e
 ·cases e
 rename_i s hv
 cases e
 obtain ⟨r,h⟩:=Qus _ _ _ _ hv
 rw [h]
 rfl
theorem Qj7 {N V tl nl:List Int}(w:Whole f N V)(m:QiX f N V tl nl){v:Int}(h0:0≤v)(h1:v<((Qac f).length:Int)):(v<fPar f∧numOf nl v=v)∨(fPar f≤v∧∃ j:Nat,V[j]?=some v∧numOf nl v=fPar f+(j:Int)):=by
 by_cases hp:v<fPar f
 ·have:=m.par v.toNat (by omega)
  exact .inl ⟨hp,by rw [Qrz h0 this]; omega⟩
 ·obtain ⟨j,hj⟩:=Qur w (by omega) h1
  exact .inr ⟨by omega,j,hj,Qrz h0 (m.num j v hj)⟩
theorem QGs {N V tl nl:List Int}(w:Whole f N V)(m:QiX f N V tl nl)(hb:fExt f=true→QaM f=0):Ren f (nf f N V tl nl) (toOf tl) (numOf nl):=by
 have sh:=Qd1 w.shaped
 have p0:=sh.par0
 have p1:=sh.par1
 have wv:=w.vars
 have htk:((Qac f).take (fPar f).toNat).length=(fPar f).toNat:=by rw [List.length_take]; omega
 have hto:∀ k:Int,0≤k→k<((Qag f).length:Int)→∃ j:Nat,N[j]?=some k∧toOf tl k=(j:Int)∧j<(Qag f).length:=fun k k0 k1=>by
  obtain ⟨j,hj⟩:=Qnj w k0 k1
  exact ⟨j,hj,to_at (m.to j k hj),by rw [← w.nodes]; exact Qat hj⟩
 refine ⟨rfl,rfl,rfl,rfl,?_,?_,⟨fun v v0 v1=>?_,fun v u v0 v1 u0 u1 e=>?_⟩,⟨fun k k0 k1=>?_,fun j k j0 j1 k0 k1 e=>?_⟩,fun v v0 v1=>?_,fun v hv=>?_,fun v v0 v1=>?_,⟨p0,p1⟩,fun k n k0 hn=>?_,fun he=>?_,fun he=>(hb he).symm⟩
 ·show ((Qac f).take (fPar f).toNat++Qnc (Qac f) V).length=_
  rw [List.length_append,htk,Qnc,List.length_map]
  exact wv
 ·show (N.map _).length=_
  rw [List.length_map,w.nodes]
 ·rcases Qj7 w m v0 v1 with ⟨a,e⟩ |⟨a,j,hj,e⟩
  ·rw [e]; exact ⟨v0,v1⟩
  ·have:=Qat hj
   rw [e]
   omega
 ·rcases Qj7 w m v0 v1 with ⟨a,e1⟩ |⟨a,j,hj,e1⟩<;>rcases Qj7 w m u0 u1 with ⟨a',e2⟩ |⟨a',j',hj',e2⟩
  ·omega
  ·omega
  ·omega
  ·have:j=j':=by omega
   subst this
   rw [hj] at hj'
   exact Option.some.inj hj'
 ·obtain ⟨j,a,b,c⟩:=hto k k0 k1
  rw [b]
  omega
 ·obtain ⟨i,a,b,c⟩:=hto j j0 j1
  obtain ⟨i',a',b',c'⟩:=hto k k0 k1
  have:i=i':=by omega
  subst this
  rw [a] at a'
  exact Option.some.inj a'
 ·show ((Qac f).take (fPar f).toNat++Qnc (Qac f) V)[(numOf nl v).toNat]?=_
  rcases Qj7 w m v0 v1 with ⟨a,e⟩ |⟨a,j,hj,e⟩
  ·rw [e,List.getElem?_append_left (by rw [htk]; omega),List.getElem?_take,if_pos (by omega)]
  ·rw [e,List.getElem?_append_right (by rw [htk]; omega),htk,show (fPar f+(j:Int)).toNat - (fPar f).toNat=j by omega,Qnc,List.getElem?_map,hj]
   show some (((Qac f)[v.toNat]?).getD (0,false))=_
   rw [List.getElem?_eq_getElem (by omega)]
   rfl
 ·rw [numOf,if_neg (by rw [m.nlen]; exact hv)]
 ·rcases Qj7 w m v0 (by omega) with ⟨a,e⟩ |⟨a,j,hj,e⟩
  ·exact e
  ·omega
 ·obtain ⟨j,a,b,c⟩:=hto k k0 (by have:=Qat hn; omega)
  rw [b,Int.toNat_natCast]
  show (N.map fun x=>tr tl nl (QeJ f x))[j]?=_
  rw [List.getElem?_map,a]
  show some (tr tl nl (QeJ f k))=_
  rw [QeJ,hn]
  rfl
 ·show (0:Int)=_
  rw [to_at (m.to 0 _ (Qut w.shaped he))]
  rfl
def Qa4 (f:GFun):Int:=((Qag f).length:Int) - 1
def revF (f:GFun):GFun:=(f.1,(fPar f,(f.2.2.1,(Qac f,((Qag f).reverse.map (ren (fun k=>Qa4 f - k) id),(if fExt f=true then QaM f else Qa4 f - QaM f,fExt f))))))
theorem QE8 (p0:0≤fPar f)(p1:fPar f≤((Qac f).length:Int)):Ren f (revF f) (fun k=>Qa4 f - k) id:=by
 refine ⟨rfl,rfl,rfl,rfl,rfl,?_,⟨fun v v0 v1=>⟨v0,v1⟩,fun v u _ _ _ _ e=>e⟩,⟨fun k k0 k1=>?_,fun j k j0 j1 k0 k1 e=>?_⟩,fun v v0 v1=>rfl,fun v hv=>rfl,fun v v0 v1=>rfl,⟨p0,p1⟩,fun k n k0 hn=>?_,fun he=>?_,fun he=>?_⟩
 ·show ((Qag f).reverse.map _).length=_
  simp
 ·unfold Qa4
  omega
 ·have e:Qa4 f - j=Qa4 f - k:=e
  omega
 ·have hk:=Qat hn
  show ((Qag f).reverse.map (ren (fun k=>Qa4 f - k) id))[(Qa4 f - k).toNat]?=_
  rw [List.getElem?_map,List.getElem?_reverse (by unfold Qa4; omega),show (Qag f).length - 1 - (Qa4 f - k).toNat=k.toNat by unfold Qa4; omega,hn]
  rfl
 ·show (if fExt f=true then QaM f else Qa4 f - QaM f)=_
  rw [he,if_neg (by simp)]
 ·show (if fExt f=true then QaM f else Qa4 f - QaM f)=_
  rw [if_pos he]
theorem QBA:∀ (l:List Int) (re re':List Bool),Qlr re l=.inr re'→∀ i:Nat,New re re' i→∃ k∈l,k.toNat=i:=fun l re re' h i hi=>by
 have:=((Qls l re re' h).2 i).1 hi.2
 rcases this with h1 |h1
 ·rw [hi.1] at h1; cases h1
 ·exact h1
theorem Qqj {G:List Bool→List Bool→List Bool→Int→Int⊕(List Bool×List Bool)}{P:Nat→Prop}
  (hk:∀ re bo sc k re' bo',G re bo sc k=.inr (re',bo')→Le re re'∧Le bo bo')
  (hg:∀ re bo sc k re' bo',G re bo sc k=.inr (re',bo')→P k.toNat∧∀ i,New re re' i→P i):∀ (r:List (Int×List Int)) (re bo sc re' bo':List Bool),Qjf G r re bo sc=.inr (re',bo')→(∀ x∈r,P x.1.toNat)∧∀ i,New re re' i→P i
 | [],re,bo,sc,re',bo',e=>by
  cases e
  refine ⟨fun x hx=>by simp at hx,fun i hi=>?_⟩
  have:=hi.1.symm.trans hi.2
  cases this
 | (k,l)::r,re,bo,sc,re',bo',e=>by
  unfold Qjf at e
  split at e
  ·cases e
  rename_i re3 bo3 hgo
  obtain ⟨a1,a2⟩:=hg _ _ _ _ _ _ hgo
  obtain ⟨b1,b2⟩:=Qqj hk hg r _ _ _ _ _ e
  refine ⟨fun x hx=>?_,fun i hi=>?_⟩
  ·rcases List.mem_cons.1 hx with rfl |hx
   ·exact a1
   ·exact b1 x hx
  ·have hle:=(hk _ _ _ _ _ _ hgo).1
   have hi1:=Qat hi.1
   rcases false_or (l:=re3) (i:=i) (by rw [← hle.1]; exact hi1) with h3 |h3
   ·exact b2 i ⟨h3,hi.2⟩
   ·exact a2 i ⟨hi.1,h3⟩
theorem QrB (p:Qae)(f:GFun):∀ (d:Nat) (re bo sc:List Bool) (k:Int) (re' bo':List Bool),walk p f d re bo sc k=.inr (re',bo')→(∀ n,(Qag f)[k.toNat]?=some n→Qcd n=true)∧∀ i,New re re' i→∀ n,(Qag f)[i]?=some n→Qcd n=true
 | 0,re,bo,sc,k,re',bo',e=>by cases e
 | d+1,re,bo,sc,k,re',bo',e=>by
  unfold walk at e
  split at e
  ·cases e
  rename_i n hn
  split at e
  ·cases e
  rename_i bo3 hal
  split at e
  ·cases e
  rename_i re3 hmk
  obtain ⟨b1,b2⟩:=Qqj (P:=fun i=>∀ n,(Qag f)[i]?=some n→Qcd n=true) (Qfs p f d) (QrB p f d) _ _ _ _ _ _ e
  refine ⟨fun m hm=>?_,fun i hi=>?_⟩
  ·rw [hn] at hm
   cases hm
   exact (QhZ hal).1
  ·have hle:=(QiF _ _ _ hmk).1
   have hi1:=Qat hi.1
   rcases false_or (l:=re3) (i:=i) (by rw [← hle.1]; exact hi1) with h3 |h3
   ·exact b2 i ⟨h3,hi.2⟩
   ·obtain ⟨x,hx,ex⟩:=QBA _ _ _ hmk i ⟨hi.1,h3⟩
    rw [QbW] at hx
    obtain ⟨y,hy,rfl⟩:=List.mem_map.1 hx
    rw [← ex]
    exact b1 y hy
theorem Qv3 {p:Qae}{k:Nat}{f:GFun}(h:chkF p k f=0):∀ n∈Qag f,Qcd n=true:=by
 intro n hn
 obtain ⟨i,hi⟩:=List.getElem?_of_mem hn
 have hil:=Qat hi
 unfold chkF at h
 split at h
 ·rename_i h1; exact absurd h h1
 rename_i hh
 have hh:hdr p k f=0:=by simpa using hh
 obtain ⟨ho,hbody,hext,_⟩:=Qrv hh
 split at h
 ·rename_i he
  rw [(hext he).1] at hn
  simp at hn
 ·split at h
  ·rename_i e hw
   exact absurd h (Qot p f _ _ _ _ _ _ hw)
  ·rename_i re bo hw
   split at h
   ·cases h
   rename_i hre
   obtain ⟨a1,a2⟩:=QrB p f _ _ _ _ _ _ _ hw
   have hk:=(Qfs p f _ _ _ _ _ _ _ hw).1.1
   by_cases e:i=(QaM f).toNat
   ·subst e
    exact a1 n hi
   ·refine a2 i ⟨?_,all_true (by simpa using hre) (by rw [← hk]; simpa using hil)⟩ n hi
    rw [List.getElem?_set_ne (fun x=>e x.symm),List.getElem?_replicate,if_pos hil]
end
end Go.Proofs.YtkecfadnfnnfaaaGreatDoor.LabB.V
namespace Go.Proofs.YtkecfadnfnnfaaaGreatDoor.LabB.V
open Go Go.Ev Go.Sy Go.Proofs.YtkecfadnfnnfaaaGreatDoor.LabB
section
variable (v0:List GVar) (v1 v2:List Qab) (v4:GFun) (v5:List UInt8) (v6 v7 v8:Int) (v9:Bool) (v10:List UInt8) (v11 v12:Int) (v13:List GVar) (v14:Int) (v15:Bool)
theorem QGt (n:Qab)(last i:Int)(hl:(nBr n).length≤1000)(hla:last≤1000)(hb:∀ b∈nBr n,0≤b.2∧b.2≤last):∀ (r pre acc:List Qak),nBr n=pre++r→acc.length≤pre.length→
  QcY v0 v1 v2 acc v4 v5 v6 v7 v8 v9 v10 v11 v12 v13 v14 v15 n last i (pre.length:Int)=some (acc++r.map fun b=>(b.1,last - b.2)):=by
 intro r
 induction r with
 | nil=>
  intro pre acc h ha
  have hN:n.2.2.2.2.2.2.2.2.1=pre:=by rw [← List.append_nil pre]; exact h
  rw [QfB,hN,Qaf (by omega)]
  simp
 | cons x r ih=>
  intro pre acc h ha
  have hN:n.2.2.2.2.2.2.2.2.1=pre++x::r:=h
  have hlen:(pre++x::r).length≤1000:=by rw [← h]; exact hl
  have hp:(pre++x::r).length=pre.length+(r.length+1):=by simp
  obtain ⟨t0,t1⟩:=hb x (by rw [h]; simp)
  rw [QfB,hN,QcZ (QjF pre x r),QhJ,Qaa,Qad (by omega),QiM (pre:=pre) (x:=x) (r:=r) (by omega),QfI (by omega) (by omega),ih (pre++[x]) (acc++[(x.1,last - x.2)]) (by rw [h]; simp) (by simp; omega)]
  simp
end
theorem Quu {α:Type}(b:Prop)[Decidable b](l:List α):(if b then l else l.map id)=l:=by
 split
 ·rfl
 ·simp
theorem Qxr (last:Int)(n:Qab)(h:Qcd n=true):ren (fun k=>last - k) id n=(n.1,(n.2.1,(n.2.2.1,(n.2.2.2.1,(n.2.2.2.2.1,(n.2.2.2.2.2.1,(n.2.2.2.2.2.2.1,(n.2.2.2.2.2.2.2.1,((nBr n).map fun b=>(b.1,last - b.2),if nOp n≠9∧QbY (nOp n)=true then last - Qbg n else Qbg n))))))))):=by
 unfold ren
 rw [Quu,Quu]
 have e1:(if nOp n≠9∧QaS (nOp n)=true then id (nVar n) else nVar n)=nVar n:=by split<;>rfl
 have e2:(if nOp n=9 then (nBr n).map (Qng (fun k=>last - k) id) else nBr n)=(nBr n).map fun b=>(b.1,last - b.2):=by
  rcases QBy h with h9 |h0
  ·rw [if_pos h9]
   refine List.map_congr_left fun b _=>?_
   show ((b.1.map id),last - b.2)=_
   rw [List.map_id]
  ·rw [h0]
   simp
 rw [e1,e2]
theorem QE9 {α:Type}(k:Nat)(d y:α)(X:List α):(List.replicate (k+1) d++X).set k y=List.replicate k d++y::X:=by
 rw [List.replicate_succ',List.append_assoc,List.set_append_right _ _ (by simp)]
 simp
section
variable (v0:List GVar) (v1:List Qab) (f:GFun) (v4:List UInt8) (v5 v6 v7:Int) (v8:Bool) (v9:List UInt8) (v10 v11:Int) (v12:List GVar) (v13:Int) (v14:Bool)
theorem QGu (hf:Small f)(hform:∀ n∈Qag f,Qcd n=true)(hk:∀ n∈Qag f,∀ x∈kb n,0≤x.1∧x.1<((Qag f).length:Int))(d:Qab):∀ (j i:Nat) (acc:List Qab),i+j=(Qag f).length→
  acc=List.replicate j d++((Qag f).take i).reverse.map (ren (fun k=>Qa4 f - k) id)→
  QcX v0 v1 acc f v4 v5 v6 v7 v8 v9 v10 v11 v12 v13 v14 (Qa4 f) (i:Int)=some ((Qag f).reverse.map (ren (fun k=>Qa4 f - k) id))
 | 0,i,acc,hi,ha=>by
  rw [QfA,Qad (by unfold Qa4; omega),ha,List.take_of_length_le (by omega)]
  rfl
 | j+1,i,acc,hi,ha=>by
  have hc:=hf.code
  have hil:i<(Qag f).length:=by omega
  have hn:(Qag f)[i]?=some (Qag f)[i]:=List.getElem?_eq_getElem hil
  have hm:=List.mem_of_getElem? hn
  revert hn hm
  generalize (Qag f)[i]=n
  intro hn hm
  have sn:=hf.nodes n hm
  have fo:=hform n hm
  have hkn:=hk n hm
  have hla:Qa4 f=((Qag f).length:Int) - 1:=rfl
  have hsub:Ev.wr .i64 (Qa4 f - (i:Int))=((j:Nat):Int):=by rw [QfI (by omega) (by omega)]; omega
  have hcond:(Option.bind (Qep n) fun v18=>bif (decide ((0:Int)<(v18.length:Int))) then some (!(decide (n.1=(9:Int)))) else some false)=some (decide (nOp n≠9∧QbY (nOp n)=true)):=by
   rw [QhY n sn,Qaa,Qaj]
   congr 1
   unfold kids
   by_cases h9:nOp n=9
   ·rw [if_pos h9,show decide (n.1=(9:Int))=true from Qc1 h9,show decide (nOp n≠9∧QbY (nOp n)=true)=false from Qa7 (fun x=>x.1 h9)]
    simp
   ·rw [if_neg h9,show decide (n.1=(9:Int))=false from Qa7 h9]
    by_cases hx:QbY (nOp n)=true
    ·rw [if_pos hx,show decide (nOp n≠9∧QbY (nOp n)=true)=true from Qc1 ⟨h9,hx⟩]
     rfl
    ·rw [if_neg hx,show decide (nOp n≠9∧QbY (nOp n)=true)=false from Qa7 (fun x=>hx x.2)]
     rfl
  have hbr:∀ b∈nBr n,0≤b.2∧b.2≤Qa4 f:=fun b hb=>by
   rcases QBy fo with h9 |h0
   ·have:=hkn (b.2,b.1) (by unfold kb; rw [if_pos h9]; exact List.mem_map.2 ⟨b,hb,rfl⟩)
    simp only at this
    omega
   ·rw [h0] at hb
    simp at hb
  have hbl:(nBr n).length≤1000:=Nat.le_trans sn.br (by decide)
  have hal:acc.length=j+1+i:=by
   rw [ha]
   simp
   omega
  rw [QfA,Qaf (by omega),Qao hn,Qaa,hcond,Qaa]
  have hset:acc.set j (ren (fun k=>Qa4 f - k) id n)=List.replicate j d++((Qag f).take (i+1)).reverse.map (ren (fun k=>Qa4 f - k) id):=by
   rw [ha,QE9,List.take_add_one,hn]
   simp
  have hwi:Ev.wr .i64 ((i:Int)+1)=((i+1:Nat):Int):=Sy.Qeb (by omega)
  obtain ⟨y,hy,_⟩:=Qeg (l:=acc) (i:=((j:Nat):Int)) (by omega) (by omega)
  have next:=QGu hf hform hk d j (i+1) _ (by omega) hset
  by_cases hb:nOp n≠9∧QbY (nOp n)=true
  ·have hx:=hkn (Qbg n,binds n) (by unfold kb; rw [if_neg hb.1]; unfold kids; rw [if_neg hb.1,if_pos hb.2]; simp)
   simp only at hx
   have hwn:Ev.wr .i64 (Qa4 f - n.2.2.2.2.2.2.2.2.2)=Qa4 f - Qbg n:=QfI (by show _≤Qa4 f - Qbg n; omega) (by show Qa4 f - Qbg n≤_; omega)
   rw [Qc1 hb,cond_true,Qaa,hwn]
   have e:=QGt v0 v1 acc f v4 v5 v6 v7 v8 v9 v10 v11 v12 v13 v14 (n.1,(n.2.1,(n.2.2.1,(n.2.2.2.1,(n.2.2.2.2.1,(n.2.2.2.2.2.1,(n.2.2.2.2.2.2.1,(n.2.2.2.2.2.2.2.1,(n.2.2.2.2.2.2.2.2.1,Qa4 f - Qbg n))))))))) (Qa4 f) (i:Int) hbl (by omega) hbr (nBr n) [] [] rfl (by simp)
   rw [show ((([]:List Qak).length:Nat):Int)=(0:Int) from rfl] at e
   rw [e,Qaa,hsub,hy,Qaa,hwi,Int.toNat_natCast]
   have er:=Qxr (Qa4 f) n fo
   rw [if_pos hb] at er
   rw [er] at next
   exact next
  ·rw [Qa7 hb,cond_false,Qaa]
   have e:=QGt v0 v1 acc f v4 v5 v6 v7 v8 v9 v10 v11 v12 v13 v14 n (Qa4 f) (i:Int) hbl (by omega) hbr (nBr n) [] [] rfl (by simp)
   rw [show ((([]:List Qak).length:Nat):Int)=(0:Int) from rfl] at e
   rw [e,Qaa,hsub,hy,Qaa,hwi,Int.toNat_natCast]
   have er:=Qxr (Qa4 f) n fo
   rw [if_neg hb] at er
   rw [er] at next
   exact next
end
theorem QsV (f:GFun)(hf:Small f)(hform:∀ n∈Qag f,Qcd n=true)(hk:∀ n∈Qag f,∀ x∈kb n,0≤x.1∧x.1<((Qag f).length:Int))(hb:fExt f=false→0≤QaM f∧QaM f<((Qag f).length:Int)):Qcw f=some (revF f):=by
 have hc:=hf.code
 have hc':f.2.2.2.2.1.length≤80:=hc
 have hla:Ev.wr .i64 ((f.2.2.2.2.1.length:Int) - 1)=Qa4 f:=by rw [QfI (by omega) (by omega)]; rfl
 rw [Qm8,Qaf (by omega),Qad (by omega),hla]
 have e:=QGu ([]:List GVar) ([]:List Qab) f ([]:List UInt8) 0 0 0 false f.1 f.2.1 f.2.2.1 f.2.2.2.1 f.2.2.2.2.2.1 f.2.2.2.2.2.2 hf hform hk ((0:Int),((0:Int),(([]:List (Int)),((0:Int),((0:Int),((0:Int),(([]:List (Int)),(false,(([]:List (Qak)),(0:Int)))))))))) (Qag f).length 0 _ (by omega) rfl
 rw [List.take_zero,List.reverse_nil,List.map_nil,List.append_nil] at e
 rw [Int.toNat_natCast]
 refine Eq.trans (congrArg (fun o=>Option.bind o _) e) ?_
 rw [Qaa]
 cases he:f.2.2.2.2.2.2 with
 | true=>
  rw [cond_true,Qaa]
  show some (f.1,(f.2.1,(f.2.2.1,(f.2.2.2.1,(_,(f.2.2.2.2.2.1,true))))))=some (revF f)
  unfold revF
  rw [show fExt f=true from he,if_pos rfl]
 | false=>
  obtain ⟨b0,b1⟩:=hb he
  rw [cond_false,QfI (by show _≤Qa4 f - QaM f; unfold Qa4; omega) (by show Qa4 f - QaM f≤_; unfold Qa4; omega),Qaa]
  show some (f.1,(f.2.1,(f.2.2.1,(f.2.2.2.1,(_,(Qa4 f - QaM f,false))))))=some (revF f)
  unfold revF
  rw [show fExt f=false from he,if_neg (by simp)]
end Go.Proofs.YtkecfadnfnnfaaaGreatDoor.LabB.V
namespace Go.Proofs.YtkecfadnfnnfaaaGreatDoor.LabB.V
open Go Go.Ev Go.Sy Go.Proofs.YtkecfadnfnnfaaaGreatDoor.LabB
section
variable {f g:GFun} {π σ:Int→Int}
theorem Ren.take (h:Ren f g π σ):(Qac g).take (fPar f).toNat=(Qac f).take (fPar f).toNat:=by
 apply List.ext_getElem?
 intro i
 rw [List.getElem?_take,List.getElem?_take]
 split
 ·rename_i hi
  have p1:=h.par1
  have:=h.var (i:Int) (by omega) (by omega)
  rw [h.spar (i:Int) (by omega) (by omega),Int.toNat_natCast] at this
  exact this
 ·rfl
theorem QBB {n:Qab}(h:QaQ n):QaQ (ren π σ n):=by
 refine ⟨by rw [QnR]; exact h.args,by rw [QnS]; exact h.more,by rw [Qni]; exact h.br,fun b hb=>?_⟩
 have hb:b∈(if nOp n=9 then (nBr n).map (Qng π σ) else nBr n):=hb
 split at hb
 ·obtain ⟨c,hc,rfl⟩:=List.mem_map.1 hb
  show (c.1.map σ).length≤_
  rw [List.length_map]
  exact h.bs c hc
 ·exact h.bs b hb
theorem Ren.small (h:Ren f g π σ)(hf:Small f):Small g:=by
 refine ⟨by rw [h.clen]; exact hf.code,by rw [h.vlen]; exact hf.vars,fun n hn=>?_⟩
 obtain ⟨i,hi⟩:=List.getElem?_of_mem hn
 obtain ⟨k,hk,ek⟩:=h.bn.surj i (by rw [← h.clen]; exact Qat hi)
 have:=h.node (k:Int) (Qag f)[k] (by omega) (by rw [Int.toNat_natCast]; exact List.getElem?_eq_getElem hk)
 rw [ek,Int.toNat_natCast,hi] at this
 cases this
 exact QBB (hf.nodes _ (List.getElem_mem hk))
theorem Qv4 (hf:Small f){N V:List Int}(w:Whole f N V):∃ tl nl,QiX f N V tl nl∧Qbb f=some (nf f N V tl nl,0)∧norm f=nf f N V tl nl:=by
 obtain ⟨tl,nl,h1,h2⟩:=QBm f hf w.shaped
 have:=QvW f hf w.shaped h1 h2
 exact ⟨tl,nl,h2,this,by unfold norm; rw [this]⟩
theorem Qxs (h:Ren f g π σ)(hf:Small f){N V:List Int}(w:Whole f N V):norm g=norm f:=by
 obtain ⟨tl,nl,m,_,e⟩:=Qv4 hf w
 have w2:Whole g (N.map π) (V.map σ):=⟨QyI h w.shaped,by rw [List.length_map,h.clen]; exact w.nodes,by rw [List.length_map,h.par,h.vlen]; exact w.vars⟩
 obtain ⟨tl2,nl2,m2,_,e2⟩:=Qv4 (h.small hf) w2
 rw [e,e2]
 exact QGr h w m m2
end
def Like (f g:GFun):Prop:=∃ π σ,Ren f g π σ
theorem QBC (p:Qae):∀ (fs:List GFun) (i:Nat),(∀ (j:Nat) f,fs[j]?=some f→chkF p (i+j) f=0)→chkL p i fs=0
 | [],i,h=>rfl
 | g::fs,i,h=>by
  have h0:=h 0 g rfl
  rw [Nat.add_zero] at h0
  rw [chkL,if_pos h0]
  exact QBC p fs (i+1) fun j f hf=>by
   have:=h (j+1) f (by simpa using hf)
   rw [show i+(j+1)=i+1+j by omega] at this
   exact this
section
variable {p:Qae} {R:GFun→GFun}
theorem QGv (h:∀ f∈p.2,Like f (R f)):Sig p (p.1,p.2.map R):=by
 have hat:∀ t:Int,(p.2.map R)[t.toNat]?=(p.2[t.toNat]?).map R:=fun t=>List.getElem?_map ..
 refine ⟨rfl,by simp,?_,fun t=>?_,fun t=>?_⟩
 ·rw [List.map_map]
  refine List.map_congr_left fun f hf=>?_
  obtain ⟨π,σ,r⟩:=h f hf
  exact r.name
 ·unfold QfN
  show (match (p.2.map R)[t.toNat]? with |none=>none |some h=>_)=_
  rw [hat]
  cases hp:p.2[t.toNat]? with
  | none=>rfl
  | some f=>
   obtain ⟨π,σ,r⟩:=h f (List.mem_of_getElem? hp)
   show (if fPar (R f)<0∨((Qac (R f)).length:Int)<fPar (R f) then none else some (((Qac (R f)).take (fPar (R f)).toNat).map (·.1)))=_
   rw [r.par,r.vlen,r.take]
 ·unfold QsR
  show (match (p.2.map R)[t.toNat]? with |some h=>fRes h |none=>0)=_
  rw [hat]
  cases hp:p.2[t.toNat]? with
  | none=>rfl
  | some f=>
   obtain ⟨π,σ,r⟩:=h f (List.mem_of_getElem? hp)
   exact r.res
theorem QDU (h:∀ f∈p.2,Like f (R f))(hc:chk p=0):chk (p.1,p.2.map R)=0:=by
 have hs:=QGv h
 have hfs:=Qxj hc
 unfold chk at hc ⊢
 split at hc
 ·rename_i h1; exact absurd hc h1
 rename_i h1
 split at hc
 ·cases hc
 rename_i h2
 rw [if_neg h1]
 show (if 128<((p.2.map R).length:Int) then 6 else chkL (p.1,p.2.map R) 0 (p.2.map R))=0
 rw [List.length_map,if_neg h2]
 refine QBC _ _ 0 fun j g hg=>?_
 rw [List.getElem?_map] at hg
 cases hj:p.2[j]? with
 | none=>rw [hj] at hg; cases hg
 | some f=>
  rw [hj] at hg
  cases hg
  obtain ⟨π,σ,r⟩:=h f (List.mem_of_getElem? hj)
  rw [Nat.zero_add]
  exact QDt r hs j (hfs j f hj)
theorem QDV (h:∀ f∈p.2,Like f (R f))(hp:FewP p):FewP (p.1,p.2.map R):=by
 refine ⟨hp.Qj4,hp.names,hp.cons,by show (p.2.map R).length≤6; rw [List.length_map]; exact hp.len,fun g hg=>?_⟩
 obtain ⟨f,hf,rfl⟩:=List.mem_map.1 hg
 obtain ⟨π,σ,r⟩:=h f hf
 obtain ⟨h1,h2⟩:=hp.funs f hf
 exact ⟨by rw [r.name]; exact h1,r.small h2⟩
end
theorem facts {p:Qae}(hp:FewP p)(hc:chk p=0){j:Nat}{f:GFun}(hf:p.2[j]?=some f):Small f∧(∃ N V,Whole f N V)∧Like f (revF f)∧Like f (norm f)∧Qcw f=some (revF f)∧Qbb f=some (norm f,0):=by
 have hm:=List.mem_of_getElem? hf
 have hs:=(hp.funs f hm).2
 have hcf:=Qxj hc j f hf
 obtain ⟨N,V,w⟩:=QvY p j f hcf
 have sh:=Qd1 w.shaped
 obtain ⟨tl,nl,m,e1,e2⟩:=Qv4 hs w
 have hh:hdr p j f=0:=by
  unfold chkF at hcf
  split at hcf
  ·rename_i h1; exact absurd hcf h1
  ·rename_i h1; simpa using h1
 obtain ⟨ho,hbody,hext,_,_,_,heb⟩:=Qrv hh
 have hkb:∀ n∈Qag f,∀ y∈kb n,0≤y.1∧y.1<((Qag f).length:Int):=fun n hn y hy=>by
  obtain ⟨i,hi⟩:=List.getElem?_of_mem hn
  have hil:=Qat hi
  obtain ⟨k,hk⟩:=Qnj w (k:=(i:Int)) (by omega) (by omega)
  obtain ⟨_,_,m,hm,hg⟩:=sh.ng (i:Int) (List.mem_of_getElem? hk)
  rw [Int.toNat_natCast,hi] at hm
  cases hm
  exact (hg y hy).1
 refine ⟨hs,⟨N,V,w⟩,⟨_,_,QE8 sh.par0 sh.par1⟩,⟨toOf tl,numOf nl,?_⟩,QsV f hs (Qv3 hcf) hkb hbody,by rw [e1,e2]⟩
 rw [e2]
 exact QGs w m heb
theorem Qqk (a b:Qae)(ha:FewP a)(hb:FewP b)(h1:chk a=0)(h2:chk b=0)(hd:a.1=b.1)(hl:a.2.length=b.2.length)(hn:∀ (i:Nat) f g,a.2[i]?=some f→b.2[i]?=some g→norm f=norm g):Qcg a b=some true:=by
 have hal:=ha.len
 have hbl:=hb.len
 rw [Qqv,Qmu a ha.small,Qmu b hb.small,h1,h2,QvZ a.1 b.1 ha.smD,Qi2]
 have e1:Qa2 b.2 a.2 (a.2.length:Int) 0=some (if allI (QyH b) 0 a.2=true then .inl () else .inr ()):=by
  refine QjG (L:=fun i=>Qa2 b.2 a.2 (a.2.length:Int) i) (fun i f hf=>?_) ?_
  ·obtain ⟨g,hg⟩:=QBs hl hf
   obtain ⟨sf,_,_,⟨π,σ,rf'⟩,_,h3⟩:=facts ha h1 hf
   obtain ⟨_,_,_,_,_,h4⟩:=facts hb h2 hg
   have sx:=rf'.small sf
   rw [Qdl,Qaz hf,cond_true,Qao hf,Qaa,Qao hg,Qaa,QnZ,h3,h4]
   simp only [Qaa]
   rw [QBv _ _ sx.code sx.vars sx.nodes]
   simp only [Qaa]
   rw [QDp hg rfl rfl,QaC hf (by omega),Qan]
  ·rw [Qdl,QaF,cond_false]
 have e2:∀ (l:List GFun) (i:Nat),(∀ (j:Nat) f,l[j]?=some f→QyH b (i+j) f=true)→allI (QyH b) i l=true:=by
  intro l
  induction l with
  | nil=>intro i _; rfl
  | cons f l ih=>
   intro i h
   rw [allI]
   have h0:=h 0 f rfl
   rw [Nat.add_zero] at h0
   rw [h0,Bool.true_and]
   exact ih (i+1) fun j g hg=>by
    have:=h (j+1) g (by simpa using hg)
    rw [show i+(j+1)=i+1+j by omega] at this
    exact this
 have e3:=e2 a.2 0 fun j f hf=>by
  obtain ⟨g,hg⟩:=QBs hl hf
  rw [Nat.zero_add]
  unfold QyH
  rw [hg]
  exact decide_eq_true (hn j f g hf hg)
 rw [e3] at e1
 have hd':decide (a.1=b.1)=true:=decide_eq_true hd
 have hl':decide ((a.2.length:Int)=(b.2.length:Int))=true:=decide_eq_true (by omega)
 rw [hd',hl',e1]
 rfl
theorem QGw (p:Qae)(hlen:p.2.length≤6)(h:∀ f∈p.2,Qcw f=some (revF f)∧Qbb f=some (norm f,0)):∀ (r pre a b:List GFun),p.2=pre++r→a=pre.map revF→b=pre.map norm→
  Qb2 a b p p.1 p.1 (pre.length:Int)=some (.inr (p.2.map revF,p.2.map norm)):=by
 intro r
 induction r with
 | nil=>
  intro pre a b hp ha hb
  rw [List.append_nil] at hp
  rw [Qez,hp,Qaf (by omega),ha,hb]
 | cons f r ih=>
  intro pre a b hp ha hb
  have hl:(pre++f::r).length≤6:=by rw [← hp]; exact hlen
  have hpl:(pre++f::r).length=pre.length+(r.length+1):=by simp
  obtain ⟨h1,h2⟩:=h f (by rw [hp]; simp)
  have hal:a.length=pre.length:=by rw [ha]; simp
  have hbl:b.length=pre.length:=by rw [hb]; simp
  have e:=ih (pre++[f]) (a++[revF f]) (b++[norm f]) (by rw [hp]; simp) (by rw [ha]; simp) (by rw [hb]; simp)
  rw [Qez,hp,QcZ (QjF pre f r),QhJ,Qaa,h2]
  simp only [Qaa]
  rw [decide_true,cond_true,h1,Qaa,Qad (by omega),Qad (by omega),QiM (pre:=pre) (x:=f) (r:=r) (by omega),← hp]
  exact e
theorem QHg (hawake:Qil=some true)(p:Qae):Qe1 p=some true:=by
 rw [QkF,hawake,Qaa,cond_true]
 obtain ⟨x,hx,hx2⟩:=QDo p
 rw [hx,Qaa]
 cases x with
 | false=>rfl
 | true=>
  have hp:=hx2 rfl
  rw [cond_true,Qmu p hp.small,Qaa,Qaa]
  by_cases hc:chk p=0
  ·rw [hc]
   show (bif false then _ else _)=_
   rw [cond_false]
   have hmem:∀ f∈p.2,Small f∧(∃ N V,Whole f N V)∧Like f (revF f)∧Like f (norm f)∧Qcw f=some (revF f)∧Qbb f=some (norm f,0):=fun f hf=>by
    obtain ⟨i,hi⟩:=List.getElem?_of_mem hf
    exact facts hp hc hi
   have l1:∀ f∈p.2,Like f (revF f):=fun f hf=>(hmem f hf).2.2.1
   have l2:∀ f∈p.2,Like f (norm f):=fun f hf=>(hmem f hf).2.2.2.1
   have e:=QGw p hp.len (fun f hf=>(hmem f hf).2.2.2.2) p.2 [] [] [] rfl rfl rfl
   rw [show ((([]:List GFun).length:Nat):Int)=(0:Int) from rfl] at e
   rw [e,Qaa]
   simp only
   have c1:=QDU l1 hc
   have c2:=QDU l2 hc
   have f1:=QDV l1 hp
   have f2:=QDV l2 hp
   have n1:∀ f∈p.2,norm (revF f)=norm f:=fun f hf=>by
    obtain ⟨hs,⟨N,V,w⟩,⟨π,σ,r⟩,_⟩:=hmem f hf
    exact Qxs r hs w
   have n2:∀ f∈p.2,norm (norm f)=norm f:=fun f hf=>by
    obtain ⟨hs,⟨N,V,w⟩,_,⟨π,σ,r⟩,_⟩:=hmem f hf
    exact Qxs r hs w
   have hat:∀ (R:GFun→GFun) (i:Nat) g,(p.2.map R)[i]?=some g→∃ f,p.2[i]?=some f∧g=R f∧f∈p.2:=fun R i g hg=>by
    rw [List.getElem?_map] at hg
    cases hj:p.2[i]? with
    | none=>rw [hj] at hg; cases hg
    | some f=>rw [hj] at hg; cases hg; exact ⟨f,rfl,rfl,List.mem_of_getElem? hj⟩
   have s1:Qcg p (p.1,p.2.map revF)=some true:=Qqk _ _ hp f1 hc c1 rfl (by simp) fun i f g hf hg=>by
    obtain ⟨f',hf',rfl,hm⟩:=hat revF i g hg
    rw [hf] at hf'
    cases hf'
    exact (n1 f hm).symm
   have s2:Qcg p (p.1,p.2.map norm)=some true:=Qqk _ _ hp f2 hc c2 rfl (by simp) fun i f g hf hg=>by
    obtain ⟨f',hf',rfl,hm⟩:=hat norm i g hg
    rw [hf] at hf'
    cases hf'
    exact (n2 f hm).symm
   have s3:Qcg (p.1,p.2.map norm) (p.1,p.2.map revF)=some true:=Qqk _ _ f2 f1 c2 c1 rfl (by simp) fun i f g hf hg=>by
    obtain ⟨x,hx,rfl,hm⟩:=hat norm i f hf
    obtain ⟨y,hy,rfl,hm2⟩:=hat revF i g hg
    rw [hx] at hy
    cases hy
    rw [n1 x hm,n2 x hm]
   rw [Qmu _ f1.small,c1,Qmu _ f2.small,c2,s1,s2,s3]
   rfl
  ·rw [Qa7 hc]
   rfl
end Go.Proofs.YtkecfadnfnnfaaaGreatDoor.LabB.V
