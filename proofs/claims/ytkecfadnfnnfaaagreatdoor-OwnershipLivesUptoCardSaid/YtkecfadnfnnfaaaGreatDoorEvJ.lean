/- How arguments are read whose bulk is bounded: no text and no list is longer than the bound. -/
import Derived.Test.YtkecfadnfnnfaaaGreatDoorEvK
import Derived.DataReads
import Derived.ChangeArms
import Derived.ProofKit
set_option linter.unusedVariables false
set_option linter.unusedSimpArgs false
namespace Go.Ev
open Go.RowKit
def QfV (w:World):Imm:=fun b o=>w.cell? ⟨b,o,none⟩
theorem Qrl (w:World):Qft (QfV w) w:=⟨fun _ _ _ h=>h⟩
def Qyn (p:TypeId→Bool)(c:Ctx):List (Nat×TypeId)→Nat→Nat→Bool
 | [],o,z=>Nat.beq o z
 | q::fs,o,z=>Nat.beq q.1 o&&p q.2&&Qyn p c fs (o+(c.ty q.2).size) z
def Qlk (c:Ctx):Nat→TypeId→Bool
 | 0,_=>false
 | n+1,t=>match (c.ty t).d with
  | .int _=>true
  | .bool=>true
  | .str=>true
  | .slice e=>Qlk c n e&&Nat.ble 1 (c.ty e).size
  | .Qbk fs=>Qyn (Qlk c n) c fs 0 (c.ty t).size
  | _=>false
def Qo0 (p:TypeId→List AV→Prop):List (Nat×TypeId)→List AV→Prop
 | [],cs=>cs=[]
 | q::fs,cs=>∃ a b,cs=a++b∧p q.2 a∧Qo0 p fs b
def Typed (c:Ctx):Nat→TypeId→List AV→Prop
 | 0,_,_=>False
 | n+1,t,cs=>match (c.ty t).d with
  | .int k=>∃ m,cs=[.int k m]∧k.has m
  | .bool=>∃ b,cs=[.bool b]
  | .str=>∃ s,cs=[.str s]∧s.length≤maxLen
  | .slice e=>∃ es,cs=[.lst es]∧es.length≤maxLen∧∀ r∈es,Typed c n e r
  | .Qbk fs=>Qo0 (Typed c n) fs cs
  | _=>False
section
variable {P:Program} {c:Ctx} {w:World} {H:Type} {enc:TypeId×Value→H}
theorem Qzt {base:Nat}{a:Addr}{n:Nat}{cs:List Value}(h:w.cells? base a n=some cs)(hn:0<n):a.spot=none:=by
 obtain ⟨h1,h2,h3⟩:=World.cells?_some h
 have h0:=h3 0 hn
 simp only [Addr.add,if_true] at h0
 cases hs:a.spot with
 | none=>rfl
 | some s=>
  have hnone:w.cell? a=none:=by unfold World.cell?; split<;>simp_all
  rw [hnone] at h0
  have:0<cs.length:=by omega
  rw [List.getElem?_eq_getElem this] at h0
  cases h0
structure QHt (c:Ctx)(w:World)(n:Nat)(t:TypeId)(vs:List Value)(cs:List AV):Prop where
 typed:Typed c n t cs
 len:cs.length=vs.length
 size:vs.length=(c.ty t).size
 cell:∀ x∈cs,x.Qax=true
 at_:∀ (j:Nat) (x:AV) (v:Value),cs[j]?=some x→vs[j]?=some v→VRel (QfV w) ρ0 x v
end
end Go.Ev
namespace Go.Ev
open Go.RowKit
def Qgq (N:Nat)(c:Ctx):Nat→TypeId→List AV→Prop
 | 0,_,_=>False
 | n+1,t,cs=>match (c.ty t).d with
  | .int k=>∃ m,cs=[.int k m]∧k.has m
  | .bool=>∃ b,cs=[.bool b]
  | .str=>∃ s,cs=[.str s]∧s.length≤maxLen∧s.length≤N
  | .slice e=>∃ es,cs=[.lst es]∧es.length≤maxLen∧es.length≤N∧∀ r∈es,Qgq N c n e r
  | .Qbk fs=>Qo0 (Qgq N c n) fs cs
  | _=>False
structure Bulk {H:Type}(bk:DataW H→Nat):Prop where
 str:∀ s,s.length≤bk (.lit (.string s))
 slice:∀ l m,l.length≤bk (.slice l m)
 elem:∀ l m,∀ d∈l,bk d≤bk (.slice l m)
 part:∀ l,∀ d∈l,bk d≤bk (.agg l)
section
variable {P:Program} {c:Ctx} {w:World} {H:Type} {enc:TypeId×Value→H}
structure Qv0 (N:Nat)(c:Ctx)(w:World)(n:Nat)(t:TypeId)(vs:List Value)(cs:List AV):Prop where
 typed:Qgq N c n t cs
 len:cs.length=vs.length
 size:vs.length=(c.ty t).size
 cell:∀ x∈cs,x.Qax=true
 at_:∀ (j:Nat) (x:AV) (v:Value),cs[j]?=some x→vs[j]?=some v→VRel (QfV w) ρ0 x v
theorem QmD {bk:DataW H→Nat}(hbk:Bulk bk){N:Nat}(hc:TysOk P c){base:Nat}{spare:Nat→Bool}{held:Bool}:∀ (n m:Nat) (t:TypeId) (vs:List Value) (x:DataW H×List MemPlace),Qlk c n t=true→DataW.trod enc P w base spare held m t vs=some x→bk x.1≤N→∃ cs,Qv0 N c w n t vs cs
 | 0,m,t,vs,x,hp,h,hN=>by simp [Qlk] at hp
 | n+1,0,t,vs,x,hp,h,hN=>by simp [DataW.trod] at h
 | n+1,m+1,t,vs,x,hp,h,hN=>by
  simp only [Qlk] at hp
  have hkn:(c.ty t).known=true:=by unfold TI.known; cases hd:(c.ty t).d<;>simp [hd] at hp<;>rfl
  obtain ⟨i,d,z,ht⟩:=hc.ty t hkn
  have hr:=ht.rel
  have hu:=ht.und
  have hagg:=ht.agg
  have hsz:i.size=(c.ty t).size:=ht.size
  have one:∀ (u:Value) (y:AV),vs=[u]→(c.ty t).size=1→Qgq N c (n+1) t [y]→y.Qax=true→VRel (QfV w) ρ0 y u→∃ cs,Qv0 N c w (n+1) t vs cs:=by
   rintro u y rfl hs1 hty hcell hrel
   refine ⟨[y],hty,rfl,by simp [hs1],fun x hx=>by simp at hx; rw [hx]; exact hcell,fun j x v hx hv=>?_⟩
   cases j with
   | zero=>simp at hx hv; rw [← hx,← hv]; exact hrel
   | succ j=>simp at hx
  have size1:(c.ty t).isAgg=false→(c.ty t).size=1:=fun ha=>by rw [ha] at hagg; simp at hagg; rw [← hsz]; exact hagg.2
  cases htd:(c.ty t).d with
  | int k=>
   rw [htd] at hr
   cases hr
   obtain ⟨nn,rfl,_,hwf⟩:=DataW.trod_int hu h
   refine one _ (.int k nn) rfl (size1 (by unfold TI.isAgg; rw [htd])) (by simp only [Qgq,htd]; refine ⟨nn,rfl,?_⟩; simp [Lit.wf] at hwf; exact hwf) rfl (.int _ _ _)
  | bool=>
   rw [htd] at hr
   cases hr
   obtain ⟨b,rfl,_⟩:=DataW.trod_bool hu h
   exact one _ (.bool b) rfl (size1 (by unfold TI.isAgg; rw [htd])) (by simp only [Qgq,htd]; exact ⟨b,rfl⟩) rfl (.bool _ _)
  | str=>
   rw [htd] at hr
   cases hr
   obtain ⟨s,rfl,hx,hs⟩:=DataW.trod_string hu h
   have hsn:=hbk.str s.data.toList
   rw [hx] at hN
   exact one _ (.str s.data.toList) rfl (size1 (by unfold TI.isAgg; rw [htd])) (by simp only [Qgq,htd]; exact ⟨_,rfl,by rw [Array.length_toList]; exact hs,Nat.le_trans hsn hN⟩) rfl (.str _ _ _ rfl)
  | slice e=>
   rw [htd] at hr hp
   simp only at hp
   rw [Bool.and_eq_true] at hp
   have hes:=Nat.le_of_ble_eq_true hp.2
   have hs1:=size1 (by unfold TI.isAgg; rw [htd])
   cases hr with
   | slice _ he=>
    obtain ⟨ie,de,ze,hte⟩:=hc.ty e he
    have hco:P.cellsOf e=(c.ty e).size:=by unfold Program.cellsOf; rw [hte.info]; simp [hte.size]
    rcases DataW.trod_slice hu h with ⟨rfl,_⟩ |⟨a,len,cap,elems,rest,m',hm,rfl,hx,hbase,hlc,hcm,hel,hall,_,_⟩
    ·exact one _ (.lst []) rfl hs1 (by simp only [Qgq,htd]; exact ⟨[],rfl,by simp,by simp,fun r hr=>by simp at hr⟩) rfl (.lst0 _ _ _)
    ·rw [hco] at hall
     have hle:=hbk.slice (elems.map (·.1)) (rest.map (·.1))
     rw [List.length_map,hel] at hle
     have hmem:∀ e∈elems,bk e.1≤N:=fun e he=>Nat.le_trans (hbk.elem (elems.map (·.1)) (rest.map (·.1)) e.1 (List.mem_map_of_mem he)) (by rw [hx] at hN; exact hN)
     have hlN:len≤N:=by rw [hx] at hN; exact Nat.le_trans hle hN
     have hrow:∀ i,i<len→∃ (row:List Value) (r:List AV),w.cells? base (a.add (i * (c.ty e).size)) (c.ty e).size=some row∧Qv0 N c w n e row r:=by
      intro i hi
      have h1:=hall i hi
      rw [List.getElem?_eq_getElem (by omega)] at h1
      obtain ⟨row,hr1,hr2⟩:=Option.bind_eq_some_iff.1 h1
      obtain ⟨r,hr3⟩:=QmD hbk hc n m' e row _ hp.1 hr2 (hmem _ (List.getElem_mem _))
      exact ⟨row,r,hr1,hr3⟩
     have hex:∀ k,k≤len→∃ (rows:List (List Value)) (rs:List (List AV)),rows.length=k∧rs.length=k∧∀ (i:Nat) (row:List Value) (r:List AV),rows[i]?=some row→rs[i]?=some r→
       w.cells? base (a.add (i * (c.ty e).size)) (c.ty e).size=some row∧Qv0 N c w n e row r:=by
      intro k
      induction k with
      | zero=>exact fun _=>⟨[],[],rfl,rfl,fun i row r h=>by simp at h⟩
      | succ k ih=>
       intro hk
       obtain ⟨rows,rs,h1,h2,h3⟩:=ih (by omega)
       obtain ⟨row,r,h4,h5⟩:=hrow k (by omega)
       refine ⟨rows++[row],rs++[r],by simp [h1],by simp [h2],fun i row' r' hi hi'=>?_⟩
       rw [List.getElem?_append] at hi hi'
       rw [h1] at hi
       rw [h2] at hi'
       split at hi
       ·rename_i hik; rw [if_pos hik] at hi'; exact h3 i row' r' hi hi'
       ·rename_i hik
        rw [if_neg hik] at hi'
        have hk0:i - k=0:=by have:=(List.getElem?_eq_some_iff.1 hi).1; simp at this; omega
        have:i=k:=by omega
        subst this
        simp at hi hi'
        subst hi; subst hi'
        exact ⟨h4,h5⟩
     obtain ⟨rows,rs,h1,h2,h3⟩:=hex len (Nat.le_refl _)
     have hrs:∀ r∈rs,∃ row,Qv0 N c w n e row r:=fun r hr=>by
      obtain ⟨i,hi⟩:=List.mem_iff_getElem?.1 hr
      have hil:i<rows.length:=by have:=(List.getElem?_eq_some_iff.1 hi).1; omega
      exact ⟨_,(h3 i _ r (List.getElem?_eq_getElem hil) hi).2⟩
     refine one _ (.lst rs) rfl hs1 (by
      simp only [Qgq,htd]
      exact ⟨rs,rfl,by omega,by omega,fun r hr=>by obtain ⟨row,hrd⟩:=hrs r hr; exact hrd.typed⟩) rfl ?_
     rcases Nat.eq_zero_or_pos len with h0 |h0
     ·have:rs=[]:=List.length_eq_zero_iff.1 (by omega)
      subst this
      rw [h0]
      exact .lst0 _ _ _
     ·have hspot:a.spot=none:=by
       have hil:0<rows.length:=by omega
       have hil':0<rs.length:=by omega
       have:=(h3 0 _ _ (List.getElem?_eq_getElem hil) (List.getElem?_eq_getElem hil')).1
       rw [Nat.zero_mul] at this
       have e0:a.add 0=a:=rfl
       rw [e0] at this
       exact Qzt this (by omega)
      obtain ⟨g,off,sp⟩:=a
      simp only at hspot
      subst hspot
      have hcell:∀ (i j:Nat) (row:List Value) (v:Value),rows[i]?=some row→row[j]?=some v→QfV w g (off+(i * (c.ty e).size+j))=some v:=by
       intro i j row v hi hj
       have hil:i<rs.length:=by have:=(List.getElem?_eq_some_iff.1 hi).1; omega
       have hc1:=(h3 i row _ hi (List.getElem?_eq_getElem hil)).1
       obtain ⟨_,hcl,hcc⟩:=World.cells?_some hc1
       have hjl:j<(c.ty e).size:=by have:=(List.getElem?_eq_some_iff.1 hj).1; omega
       have:=hcc j hjl
       rw [Addr.QgW,Addr.QgW,hj] at this
       unfold QfV
       rw [← this]
       congr 2
       omega
      have hrl:∀ r∈rs,r.length=(c.ty e).size:=fun r hr=>by obtain ⟨row,hrd⟩:=hrs r hr; rw [hrd.len,hrd.size]
      have hq:VRel (QfV w) ρ0 (.lst rs) (.slice (some ⟨g,off,none⟩) rs.length cap):=by
       refine .lst _ _ _ _ _ (c.ty e).size (fun i j=>((rows[i]?).bind (·[j]?)).getD undef) (fun e0=>by rw [e0] at h2; simp at h2; omega) (by omega) hrl (fun i j r x hr hx=>?_) (fun i j r x hr hx=>?_) (fun r hr x hx=>by obtain ⟨row,hrd⟩:=hrs r hr; exact hrd.cell x hx)
       all_goals
        have hil:i<rows.length:=by have:=(List.getElem?_eq_some_iff.1 hr).1; omega
        have hri:=List.getElem?_eq_getElem hil
        have hrd:=(h3 i _ r hri hr).2
        have hjl:j<rows[i].length:=by have:=(List.getElem?_eq_some_iff.1 hx).1; have:=hrd.len; omega
        have hrj:=List.getElem?_eq_getElem hjl
        rw [hri]
        simp only [Option.bind_some,hrj,Option.getD_some]
       ·exact hcell i j _ _ hri hrj
       ·exact hrd.at_ j x _ hx hrj
      rwa [h2] at hq
  | Qbk fs=>
   rw [htd] at hr hp
   simp only at hp
   cases hr with
   | Qbk _ gs hl hf=>
    obtain ⟨xs,m',hm,hx,hvl,hxl,hall⟩:=DataW.trod_struct hu h
    rw [hx] at hN
    have hcoT:P.cellsOf t=(c.ty t).size:=by unfold Program.cellsOf; rw [ht.info]; simp [hsz]
    rw [hcoT] at hvl
    have key:∀ (fs:List (Nat×TypeId)) (gs:List Field) (o:Nat),fs.length=gs.length→(∀ (k:Nat) (p:Nat×TypeId) (g:Field),fs[k]?=some p→gs[k]?=some g→g.offset=p.1∧g.type=p.2∧(c.ty p.2).known=true)→
      (∀ g∈gs,∃ y,DataW.trod enc P w base spare held m' g.type ((vs.drop g.offset).take (P.cellsOf g.type))=some y∧bk y.1≤N)→Qyn (Qlk c n) c fs o (c.ty t).size=true→o≤vs.length→
      ∃ cs,Qo0 (Qgq N c n) fs cs∧cs.length=vs.length - o∧(∀ x∈cs,x.Qax=true)∧∀ (j:Nat) (x:AV) (v:Value),cs[j]?=some x→vs[o+j]?=some v→VRel (QfV w) ρ0 x v:=by
     intro fs
     induction fs with
     | nil=>
      intro gs o _ _ _ hpl ho
      have:=Nat.eq_of_beq_eq_true hpl
      exact ⟨[],rfl,by simp; omega,fun x hx=>by simp at hx,fun j x v hx=>by simp at hx⟩
     | cons q fs ih=>
      intro gs o hl hf hy hpl ho
      cases gs with
      | nil=>simp at hl
      | cons g gs=>
       simp only [Qyn] at hpl
       rw [Bool.and_eq_true,Bool.and_eq_true] at hpl
       obtain ⟨⟨p1,p2⟩,p3⟩:=hpl
       have p1:=Nat.eq_of_beq_eq_true p1
       obtain ⟨f1,f2,f3⟩:=hf 0 q g rfl rfl
       obtain ⟨ie,de,ze,hte⟩:=hc.ty q.2 f3
       have hco:P.cellsOf q.2=(c.ty q.2).size:=by unfold Program.cellsOf; rw [hte.info]; simp [hte.size]
       obtain ⟨y,hy1,hyN⟩:=hy g (by simp)
       rw [f2,f1,hco,p1] at hy1
       obtain ⟨a,ha⟩:=QmD hbk hc n m' q.2 _ y p2 hy1 hyN
       have hle:o+(c.ty q.2).size≤vs.length:=by
        have:=ha.size
        simp at this
        omega
       obtain ⟨b,b1,b2,b3,b4⟩:=ih gs (o+(c.ty q.2).size) (by simpa using hl) (fun k p g hp hg=>hf (k+1) p g hp hg) (fun g hg=>hy g (by simp [hg])) p3 hle
       have hal:a.length=(c.ty q.2).size:=by rw [ha.len,ha.size]
       refine ⟨a++b,⟨a,b,rfl,ha.typed,b1⟩,by simp [hal,b2]; omega,fun x hx=>?_,fun j x v hx hv=>?_⟩
       ·rcases List.mem_append.1 hx with hx |hx
        ·exact ha.cell x hx
        ·exact b3 x hx
       ·rw [List.getElem?_append] at hx
        split at hx
        ·rename_i hj
         refine ha.at_ j x v hx ?_
         rw [List.getElem?_take,if_pos (by omega),List.getElem?_drop]
         exact hv
        ·rename_i hj
         refine b4 (j - a.length) x v hx ?_
         rw [hal,show o+(c.ty q.2).size+(j - (c.ty q.2).size)=o+j by omega]
         exact hv
    obtain ⟨cs,k1,k2,k3,k4⟩:=key fs gs.toList 0 (by simpa using hl) (fun k p g hp hg=>hf k p g hp (by simpa using hg)) (fun g hg=>by
     obtain ⟨k,hk⟩:=List.mem_iff_getElem?.1 hg
     have hk':gs[k]?=some g:=by simpa using hk
     have:=hall k g hk'
     have hkl:k<xs.length:=by rw [hxl]; exact (Array.getElem?_eq_some_iff.1 hk').1
     rw [List.getElem?_eq_getElem hkl] at this
     exact ⟨_,this,Nat.le_trans (hbk.part (xs.map (·.1)) _ (List.mem_map_of_mem (List.getElem_mem hkl))) hN⟩) hp (Nat.zero_le _)
    exact ⟨cs,by simp only [Qgq,htd]; exact k1,by omega,hvl,k3,fun j x v hx hv=>k4 j x v hx (by rwa [Nat.zero_add])⟩
  | _=>rw [htd] at hp; simp at hp
theorem Qxx {bk:DataW H→Nat}(hbk:Bulk bk){N:Nat}(hc:TysOk P c){n:Nat}{t:TypeId}{v:Value}{d:DataW H}{ps:List MemPlace}(hp:Qlk c n t=true)(h:DataW.Trod enc P w 0 (fun _=>true) true t v d ps)(hN:bk d≤N)
  (hagg:(c.ty t).isAgg=true→∃ cs,v=.agg cs) (hnagg:(c.ty t).isAgg=false→v.cells=#[v]):
  ∃ (x:AV) (cs:List AV),Qgq N c n t cs∧(if (c.ty t).isAgg then x=.agg cs else cs=[x])∧VRel (QfV w) ρ0 x v:=by
 obtain ⟨m,hm⟩:=h
 obtain ⟨cs,hr⟩:=QmD hbk hc n m t _ _ hp hm hN
 cases ha:(c.ty t).isAgg with
 | true=>
  obtain ⟨us,rfl⟩:=hagg ha
  exact ⟨.agg cs,cs,hr.typed,rfl,.agg _ _ _ (by have:=hr.len; simpa [Value.cells] using this) (fun j x u hx hu=>hr.at_ j x u hx (by simpa [Value.cells] using hu))⟩
 | false=>
  have hc1:=hnagg ha
  have hl:=hr.len
  rw [hc1] at hl
  simp at hl
  obtain ⟨x,rfl⟩:=List.length_eq_one_iff.1 hl
  exact ⟨x,[x],hr.typed,rfl,hr.at_ 0 x v rfl (by rw [hc1]; rfl)⟩
end
end Go.Ev
