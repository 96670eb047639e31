/- What ties the evaluator's tables to a program; the reading and laying of cells. -/
import Derived.Test.YtkecfadnfnnfaaaGreatDoorEvF
set_option linter.unusedVariables false
set_option linter.unusedSimpArgs false
namespace Go.Ev
open Go.RowKit
theorem Qgu (b:Nat)(l:List Nat):isIn b l=true↔b∈l:=by
 induction l with
 | nil=>simp [QCC]
 | cons x l ih=>
  rw [QzZ]
  cases h:Nat.beq x b with
  | true=>have:=Nat.eq_of_beq_eq_true h; simp [ifB,this]
  | false=>
   have hne:x≠b:=fun e=>by subst e; simp [Nat.beq_refl] at h
   simp only [ifB,List.mem_cons]
   rw [ih]
   exact ⟨fun h=>.inr h,fun h=>h.resolve_left (fun e=>hne e.symm)⟩
theorem QnH (b:Nat):∀ (l:List Nat) (i:Nat),b∈l→∃ j,QaY b l i=i+j∧l[j]?=some b
 | [],i,h=>by simp at h
 | x::l,i,h=>by
  rw [Qut]
  cases hx:Nat.beq x b with
  | true=>have:=Nat.eq_of_beq_eq_true hx; exact ⟨0,by simp [ifB],by simp [this]⟩
  | false=>
   have hne:x≠b:=fun e=>by subst e; simp [Nat.beq_refl] at hx
   obtain ⟨j,h1,h2⟩:=QnH b l (i+1) (by rcases List.mem_cons.1 h with e |e; exact absurd e.symm hne; exact e)
   exact ⟨j+1,by simp only [ifB]; omega,by simpa using h2⟩
theorem Qlq (H:Heap):∀ (n:Nat) (todo seen out:List Nat),visit H n todo seen=some out→seen.Nodup→
  out.Nodup∧(∃ new,out=new++seen)∧(∀ b∈todo,b∈out)∧∀ b∈out,b ∉ seen→∀ c∈(Qcr H b).refs,c∈out
 | 0,todo,seen,out,h,_=>by simp [visit] at h
 | n+1,[],seen,out,h,hd=>by
  simp [visit] at h
  subst h
  exact ⟨hd,⟨[],rfl⟩,fun b hb=>by simp at hb,fun b hb hn=>absurd hb hn⟩
 | n+1,b::todo,seen,out,h,hd=>by
  simp only [visit] at h
  cases hi:isIn b seen with
  | true=>
   simp only [hi] at h
   obtain ⟨h1,⟨new,h2⟩,h3,h4⟩:=Qlq H n todo seen out h hd
   refine ⟨h1,⟨new,h2⟩,fun c hc=>?_,h4⟩
   rcases List.mem_cons.1 hc with rfl |hc
   ·rw [h2]; exact List.mem_append_right _ ((Qgu _ _).1 hi)
   ·exact h3 c hc
  | false=>
   simp only [hi,Qat] at h
   have hnot:b ∉ seen:=fun hb=>by rw [(Qgu b seen).2 hb] at hi; cases hi
   obtain ⟨h1,⟨new,h2⟩,h3,h4⟩:=Qlq H n _ (b::seen) out h (List.nodup_cons.2 ⟨hnot,hd⟩)
   have hb:b∈out:=by rw [h2]; simp
   refine ⟨h1,⟨new++[b],by rw [h2]; simp⟩,fun c hc=>?_,fun c hc hn=>?_⟩
   ·rcases List.mem_cons.1 hc with rfl |hc
    ·exact hb
    ·exact h3 c (List.mem_append_right _ hc)
   ·by_cases e:c=b
    ·subst e; exact fun d hd=>h3 d (List.mem_append_left _ hd)
    ·exact h4 c hc (by simp [e,hn])
theorem Qjk:∀ m,(Qa8 m).length=m∧(Qa8 m).Nodup∧(∀ b,b∈Qa8 m↔b<m)∧∀ j,j<m→(Qa8 m).reverse[j]?=some j
 | 0=>by simp [Qa8]
 | m+1=>by
  obtain ⟨h1,h2,h3,h4⟩:=Qjk m
  refine ⟨by simp [Qa8,h1],?_,fun b=>?_,fun j hj=>?_⟩
  ·simp only [Qa8]
   exact List.nodup_cons.2 ⟨fun h=>by have:=(h3 m).1 h; omega,h2⟩
  ·simp only [Qa8,List.mem_cons,h3]; omega
  ·simp only [Qa8,List.reverse_cons]
   by_cases e:j<m
   ·rw [List.getElem?_append_left (by simp [h1,e])]; exact h4 j e
   ·have:j=m:=by omega
    subst this
    rw [List.getElem?_append_right (by simp [h1])]
    simp [h1]
structure Met (m:Nat)(vs:List AV)(H:Heap)(seen:List Nat):Prop where
 nodup:seen.Nodup
 len:m≤seen.length
 base:∀ j,j<m→seen[j]?=some j
 blk:∀ b∈seen,∀ c∈(Qcr H b).refs,c∈seen
 val:∀ v∈vs,∀ c∈refs v,c∈seen
theorem QyG {β:Type}{m:Nat}{vs:List AV}{H:Heap}{k:List Nat→Option β}{r:β}(h:reach m vs H k=some r):∃ seen,k seen=some r∧Met m vs H seen:=by
 simp only [reach,Qat] at h
 cases hv:visit H 100000 ((Qa8 m).reverse.flatMap (fun b=>(Qcr H b).refs)++vs.flatMap refs) (Qa8 m) with
 | none=>simp [hv] at h
 | some out=>
  simp only [hv] at h
  obtain ⟨d1,d2,d3,d4⟩:=Qjk m
  obtain ⟨h1,⟨new,h2⟩,h3,h4⟩:=Qlq H _ _ _ _ hv d2
  refine ⟨out.reverse,h,((List.reverse_perm out).nodup_iff.2 h1),by rw [h2]; simp [d1],fun j hj=>?_,fun b hb c hc=>?_,fun v hv' c hc=>?_⟩
  ·rw [h2,List.reverse_append,List.getElem?_append_left (by simp [d1,hj])]
   exact d4 j hj
  ·rw [List.mem_reverse] at hb ⊢
   by_cases e:b∈Qa8 m
   ·exact h3 c (List.mem_append_left _ (List.mem_flatMap.2 ⟨b,by simpa using e,hc⟩))
   ·exact h4 b hb e c hc
  ·rw [List.mem_reverse]
   exact h3 c (List.mem_append_right _ (List.mem_flatMap.2 ⟨v,hv',hc⟩))
section
variable {I:Imm} {ρ ρ':Ren} {H:Heap} {w:World} {σ:Nat→Nat}
theorem Qs5 (ρ ρ':Ren):∀ (n:Nat) (v:AV) (cv:Value),VRel I ρ v cv→(∀ b∈Qes n v,∀ x,ρ b=some x→ρ' (σ b)=some x)→VRel I ρ' (renN σ n v) cv
 | 0,v,cv,_,_=>.undef _ _
 | n+1,v,cv,h,hb=>by
  have sub:∀ (cs:List AV) (vs:Array Value),(∀ (j:Nat) (x:AV) (v:Value),cs[j]?=some x→vs[j]?=some v→VRel I ρ x v)→(∀ x∈cs,∀ b∈Qes n x,b∈Qes (n+1) v)→
    ∀ (j:Nat) (x:AV) (v:Value),(cs.map (renN σ n))[j]?=some x→vs[j]?=some v→VRel I ρ' x v:=by
   intro cs vs hv hr j x v hx hvv
   rw [List.getElem?_map] at hx
   cases hc:cs[j]? with
   | none=>simp [hc] at hx
   | some y=>
    simp [hc] at hx
    subst hx
    exact Qs5 ρ ρ' n y v (hv j y v hc hvv) (fun b hb'=>hb b (hr y (List.mem_of_getElem? hc) b hb'))
  cases h with
  | undef=>exact .undef _ _
  | bool=>exact .bool _ _
  | int=>exact .int _ _ _
  | str _ s bs h=>exact .str _ _ _ h
  | nilp=>exact .nilp _
  | ptr _ b i o c z m h=>exact .ptr _ _ _ _ _ _ _ (hb b (by simp [Qes]) _ h)
  | iptr _ cs g off vs h hv=>exact .iptr _ _ _ _ vs h hv
  | nils=>exact .nils _
  | emp=>exact .emp _ _
  | lst0=>exact .lst0 _ _ _
  | lst _ es g off cap z vs hne hl hz h hv hc=>exact .lst _ _ _ _ _ z vs hne hl hz h hv hc
  | sl _ b off len a cap c z m h ha hl=>exact .sl _ _ _ _ _ _ _ _ _ (hb b (by simp [Qes]) _ h) ha hl
  | sle _ b c z m a h=>exact .sle _ _ _ _ _ _ (hb b (by simp [Qes]) _ h)
  | nilm=>exact .nilm _
  | map _ b c z m h=>exact .map _ _ _ _ _ (hb b (by simp [Qes]) _ h)
  | nilf=>exact .nilf _
  | fn _ f caps vs hl hv=>
   cases caps with
   | nil=>exact .fn _ _ _ _ hl (fun j x v hx=>by simp at hx)
   | cons a l=>exact .fn _ _ _ _ (by simpa using hl) (sub (a::l) vs hv (fun x hx b hb'=>by simp only [Qes,List.mem_flatMap]; exact ⟨x,hx,hb'⟩))
  | nili=>exact .nili _
  | iface _ t u cv h=>exact .iface _ _ _ _ (Qs5 ρ0 ρ0 n u cv h (fun b _ x hx=>by cases hx))
  | agg _ cs vs hl hv=>exact .agg _ _ _ (by simpa using hl) (sub cs vs hv (fun x hx b hb'=>by simp only [Qes,List.mem_flatMap]; exact ⟨x,hx,hb'⟩))
  | tup _ cs vs hl hv=>exact .tup _ _ _ (by simpa using hl) (sub cs vs hv (fun x hx b hb'=>by simp only [Qes,List.mem_flatMap]; exact ⟨x,hx,hb'⟩))
theorem QpT {v:AV}{cv:Value}(h:VRel I ρ v cv)(hb:∀ b∈refs v,∀ x,ρ b=some x→ρ' (σ b)=some x):VRel I ρ' (ren σ v) cv:=Qs5 ρ ρ' 8 v cv h hb
theorem QyH {v:AV}(h:v.Qax=true):(ren σ v).Qax=true:=by
 cases v with
 | undef=>cases h
 | agg=>cases h
 | tup=>cases h
 | fn f caps=>cases caps<;>rfl
 | _=>rfl
def Blk.rn (σ:Nat→Nat):Blk→Blk
 | .rows z false es=>.rows z false (es.map fun r=>r.map (Ev.ren σ))
 | b=>b
theorem QyI {β:Type}(es:List (List AV))(k:List (List AV)→β):Qv4 σ es k=k (es.map fun r=>r.map (Ev.ren σ)):=by
 induction es generalizing k with
 | nil=>rfl
 | cons r l ih=>exact (Qxy (r.map (Ev.ren σ)) (fun r'=>Qv4 σ l fun l=>k (r'::l))).trans (ih _)
theorem Qs6 {β:Type}(b:Blk)(k:Blk→β):b.ren' σ k=k (b.rn σ):=by
 cases b with
 | rows z p es=>cases p with
  | true=>rfl
  | false=>simp [Blk.ren',Blk.rn,QyI]
 | _=>rfl
theorem QeF {β:Type}(l:List Nat)(k:Heap→β):QpE σ H l k=k (l.map fun b=>(Qcr H b).rn σ):=by
 induction l generalizing k with
 | nil=>rfl
 | cons b l ih=>exact (Qs6 (Qcr H b) (fun x=>QpE σ H l fun r=>k (x::r))).trans (ih _)
theorem Qpk {β:Type}(fr:Fr)(k:Fr→β):QEu σ fr k=k (fr.map fun p=>(p.1,ren σ p.2)):=by
 induction fr generalizing k with
 | nil=>rfl
 | cons p r ih=>exact (QsY (ren σ p.2) (fun v=>QEu σ r fun r=>k ((p.1,v)::r))).trans (ih _)
theorem Qsa {β:Type}(l:Heap)(k:Heap→β):QpG σ l k=k (l.map (Blk.rn σ)):=by
 induction l generalizing k with
 | nil=>rfl
 | cons b l ih=>simp only [QpG,Qs6,ih,List.map_cons]
theorem QeW (k:Blk):(k.rn σ).Qfn=k.Qfn:=by cases k with |rows z p es=>cases p<;>rfl |_=>rfl
theorem QnI (k:Blk):(k.rn σ).live=k.live:=by cases k with |rows z p es=>cases p<;>rfl |_=>rfl
theorem Qz8 {c z n:Nat}{k:Blk}(h:BRel I ρ w c z n k)(hb:∀ b∈k.refs,∀ x,ρ b=some x→ρ' (σ b)=some x):BRel I ρ' w c z n (k.rn σ):=by
 cases k with
 | rows z' p es=>
  obtain ⟨h1,h2,h3,h4,h5⟩:=h
  cases p with
  | true=>exact ⟨h1,h2,h3,h4,h5⟩
  | false=>
   refine ⟨h1,by simpa using h2,fun r hr=>?_,h4,fun i j r x v hr hx hv=>?_⟩
   ·obtain ⟨r0,hr0,rfl⟩:=List.mem_map.1 hr
    refine ⟨by simpa using (h3 r0 hr0).1,fun x hx=>?_⟩
    obtain ⟨x0,hx0,rfl⟩:=List.mem_map.1 hx
    exact QyH ((h3 r0 hr0).2 x0 hx0)
   ·rw [List.getElem?_map] at hr
    cases hr0:es[i]? with
    | none=>simp [hr0] at hr
    | some r0=>
     simp [hr0] at hr
     subst hr
     rw [List.getElem?_map] at hx
     cases hx0:r0[j]? with
     | none=>simp [hx0] at hx
     | some x0=>
      simp [hx0] at hx
      subst hx
      refine QpT (ρ:=ρ) (h5 i j r0 x0 v hr0 hx0 hv) (fun b hb'=>hb b ?_)
      simp only [Blk.refs,List.mem_flatMap]
      exact ⟨r0,List.mem_of_getElem? hr0,x0,List.mem_of_getElem? hx0,hb'⟩
 | ro z' es=>
  obtain ⟨h1,h2,h3,h4⟩:=h
  exact ⟨h1,h2,h3,h4⟩
 | map es=>exact h
 | iter=>trivial
 | dead=>trivial
def Ren.by (ρ:Ren)(seen:List Nat):Ren:=fun j=>match seen[j]? with |some b=>ρ b |none=>none
theorem Ren.QCD {seen:List Nat}{b:Nat}(hb:b∈seen):ρ.by seen (QaY b seen 0)=ρ b:=by
 obtain ⟨j,h1,h2⟩:=QnH b seen 0 hb
 rw [Nat.zero_add] at h1
 simp [Ren.by,h1,h2]
theorem Sim.met {m:Nat}{vs:List AV}{seen:List Nat}(hs:Sim I ρ H w)(hm:Met m vs H seen)(hin:∀ b∈seen,b<H.length):
  Sim I (ρ.by seen) (seen.map fun b=>(Qcr H b).rn fun b=>QaY b seen 0) w∧Ext m I ρ H w I (ρ.by seen) (seen.map fun b=>(Qcr H b).rn fun b=>QaY b seen 0) w:=by
 have hget:∀ (j:Nat) (k:Blk),(seen.map fun b=>(Qcr H b).rn fun b=>QaY b seen 0)[j]?=some k→∃ b,seen[j]?=some b∧k=(Qcr H b).rn (fun b=>QaY b seen 0)∧H[b]?=some (Qcr H b):=by
  intro j k h
  rw [List.getElem?_map] at h
  cases hj:seen[j]? with
  | none=>simp [hj] at h
  | some b=>
   simp [hj] at h
   refine ⟨b,rfl,h.symm,?_⟩
   have:=hin b (List.mem_of_getElem? hj)
   simp [Qcr,List.getElem?_eq_getElem this]
 have hby:∀ (j b:Nat),seen[j]?=some b→ρ.by seen j=ρ b:=fun j b h=>by simp [Ren.by,h]
 constructor
 ·refine ⟨hs.imm,fun j hj=>?_,fun j x hx=>?_,fun j k c z n hk hx=>?_,fun j j' k k' x x' hk hk' s s' hx hx' q1 q2 e=>?_,fun j k x hk hl hx q o=>?_⟩
  ·rw [List.length_map] at hj
   rw [hby j _ (List.getElem?_eq_getElem hj)]
   exact hs.tot _ (hin _ (List.getElem_mem hj))
  ·unfold Ren.by at hx
   cases hj:seen[j]? with
   | none=>simp [hj] at hx
   | some b=>
    simp [hj] at hx
    exact ⟨by rw [List.length_map]; exact (List.getElem?_eq_some_iff.1 hj).1,(hs.dom b x hx).2⟩
  ·obtain ⟨b,hj,rfl,hH⟩:=hget j k hk
   rw [hby j b hj] at hx
   exact Qz8 (hs.blk b _ c z n hH hx) (fun d hd x hx=>by rw [Ren.QCD (hm.blk b (List.mem_of_getElem? hj) d hd)]; exact hx)
  ·obtain ⟨b,hj,rfl,hH⟩:=hget j k hk
   obtain ⟨b',hj',rfl,hH'⟩:=hget j' k' hk'
   rw [hby j b hj] at hx
   rw [hby j' b' hj'] at hx'
   rw [QeW] at s s'
   have:=hs.inj b b' _ _ x x' hH hH' s s' hx hx' q1 q2 e
   subst this
   have h1:=(List.getElem?_eq_some_iff.1 hj)
   have h2:=(List.getElem?_eq_some_iff.1 hj')
   exact (List.getElem_inj hm.nodup).1 (h1.2.trans h2.2.symm)
  ·obtain ⟨b,hj,rfl,hH⟩:=hget j k hk
   rw [hby j b hj] at hx
   rw [QnI] at hl
   exact hs.sep b _ x hH hl hx q o
 ·refine ⟨Imm.le_refl I,fun _ _ _ h=>.inl h,fun j hj=>hby j j (hm.base j hj),fun j k hj hk hsk=>?_,?_,?_,rfl,rfl,rfl,Nat.le_refl _,fun _ _ _=>rfl⟩
  ·obtain ⟨b,hj',rfl,hH⟩:=hget j k hk
   rw [hm.base j hj] at hj'; cases hj'
   rw [QeW] at hsk
   exact ⟨_,hH,hsk⟩
  ·rintro c ⟨j,k,x,hk,hsk,hx,e⟩
   obtain ⟨b,hj',rfl,hH⟩:=hget j k hk
   rw [hby j b hj'] at hx
   rw [QeW] at hsk
   exact .inl ⟨b,_,x,hH,hsk,hx,e⟩
  ·rintro c ⟨j,k,x,hk,hsk,hx,e⟩
   obtain ⟨b,hj',rfl,hH⟩:=hget j k hk
   rw [hby j b hj'] at hx
   rw [QnI] at hsk
   exact .inl ⟨b,_,x,hH,hsk,hx,e⟩
theorem QmJ (hs:Sim I ρ H w):∀ (n:Nat) (v:AV) (cv:Value),VRel I ρ v cv→∀ b∈Qes n v,b<H.length
 | 0,v,cv,_,b,hb=>by simp [Qes] at hb
 | n+1,v,cv,h,b,hb=>by
  have sub:∀ (cs:List AV) (vs:Array Value),cs.length=vs.size→(∀ (j:Nat) (x:AV) (v:Value),cs[j]?=some x→vs[j]?=some v→VRel I ρ x v)→b∈cs.flatMap (Qes n)→b<H.length:=by
   intro cs vs hl hv hb
   obtain ⟨x,hx,hbx⟩:=List.mem_flatMap.1 hb
   obtain ⟨j,hj,rfl⟩:=List.mem_iff_getElem.1 hx
   exact QmJ hs n cs[j] vs[j] (hv j _ _ (List.getElem?_eq_getElem hj) (Array.getElem?_eq_getElem (by omega))) b hbx
  cases h with
  | ptr _ b i o c z m h=>simp [Qes] at hb; subst hb; exact (hs.dom _ _ h).1
  | sl _ b off len a cap c z m h ha hl=>simp [Qes] at hb; subst hb; exact (hs.dom _ _ h).1
  | sle _ b c z m a h=>simp [Qes] at hb; subst hb; exact (hs.dom _ _ h).1
  | map _ b c z m h=>simp [Qes] at hb; subst hb; exact (hs.dom _ _ h).1
  | fn _ f caps vs hl hv=>
   cases caps with
   | nil=>simp [Qes] at hb
   | cons a l=>simp only [Qes] at hb; exact sub _ vs hl hv hb
  | iface _ t u cv h=>simp only [Qes] at hb; exact QmJ hs n u cv h.any b hb
  | agg _ cs vs hl hv=>simp only [Qes] at hb; exact sub _ vs hl hv hb
  | tup _ cs vs hl hv=>simp only [Qes] at hb; exact sub _ vs hl hv hb
  | _=>simp [Qes] at hb
theorem Qsb (hs:Sim I ρ H w){b:Nat}(hb:b<H.length):∀ c∈(Qcr H b).refs,c<H.length:=fun c hc=>by
 obtain ⟨⟨g,z,n⟩,hx⟩:=hs.tot b hb
 have hH:H[b]?=some (Qcr H b):=by simp [Qcr,List.getElem?_eq_getElem hb]
 have hrel:=hs.blk b _ g z n hH hx
 cases hk:Qcr H b with
 | rows z' p es=>
  rw [hk] at hrel hc
  cases p with
  | true=>simp [Blk.refs] at hc
  | false=>
   obtain ⟨h1,h2,h3,h4,h5⟩:=hrel
   simp only [Blk.refs,List.mem_flatMap] at hc
   obtain ⟨r,hr,x,hx',hcx⟩:=hc
   obtain ⟨i,hi,rfl⟩:=List.mem_iff_getElem.1 hr
   obtain ⟨j,hj,rfl⟩:=List.mem_iff_getElem.1 hx'
   subst h1
   have hjz:j<z':=by rw [(h3 _ (List.getElem_mem hi)).1] at hj; exact hj
   have hlt:i * z'+j<n * z':=by
    have:(i+1) * z'≤n * z':=Nat.mul_le_mul_right _ (by omega)
    rw [Nat.add_mul] at this; omega
   obtain ⟨v,hv⟩:=Option.isSome_iff_exists.1 (h4 _ hlt).1
   exact QmJ hs 8 _ v (h5 i j _ _ v (List.getElem?_eq_getElem hi) (List.getElem?_eq_getElem hj) hv) c hcx
 | _=>rw [hk] at hc; simp [Blk.refs] at hc
theorem Qs7 (hs:Sim I ρ H w):∀ (n:Nat) (todo seen out:List Nat),visit H n todo seen=some out→(∀ b∈todo,b<H.length)→(∀ b∈seen,b<H.length)→∀ b∈out,b<H.length
 | 0,todo,seen,out,h,_,_=>by simp [visit] at h
 | n+1,[],seen,out,h,_,h2=>by simp [visit] at h; subst h; exact h2
 | n+1,b::todo,seen,out,h,h1,h2=>by
  simp only [visit] at h
  cases hi:isIn b seen with
  | true=>simp only [hi] at h; exact Qs7 hs n todo seen out h (fun c hc=>h1 c (by simp [hc])) h2
  | false=>
   simp only [hi,Qat] at h
   refine Qs7 hs n _ _ out h (fun c hc=>?_) (fun c hc=>?_)
   ·rcases List.mem_append.1 hc with hc |hc
    ·exact Qsb hs (h1 b (by simp)) c hc
    ·exact h1 c (by simp [hc])
   ·rcases List.mem_cons.1 hc with rfl |hc
    ·exact h1 _ (by simp)
    ·exact h2 c hc
theorem Qxz {β:Type}{m:Nat}{vs:List AV}{k:List Nat→Option β}{r:β}(hs:Sim I ρ H w)(h:reach m vs H k=some r)(hm:m≤H.length)(hv:∀ v∈vs,∀ b∈refs v,b<H.length):
  ∃ seen,k seen=some r∧Met m vs H seen∧∀ b∈seen,b<H.length:=by
 obtain ⟨seen,hk,hmet⟩:=QyG h
 simp only [reach,Qat] at h
 cases hvis:visit H 100000 ((Qa8 m).reverse.flatMap (fun b=>(Qcr H b).refs)++vs.flatMap refs) (Qa8 m) with
 | none=>simp [hvis] at h
 | some out=>
  simp only [hvis] at h
  obtain ⟨d1,d2,d3,d4⟩:=Qjk m
  obtain ⟨h1,⟨new,h2⟩,h3,h4⟩:=Qlq H _ _ _ _ hvis d2
  have hlt:=Qs7 hs _ _ _ _ hvis (fun b hb=>by
   rcases List.mem_append.1 hb with hb |hb
   ·obtain ⟨c,hc,hb⟩:=List.mem_flatMap.1 hb
    exact Qsb hs (by have:=(d3 c).1 (by simpa using hc); omega) b hb
   ·obtain ⟨v,hv',hb⟩:=List.mem_flatMap.1 hb
    exact hv v hv' b hb) (fun b hb=>by have:=(d3 b).1 hb; omega)
  refine ⟨out.reverse,h,⟨((List.reverse_perm out).nodup_iff.2 h1),by rw [h2]; simp [d1],fun j hj=>?_,fun b hb c hc=>?_,fun v hv' c hc=>?_⟩,fun b hb=>hlt b (by simpa using hb)⟩
  ·rw [h2,List.reverse_append,List.getElem?_append_left (by simp [d1,hj])]
   exact d4 j hj
  ·rw [List.mem_reverse] at hb ⊢
   by_cases e:b∈Qa8 m
   ·exact h3 c (List.mem_append_left _ (List.mem_flatMap.2 ⟨b,by simpa using e,hc⟩))
   ·exact h4 b hb e c hc
  ·rw [List.mem_reverse]
   exact h3 c (List.mem_append_right _ (List.mem_flatMap.2 ⟨v,hv',hc⟩))
theorem get_map (fr:Fr)(t:Nat):Fr.get (fr.map fun p=>(p.1,ren σ p.2)) t=ren σ (fr.get t):=by
 induction fr with
 | nil=>rfl
 | cons p r ih=>
  rw [List.map_cons,Fr.QbO,Fr.QbO,ih]
  cases Nat.beq p.1 t<;>rfl
theorem get_mem (fr:Fr)(t:Nat):fr.get t=.undef∨fr.get t∈fr.map (·.2):=by
 induction fr with
 | nil=>exact .inl rfl
 | cons p r ih=>
  rw [Fr.QbO]
  cases Nat.beq p.1 t with
  | true=>exact .inr (by simp [ifB])
  | false=>
   rcases ih with h |h
   ·exact .inl (by simpa [ifB] using h)
   ·exact .inr (by simp [ifB] at h ⊢; exact .inr h)
theorem QuB {β:Type}{m:Nat}{st:St}{k:St→Option β}{r:β}{g:Nat→Value}(hs:Sim I ρ st.H w)(h:st.canon m k=some r)(hm:m≤st.H.length)
  (hf:∀ t,VRel I ρ (st.fr.get t) (g t)) (ha:∀ p∈st.fr,∃ cv,VRel I ρ p.2 cv):
  ∃ st1 ρ1,k st1=some r∧Sim I ρ1 st1.H w∧(∀ t,VRel I ρ1 (st1.fr.get t) (g t))∧(∀ p∈st1.fr,∃ cv,VRel I ρ1 p.2 cv)∧Ext m I ρ st.H w I ρ1 st1.H w∧m≤st1.H.length:=by
 unfold St.canon at h
 obtain ⟨seen,hk,hmet,hlt⟩:=Qxz hs h hm (fun v hv b hb=>by
  obtain ⟨p,hp,rfl⟩:=List.mem_map.1 hv
  obtain ⟨cv,hcv⟩:=ha p hp
  exact QmJ hs 8 _ cv hcv b hb)
 rw [Qpk,QeF] at hk
 obtain ⟨s1,e1⟩:=hs.met hmet hlt
 have hrel:∀ p∈st.fr,∀ cv,VRel I ρ p.2 cv→VRel I (ρ.by seen) (ren (fun b=>QaY b seen 0) p.2) cv:=fun p hp cv hcv=>
  QpT hcv (fun b hb x hx=>by rw [Ren.QCD (hmet.val p.2 (List.mem_map.2 ⟨p,hp,rfl⟩) b hb)]; exact hx)
 refine ⟨_,ρ.by seen,hk,s1,fun t=>?_,fun p hp=>?_,e1,by simpa using hmet.len⟩
 ·rw [get_map]
  have h1:=hf t
  refine QpT h1 (fun b hb x hx=>?_)
  rcases get_mem st.fr t with h |h
  ·rw [h] at hb; simp [refs,Qes] at hb
  ·rw [Ren.QCD (hmet.val _ h b hb)]; exact hx
 ·obtain ⟨q,hq,rfl⟩:=List.mem_map.1 hp
  obtain ⟨cv,hcv⟩:=ha q hq
  exact ⟨cv,hrel q hq cv hcv⟩
def laid (τ:Nat→Nat):List Nat→Heap→Heap→Heap
 | [],_,H=>H
 | _::l,[],H=>laid τ l [] H
 | b::l,x::H',H=>laid τ l H' (H.set b (x.rn τ))
theorem Qjl {β:Type}:∀ (l:List Nat) (H' H:Heap) (k:Heap→Heap→β),Qjf σ l H' H k=k (H'.drop l.length) (laid σ l H' H)
 | [],H',H,k=>rfl
 | b::l,[],H,k=>by simp [Qjf,laid,Qjl l]
 | b::l,x::H',H,k=>by simp [Qjf,laid,Qjl l,Qs6,Qat]
theorem Qeu:∀ (l:List Nat) (H' H:Heap),(laid σ l H' H).length=H.length
 | [],_,_=>rfl
 | _::l,[],H=>by simp [laid,Qeu l]
 | b::l,x::H',H=>by simp [laid,Qeu l]
theorem Qpl:∀ (l:List Nat) (H' H:Heap) (b:Nat),b ∉ l→(laid σ l H' H)[b]?=H[b]?
 | [],_,_,_,_=>rfl
 | a::l,[],H,b,h=>by simp only [laid]; exact Qpl l [] H b (by simp at h; exact h.2)
 | a::l,x::H',H,b,h=>by
  simp only [List.mem_cons,not_or] at h
  simp only [laid]
  rw [Qpl l H' _ b h.2,List.getElem?_set_ne (Ne.symm h.1)]
theorem Qz9:∀ (l:List Nat) (H' H:Heap),l.Nodup→(∀ b∈l,b<H.length)→∀ (j b:Nat),l[j]?=some b→(laid σ l H' H)[b]?=(match H'[j]? with |some x=>some (x.rn σ) |none=>H[b]?)
 | [],_,_,_,_,j,b,h=>by simp at h
 | a::l,[],H,hd,hlt,j,b,h=>by
  simp only [laid]
  have hmem:b∈a::l:=List.mem_of_getElem? h
  have key:∀ (l:List Nat) (H:Heap),laid σ l [] H=H:=fun l=>by
   induction l with
   | nil=>intro H; rfl
   | cons _ _ ih=>intro H; simp only [laid]; exact ih H
  simp [key]
 | a::l,x::H',H,hd,hlt,j,b,h=>by
  obtain ⟨h1,h2⟩:=List.nodup_cons.1 hd
  simp only [laid]
  cases j with
  | zero=>
   simp at h; subst h
   rw [Qpl l H' _ a h1]
   have:=hlt a (by simp)
   simp [this]
  | succ j=>
   simp at h
   have hb:b∈l:=List.mem_of_getElem? h
   have hne:a≠b:=fun e=>h1 (e▸hb)
   rw [Qz9 l H' (H.set a (x.rn σ)) h2 (fun c hc=>by simpa using hlt c (by simp [hc])) j b h]
   simp only [List.getElem?_cons_succ]
   cases H'[j]? with
   | some y=>rfl
   | none=>simp [List.getElem?_set_ne hne]
def Ren.back (ρ ρc:Ren)(m n:Nat):Ren:=fun b=>if b<n then ρ b else ρc (b - n+m)
theorem Sim.called {seen:List Nat}{vs:List AV}{I':Imm}{ρc':Ren}{H'':Heap}{w':World}(hs:Sim I ρ H w)(hm:Met 0 vs H seen)(hin:∀ b∈seen,b<H.length)
  (hs':Sim I' ρc' H'' w') (he:Ext seen.length I (ρ.by seen) (seen.map fun b=>(Qcr H b).rn fun b=>QaY b seen 0) w I' ρc' H'' w') (hlen:seen.length≤H''.length):
  Sim I' (ρ.back ρc' seen.length H.length) (laid (Qd2 seen seen.length H.length) seen H'' H++(H''.drop seen.length).map (Blk.rn (Qd2 seen seen.length H.length))) w'∧
  Ext H.length I ρ H w I' (ρ.back ρc' seen.length H.length) (laid (Qd2 seen seen.length H.length) seen H'' H++(H''.drop seen.length).map (Blk.rn (Qd2 seen seen.length H.length))) w'∧
  ∀ j x,ρc' j=some x→ρ.back ρc' seen.length H.length (Qd2 seen seen.length H.length j)=some x:=by
 have hget0:∀ (j b:Nat),seen[j]?=some b→(seen.map fun b=>(Qcr H b).rn fun b=>QaY b seen 0)[j]?=some ((Qcr H b).rn fun b=>QaY b seen 0):=fun j b h=>by simp [h]
 have hby:∀ (j b:Nat),seen[j]?=some b→ρ.by seen j=ρ b:=fun j b h=>by simp [Ren.by,h]
 have hHb:∀ b,b<H.length→H[b]?=some (Qcr H b):=fun b hb=>by simp [Qcr,List.getElem?_eq_getElem hb]
 have hliveBack:∀ c,QoH (ρ.by seen) (seen.map fun b=>(Qcr H b).rn fun b=>QaY b seen 0) c→∃ b∈seen,∃ k x,H[b]?=some k∧k.live=true∧ρ b=some x∧x.1=c∧0<x.2.2:=by
  rintro c ⟨j,k,x,hk,hl,hx,e⟩
  rw [List.getElem?_map] at hk
  cases hj:seen[j]? with
  | none=>simp [hj] at hk
  | some b=>
   simp [hj] at hk; subst hk
   rw [hby j b hj] at hx
   rw [QnI] at hl
   exact ⟨b,List.mem_of_getElem? hj,_,x,hHb b (hin b (List.mem_of_getElem? hj)),hl,hx,e⟩
 have hsolidBack:∀ c,QpP (ρ.by seen) (seen.map fun b=>(Qcr H b).rn fun b=>QaY b seen 0) c→∃ b∈seen,∃ k x,H[b]?=some k∧k.Qfn=true∧ρ b=some x∧x.1=c∧0<x.2.2:=by
  rintro c ⟨j,k,x,hk,hl,hx,e⟩
  rw [List.getElem?_map] at hk
  cases hj:seen[j]? with
  | none=>simp [hj] at hk
  | some b=>
   simp [hj] at hk; subst hk
   rw [hby j b hj] at hx
   rw [QeW] at hl
   exact ⟨b,List.mem_of_getElem? hj,_,x,hHb b (hin b (List.mem_of_getElem? hj)),hl,hx,e⟩
 have hmap:∀ j x,ρc' j=some x→ρ.back ρc' seen.length H.length (Qd2 seen seen.length H.length j)=some x:=fun j x hx=>by
  unfold Ren.back Qd2
  cases hj:Nat.blt j seen.length with
  | true=>
   have hj':j<seen.length:=(show j+1≤seen.length by simpa [Nat.blt] using hj)
   have hsj:seen[j]?=some seen[j]:=List.getElem?_eq_getElem hj'
   have hlt:=hin seen[j] (List.getElem_mem hj')
   have h1:=he.ren j hj'
   rw [hby j _ hsj,hx] at h1
   simp [hsj,hlt]
   exact h1.symm
  | false=>
   have hj':¬ j<seen.length:=fun h=>by
    have:Nat.blt j seen.length=true:=(by simp [Nat.blt]; omega)
    rw [this] at hj; cases hj
   have:¬ (H.length+(j - seen.length)<H.length):=by omega
   simp only [this,if_false]
   rw [show H.length+(j - seen.length) - H.length+seen.length=j by omega]
   exact hx
 have hnew:∀ (i:Nat) (k:Blk),(laid (Qd2 seen seen.length H.length) seen H'' H++(H''.drop seen.length).map (Blk.rn (Qd2 seen seen.length H.length)))[i]?=some k→
   (∃ j k0,H''[j]?=some k0∧k=k0.rn (Qd2 seen seen.length H.length)∧ρ.back ρc' seen.length H.length i=ρc' j∧((i<H.length∧i∈seen∧seen[j]?=some i∧j<seen.length)∨(¬ i<H.length∧i=H.length+(j - seen.length)∧seen.length≤j)))∨
   (i<H.length∧i ∉ seen∧H[i]?=some k):=by
  intro i k hi
  by_cases hlt:i<H.length
  ·rw [List.getElem?_append_left (by rw [Qeu]; exact hlt)] at hi
   by_cases hmem:i∈seen
   ·obtain ⟨j,hj,hij⟩:=List.mem_iff_getElem.1 hmem
    have hsj:seen[j]?=some i:=by rw [List.getElem?_eq_getElem hj,hij]
    rw [Qz9 seen H'' H hm.nodup hin j i hsj] at hi
    have hj'':j<H''.length:=by omega
    rw [List.getElem?_eq_getElem hj''] at hi
    simp at hi
    refine .inl ⟨j,H''[j],List.getElem?_eq_getElem hj'',hi.symm,?_,.inl ⟨hlt,hmem,hsj,hj⟩⟩
    rw [he.ren j hj,hby j i hsj]
    simp [Ren.back,hlt]
   ·rw [Qpl _ _ _ _ hmem] at hi
    exact .inr ⟨hlt,hmem,hi⟩
  ·rw [List.getElem?_append_right (by rw [Qeu]; omega),Qeu,List.getElem?_map,List.getElem?_drop] at hi
   cases hk:H''[seen.length+(i - H.length)]? with
   | none=>simp [hk] at hi
   | some k0=>
    simp [hk] at hi
    refine .inl ⟨_,k0,hk,hi.symm,?_,.inr ⟨hlt,by omega,by omega⟩⟩
    simp only [Ren.back,hlt,if_false]
    rw [show i - H.length+seen.length=seen.length+(i - H.length) by omega]
 have hlen2:(laid (Qd2 seen seen.length H.length) seen H'' H++(H''.drop seen.length).map (Blk.rn (Qd2 seen seen.length H.length))).length=H.length+(H''.length - seen.length):=by
  simp [Qeu]
 have hkeep:∀ i k x,i ∉ seen→H[i]?=some k→k.live=true→ρ i=some x→0<x.2.2→w'.heap[x.1]?=w.heap[x.1]?:=fun i k x hi hk hl hx q=>by
  refine he.kept _ ((hs.dom i x hx).2 q) (fun hL=>?_)
  obtain ⟨b,hb,k1,x1,hk1,hl1,hx1,e,q1⟩:=hliveBack _ hL
  have:=hs.inj b i k1 k x1 x hk1 hk (Blk.QaE hl1) (Blk.QaE hl) hx1 hx q1 q e
  exact hi (this▸hb)
 have hapart:∀ i k x c,i ∉ seen→H[i]?=some k→k.Qfn=true→ρ i=some x→0<x.2.2→QpP ρc' H'' c→x.1≠c:=fun i k x c hi hk hl hx q hS e=>by
  subst e
  rcases he.newS _ hS with h1 |h1
  ·obtain ⟨b,hb,k1,x1,hk1,hl1,hx1,e,q1⟩:=hsolidBack _ h1
   have:=hs.inj b i k1 k x1 x hk1 hk hl1 hl hx1 hx q1 q e
   exact hi (this▸hb)
  ·have:=(hs.dom i x hx).2 q; omega
 have hmono:∀ b x,ρ b=some x→ρ.back ρc' seen.length H.length b=some x:=fun b x hx=>by simp [Ren.back,(hs.dom b x hx).1,hx]
 refine ⟨?_,?_,hmap⟩
 ·refine ⟨hs'.imm,fun i hi=>?_,fun i x hx=>?_,fun i k c z n hk hx=>?_,fun i i' k k' x x' hk hk' s1 s2 hx hx' q1 q2 e=>?_,fun i k x hk hl hx q o=>?_⟩
  ·by_cases hlt:i<H.length
   ·obtain ⟨x,hx⟩:=hs.tot i hlt; exact ⟨x,hmono i x hx⟩
   ·simp only [Ren.back,hlt,if_false]; exact hs'.tot _ (by omega)
  ·by_cases hlt:i<H.length
   ·simp only [Ren.back,hlt,if_true] at hx
    have h1:=(hs.dom i x hx).2
    have:=he.size
    exact ⟨by omega,fun q=>by have:=h1 q; omega⟩
   ·simp only [Ren.back,hlt,if_false] at hx
    have:=hs'.dom _ x hx
    exact ⟨by omega,this.2⟩
  ·rcases hnew i k hk with ⟨j,k0,hk0,rfl,hρ,_⟩ |⟨hlt,hmem,hH⟩
   ·rw [hρ] at hx
    exact Qz8 (hs'.blk j k0 c z n hk0 hx) (fun d _ y hy=>hmap d y hy)
   ·have hx0:ρ i=some (c,z,n):=by simpa [Ren.back,hlt] using hx
    have hb:=hs.blk i k c z n hH hx0
    by_cases hl:k.live=true
    ·exact hb.mono he.imm hmono (fun q=>hkeep i k _ hmem hH hl hx0 q)
    ·cases k with
     | rows=>simp [Blk.live] at hl
     | map=>simp [Blk.live] at hl
     | ro z' es=>
      obtain ⟨h1,h2,h3,h4⟩:=hb
      exact ⟨h1,h2,h3,fun i j r x hr hx=>let ⟨v,hv,hrel⟩:=h4 i j r x hr hx; ⟨v,he.imm _ _ _ hv,hrel.imm he.imm⟩⟩
     | iter=>trivial
     | dead=>trivial
  ·rcases hnew i k hk with ⟨j,k0,hk0,rfl,hρ,hp⟩ |⟨hlt,hmem,hH⟩<;>rcases hnew i' k' hk' with ⟨j',k0',hk0',rfl,hρ',hp'⟩ |⟨hlt',hmem',hH'⟩
   ·rw [hρ] at hx
    rw [hρ'] at hx'
    rw [QeW] at s1 s2
    have:=hs'.inj j j' k0 k0' x x' hk0 hk0' s1 s2 hx hx' q1 q2 e
    subst this
    rcases hp with ⟨a1,a2,a3,a4⟩ |⟨a1,a2,a3⟩<;>rcases hp' with ⟨b1,b2,b3,b4⟩ |⟨b1,b2,b3⟩
    ·rw [a3] at b3; exact Option.some.inj b3
    ·omega
    ·omega
    ·omega
   ·rw [hρ] at hx
    rw [QeW] at s1
    have hx0:ρ i'=some x':=by simpa [Ren.back,hlt'] using hx'
    exact absurd e.symm (hapart i' k' x' x.1 hmem' hH' s2 hx0 q2 ⟨j,k0,x,hk0,s1,hx,rfl,q1⟩)
   ·rw [hρ'] at hx'
    rw [QeW] at s2
    have hx0:ρ i=some x:=by simpa [Ren.back,hlt] using hx
    exact absurd e (hapart i k x x'.1 hmem hH s1 hx0 q1 ⟨j',k0',x',hk0',s2,hx',rfl,q2⟩)
   ·have hx0:ρ i=some x:=by simpa [Ren.back,hlt] using hx
    have hx0':ρ i'=some x':=by simpa [Ren.back,hlt'] using hx'
    exact hs.inj i i' k k' x x' hH hH' s1 s2 hx0 hx0' q1 q2 e
  ·rcases hnew i k hk with ⟨j,k0,hk0,rfl,hρ,_⟩ |⟨hlt,hmem,hH⟩
   ·rw [hρ] at hx
    rw [QnI] at hl
    exact hs'.sep j k0 x hk0 hl hx q o
   ·have hx0:ρ i=some x:=by simpa [Ren.back,hlt] using hx
    cases hv:I' x.1 o with
    | none=>rfl
    | some v=>
     rcases he.Qr9 _ _ _ hv with h1 |h1 |h1
     ·rw [hs.sep i k x hH hl hx0 q o] at h1; cases h1
     ·obtain ⟨b,hb,k1,x1,hk1,hl1,hx1,e,q1⟩:=hliveBack _ h1
      have:=hs.inj b i k1 k x1 x hk1 hH (Blk.QaE hl1) (Blk.QaE hl) hx1 hx0 q1 q e
      exact absurd (this▸hb) hmem
     ·have:=(hs.dom i x hx0).2 q; omega
 ·refine ⟨he.imm,fun c o v hv=>?_,fun b hb=>by simp [Ren.back,hb],fun i k hi hk hsk=>?_,?_,?_,he.os,he.tape,he.output,he.size,fun c hc hn=>?_⟩
  ·rcases he.Qr9 c o v hv with h1 |h1 |h1
   ·exact .inl h1
   ·obtain ⟨b,_,h2⟩:=hliveBack _ h1; exact .inr (.inl ⟨b,h2⟩)
   ·exact .inr (.inr h1)
  ·rcases hnew i k hk with ⟨j,k0,hk0,rfl,hρ,hp⟩ |⟨hlt,hmem,hH⟩
   ·rcases hp with ⟨a1,a2,a3,a4⟩ |⟨a1,a2,a3⟩
    ·rw [QeW] at hsk
     obtain ⟨k1,h1,t1⟩:=he.Qv8 j k0 a4 hk0 hsk
     rw [hget0 j i a3] at h1
     cases h1
     rw [QeW] at t1
     exact ⟨_,hHb i hi,t1⟩
    ·omega
   ·exact ⟨k,hH,hsk⟩
  ·rintro c ⟨i,k,x,hk,hsk,hx,e⟩
   rcases hnew i k hk with ⟨j,k0,hk0,rfl,hρ,hp⟩ |⟨hlt,hmem,hH⟩
   ·rw [hρ] at hx
    rw [QeW] at hsk
    rcases he.newS c ⟨j,k0,x,hk0,hsk,hx,e⟩ with h1 |h1
    ·obtain ⟨b,_,h2⟩:=hsolidBack _ h1; exact .inl ⟨b,h2⟩
    ·exact .inr h1
   ·exact .inl ⟨i,k,x,hH,hsk,by simpa [Ren.back,hlt] using hx,e⟩
  ·rintro c ⟨i,k,x,hk,hsk,hx,e⟩
   rcases hnew i k hk with ⟨j,k0,hk0,rfl,hρ,hp⟩ |⟨hlt,hmem,hH⟩
   ·rw [hρ] at hx
    rw [QnI] at hsk
    rcases he.newL c ⟨j,k0,x,hk0,hsk,hx,e⟩ with h1 |h1
    ·obtain ⟨b,_,h2⟩:=hliveBack _ h1; exact .inl ⟨b,h2⟩
    ·exact .inr h1
   ·exact .inl ⟨i,k,x,hH,hsk,by simpa [Ren.back,hlt] using hx,e⟩
  ·refine he.kept c hc (fun hL=>hn ?_)
   obtain ⟨b,_,h2⟩:=hliveBack _ hL
   exact ⟨b,h2⟩
end
end Go.Ev
namespace Go.Ev
open Go.RowKit
inductive QnJ (c:Ctx):TD→TypeDesc→Prop where
 | int (k:IntKind):QnJ c (.int k) (.int k)
 | bool:QnJ c .bool .bool
 | str:QnJ c .str .string
 | ptr (e:TypeId):QnJ c (.ptr e) (.pointer e)
 | slice (e:TypeId) (h:(c.ty e).known=true):QnJ c (.slice e) (.slice e)
 | arr (n:Nat) (e:TypeId) (h:(c.ty e).known=true):QnJ c (.arr n e) (.array n e)
 | map (k e:TypeId) (hk:(c.ty k).known=true) (he:(c.ty e).known=true):QnJ c (.map k e) (.map k e)
 | Qbk (fs:List (Nat×TypeId)) (gs:Array Field) (hl:fs.length=gs.size)
   (h:∀ (k:Nat) (p:Nat×TypeId) (g:Field),fs[k]?=some p→gs[k]?=some g→g.offset=p.1∧g.type=p.2∧(c.ty p.2).known=true):QnJ c (.Qbk fs) (.struct gs)
 | func (ps rs:Array TypeId) (v:Bool):QnJ c .func (.func ps rs v)
 | iface (ms:Array (String×TypeId)):QnJ c .iface (.interface ms)
structure TyOk (P:Program)(c:Ctx)(t:TypeId)(i:TypeInfo)(d:TypeDesc)(z:Value):Prop where
 info:P.info? t=some i
 und:P.underlying t=some d
 rel:QnJ c (c.ty t).d d
 size:i.size=(c.ty t).size
 bytes:i.bytes=(c.ty t).bytes
 zero:i.zero=some z
 cells:(c.ty t).zero=z.cells.toList.map ofConst
 len:z.cells.size=i.size
 agg:if (c.ty t).isAgg then ∃ zs,z=.agg zs else (z.cells=#[z]∧i.size=1)
structure QFM (P:Program)(c:Ctx)(t:TypeId)(gs:Array Field):Prop where
 stood:P.stoodInHeld t=false
 guard:P.eqGuardType P.depth t=false
 names:∀ g∈gs,g.name≠ "_"
 offs:∀ (k:Nat) (g:Field),gs[k]?=some g→g.offset=k
def Enters (P:Program)(f:FuncId):Prop:=∃ F,P.funcs[f]?=some F∧F.name≠ "runtime.NumGoroutine" ∧ F.body.isSome=true
structure QfI (I:Imm)(ρ:Ren)(vs:List AV)(cvs:Array Value):Prop where
 len:vs.length=cvs.size
 at_:∀ (j:Nat) (x:AV) (u:Value),vs[j]?=some x→cvs[j]?=some u→VRel I ρ x u
def QCE (P:Program)(f:FuncId)(cvs:Array Value)(v:AV)(I:Imm)(w:World):Prop:=
 Calls P f cvs w fun e w'=>∃ cv I',e=.returned cv∧I.le I'∧(∀ c o u,I' c o=some u→I c o=some u∨w.heap.size≤c)∧Qft I' w'∧VRel I' ρ0 v cv∧
  Below w.heap.size w w'∧w'.os=w.os∧w'.tape=w.tape∧w'.output=w.output
def QxA (P:Program)(c:Ctx)(f:FuncId)(e:TypeId):Prop:=
 ∀ (I:Imm) (ρ:Ren) (H:Heap) (w:World) (args:List AV) (cvs:Array Value) (v:AV) (H':Heap),Sim I ρ H w→QfI I ρ args cvs→QkA c e args H=some (v,H')→
   Calls P f cvs w fun r w'=>∃ cv I' ρ',r=.returned cv∧Ext H.length I ρ H w I' ρ' H' w'∧Sim I' ρ' H' w'∧VRel I' ρ' v cv∧H.length≤H'.length
def Qsc (P:Program)(c:Ctx)(f:FuncId):Prim→Prop
 | .no=>True
 | .clone e=>Enters P f∧QxA P c f e
 | .pure p=>Enters P f∧∀ (I:Imm) (w:World) (fs:List AV) (cvs:Array Value) (v:AV),Qft I w→QfI I ρ0 fs cvs→p fs=some v→QCE P f cvs v I w
structure TysOk (P:Program)(c:Ctx):Prop where
 ty:∀ t,(c.ty t).known=true→∃ i d z,TyOk P c t i d z
 flat:∀ t,(c.ty t).flat=true→∀ gs,P.underlying t=some (.struct gs)→QFM P c t gs
structure QpU (P:Program)(c:Ctx):Prop extends TysOk P c where
 fn:∀ f F,c.fn f=some F→P.funcs[f]?=some F∧F.name≠ "runtime.NumGoroutine"
 code:∀ f F b,c.fn f=some F→F.body=some b→codeOk c f b=true
 prim:∀ f,Qsc P c f (c.prim f)
 mixed:P.follows .mixedOrders=true
theorem QpV (I:Imm)(ρ:Ren)(v:Value):VRel I ρ (ofConst v) v:=by
 cases v with
 | bool=>exact .bool _ _
 | int=>exact .int _ _ _
 | string s=>exact .str _ _ _ rfl
 | pointer a=>cases a with
  | none=>exact .nilp _
  | some a=>exact .undef _ _
 | slice a l c=>
  cases a with
  | some a=>exact .undef _ _
  | none=>
   cases l with
   | succ l=>exact .undef _ _
   | zero=>cases c with
    | succ c=>exact .undef _ _
    | zero=>exact .nils _
 | map r=>cases r with
  | none=>exact .nilm _
  | some r=>exact .undef _ _
 | nilFunc=>exact .nilf _
 | nilIface=>exact .nili _
 | _=>exact .undef _ _
theorem QfI.of_map {I:Imm}{ρ:Ren}{fr:Fr}{a:Act}{n:Nat}(h:QcO I ρ fr a.tmps n)(xs:Array Operand):QfI I ρ (xs.toList.map (opv fr)) (xs.map a.eval):=by
 refine ⟨by simp,fun j x u hx hu=>?_⟩
 rw [List.getElem?_map] at hx
 rw [Array.getElem?_map] at hu
 rw [Array.getElem?_toList] at hx
 cases hj:xs[j]? with
 | none=>simp [hj] at hx
 | some o=>
  simp [hj] at hx hu
  subst hx
  subst hu
  exact QaL h o
theorem QfI.mono {I J:Imm}{ρ ρ':Ren}{vs:List AV}{cvs:Array Value}(h:QfI I ρ vs cvs)(hI:I.le J)(hρ:∀ b x,ρ b=some x→ρ' b=some x):QfI J ρ' vs cvs:=
 ⟨h.len,fun j x u hx hu=>(h.at_ j x u hx hu).mono hI hρ⟩
theorem QfI.append {I:Imm}{ρ:Ren}{vs vs':List AV}{cvs cvs':Array Value}(h:QfI I ρ vs cvs)(h':QfI I ρ vs' cvs'):QfI I ρ (vs++vs') (cvs++cvs'):=by
 refine ⟨by simp [h.len,h'.len],fun j x u hx hu=>?_⟩
 rw [List.getElem?_append] at hx
 rw [Array.getElem?_append] at hu
 rw [h.len] at hx
 split at hx
 ·rename_i hj; rw [if_pos hj] at hu; exact h.at_ j x u hx hu
 ·rename_i hj; rw [if_neg hj] at hu; exact h'.at_ _ x u hx hu
section
variable {P:Program} {c:Ctx} {I:Imm} {ρ:Ren} {H:Heap} {w:World}
def Cells (I:Imm)(ρ:Ren)(w:World)(g off:Nat)(r:List AV):Prop:=∀ (j:Nat) (x:AV),r[j]?=some x→∃ v,w.cell? ⟨g,off+j,none⟩=some v∧VRel I ρ x v
theorem Cells.drop {g off:Nat}{r:List AV}(h:Cells I ρ w g off r)(k:Nat):Cells I ρ w g (off+k) (r.drop k):=fun j x hx=>by
 rw [List.getElem?_drop] at hx
 obtain ⟨v,hv,hr⟩:=h (k+j) x hx
 exact ⟨v,by rw [Nat.add_assoc]; exact hv,hr⟩
theorem Qct {i j z n:Nat}(hi:i<n)(hj:j<z):i * z+j<n * z:=by
 have h1:(i+1) * z≤n * z:=Nat.mul_le_mul_right z hi
 rw [Nat.succ_mul] at h1
 omega
theorem QAa (hs:Sim I ρ H w){b i g z n z':Nat}{p:Bool}{es:List (List AV)}{r:List AV}(hb:H[b]?=some (.rows z' p es)∨H[b]?=some (.ro z' es))(hρ:ρ b=some (g,z,n))(hr:es[i]?=some r):
  Cells I ρ w g (i * z) r∧r.length=z∧z'=z∧i<n:=by
 have hi:i<es.length:=(List.getElem?_eq_some_iff.1 hr).1
 rcases hb with hb |hb
 ·obtain ⟨rfl,h2,h3,h4,h5⟩:=hs.blk b _ g z n hb hρ
  have hrl:=(h3 r (List.mem_of_getElem? hr)).1
  refine ⟨fun j x hx=>?_,hrl,rfl,by omega⟩
  have hj:j<z':=by have:=(List.getElem?_eq_some_iff.1 hx).1; omega
  obtain ⟨v,hv⟩:=Option.isSome_iff_exists.1 (h4 _ (Qct (show i<n by omega) hj)).1
  refine ⟨v,hv,?_⟩
  have:=h5 i j r x v hr hx hv
  cases p with
  | true=>exact VRel.any this
  | false=>exact this
 ·obtain ⟨rfl,h2,h3,h4⟩:=hs.blk b _ g z n hb hρ
  refine ⟨fun j x hx=>?_,(h3 r (List.mem_of_getElem? hr)).1,rfl,by omega⟩
  obtain ⟨v,hv,hrel⟩:=h4 i j r x hr hx
  exact ⟨v,hs.imm.at_ _ _ _ hv,hrel.any⟩
theorem Addr.QgW (g o j:Nat):(⟨g,o,none⟩:Addr).add j=⟨g,o+j,none⟩:=by unfold Addr.add; split<;>simp_all
theorem QpW {t:TypeId}{i:TypeInfo}{d:TypeDesc}{z:Value}(h:TyOk P c t i d z)(w:World):(isAgg t).run P w=.ok (c.ty t).isAgg w:=by
 unfold isAgg
 rw [Sem.run_bind,run_underlying h.und w]
 have hr:=h.rel
 unfold TI.isAgg
 revert hr
 generalize (c.ty t).d=td
 intro hr
 cases hr<;>rfl
theorem QpX (hc:TysOk P c){t:TypeId}{g off:Nat}{cs:List AV}{v:AV}(h:pack (c.ty t) cs=some v)(hcs:Cells I ρ w g off cs):
  ∃ cv,(loadVar t ⟨g,off,none⟩).run P w=.ok cv w∧VRel I ρ v cv:=by
 unfold pack at h
 cases hk:(c.ty t).known with
 | false=>simp [hk] at h
 | true=>
  obtain ⟨i,d,z,ht⟩:=hc.ty t hk
  simp only [hk] at h
  unfold loadVar
  rw [Sem.run_bind,QpW ht]
  cases ha:(c.ty t).isAgg with
  | false=>
   simp only [ha] at h
   cases cs with
   | nil=>simp at h
   | cons x r=>
    simp at h
    subst h
    obtain ⟨u,hu,hr⟩:=hcs 0 x (by simp)
    rw [Nat.add_zero] at hu
    refine ⟨u,?_,hr⟩
    simp [load,Sem.run,hu]
  | true=>
   simp only [ha] at h
   cases hb:Nat.ble (c.ty t).size cs.length with
   | false=>simp [hb] at h
   | true=>
    have hle:=Nat.le_of_ble_eq_true hb
    simp only [hb,osi] at h
    subst h
    have hex:∀ n,n≤cs.length→∃ vs:List Value,vs.length=n∧(∀ j u,vs[j]?=some u→w.cell? ((⟨g,off,none⟩:Addr).add j)=some u)∧∀ (j:Nat) (x:AV) (u:Value),cs[j]?=some x→vs[j]?=some u→VRel I ρ x u:=by
     intro n
     induction n with
     | zero=>exact fun _=>⟨[],rfl,fun j u h=>by simp at h,fun j x u _ h=>by simp at h⟩
     | succ n ih=>
      intro hn
      obtain ⟨vs,h1,h2,h3⟩:=ih (by omega)
      obtain ⟨u,hu,hr⟩:=hcs n cs[n] (List.getElem?_eq_getElem (by omega))
      refine ⟨vs++[u],by simp [h1],fun j u' hj=>?_,fun j x u' hx hj=>?_⟩
      ·rw [List.getElem?_append] at hj
       split at hj
       ·exact h2 j u' hj
       ·rename_i hlt
        have:j=n:=by
         have:=(List.getElem?_eq_some_iff.1 hj).1
         simp at this; omega
        subst this
        simp [h1] at hj
        subst hj
        rw [Addr.QgW]; exact hu
      ·rw [List.getElem?_append] at hj
       split at hj
       ·exact h3 j x u' hx hj
       ·rename_i hlt
        have:j=n:=by
         have:=(List.getElem?_eq_some_iff.1 hj).1
         simp at this; omega
        subst this
        simp [h1] at hj
        subst hj
        rw [List.getElem?_eq_getElem (by omega)] at hx
        simp at hx
        subst hx
        exact hr
    obtain ⟨vs,h1,h2,h3⟩:=hex _ hle
    have hl:=run_loadCells_list (P:=P) w ⟨g,off,none⟩ vs h2
    refine ⟨.agg vs.toArray,?_,.agg _ _ _ (by simp [h1]; omega) (fun j x u hx hu=>?_)⟩
    ·simp [Sem.run_bind,sizeOf,typeInfo,ht.info,ht.size,← h1,hl]
    ·rw [List.getElem?_take] at hx
     split at hx
     ·simp at hu; exact h3 j x u hx (by simpa using hu)
     ·cases hx
theorem QxB (hc:TysOk P c){t:TypeId}{off:Nat}{cs:List AV}{vs:Array Value}{v:AV}(h:pack (c.ty t) (cs.drop off)=some v)(hl:cs.length=vs.size)
  (hv:∀ (j:Nat) (x:AV) (v:Value),cs[j]?=some x→vs[j]?=some v→VRel I ρ x v):∃ cv,(part t vs off).run P w=.ok cv w∧VRel I ρ v cv:=by
 unfold pack at h
 cases hk:(c.ty t).known with
 | false=>simp [hk] at h
 | true=>
  obtain ⟨i,d,z,ht⟩:=hc.ty t hk
  simp only [hk] at h
  unfold part
  rw [Sem.run_bind,QpW ht]
  cases ha:(c.ty t).isAgg with
  | false=>
   simp only [ha] at h
   rw [List.head?_drop] at h
   have hlt:off<vs.size:=by have:=(List.getElem?_eq_some_iff.1 h).1; omega
   have e:vs[off]?=some vs[off]:=Array.getElem?_eq_getElem hlt
   refine ⟨vs[off],?_,hv off v _ h e⟩
   simp [e]
  | true=>
   simp only [ha] at h
   cases hb:Nat.ble (c.ty t).size (cs.drop off).length with
   | false=>simp only [hb] at h; cases h
   | true=>
    have hle:=Nat.le_of_ble_eq_true hb
    simp only [hb,osi] at h
    subst h
    have hd:(cs.drop off).length=cs.length - off:=List.length_drop
    refine ⟨.agg (vs.extract off (off+i.size)),?_,.agg _ _ _ ?_ (fun j x u hx hu=>?_)⟩
    ·simp [Sem.run_bind,sizeOf,typeInfo,ht.info]
    ·have hsz:=ht.size
     simp only [List.length_take,Array.size_extract,hd]
     rw [hsz]
     omega
    ·rw [List.getElem?_take] at hx
     split at hx
     ·rw [List.getElem?_drop] at hx
      rw [Array.getElem?_extract] at hu
      split at hu
      ·exact hv (off+j) x u hx hu
      ·cases hu
     ·cases hx
theorem Sim.QkG (hs:Sim I ρ H w){w':World}{cells:Array Value}{el:TypeId}(hw:Qgt w w' (.cells cells el (0,0)))(z n:Nat)(p:Bool)(es:List (List AV))(hn:es.length≤n)(hz:n * z≤cells.size)
  (hr:∀ r∈es,r.length=z∧∀ x∈r,x.Qax=true)
  (hv:∀ (i j:Nat) (r:List AV) (x:AV) (v:Value),es[i]?=some r→r[j]?=some x→cells[i * z+j]?=some v→VRel I (bif p then ρ0 else ρ) x v):
  Sim I (ρ.put H.length (w.heap.size,z,n)) (H++[.rows z p es]) w'∧Ext H.length I ρ H w I (ρ.put H.length (w.heap.size,z,n)) (H++[.rows z p es]) w':=by
 refine hs.alloc hw (.rows z p es) z n ⟨rfl,hn,hr,fun o ho=>?_,fun i j r x v hri hx hcell=>?_⟩
 ·have hlt:o<cells.size:=by omega
  simp [World.cell?,World.frozen?,hw.at_,hlt]
 ·simp [World.cell?,hw.at_] at hcell
  have:=hv i j r x v hri hx hcell
  cases p with
  | true=>exact this
  | false=>exact this.mono (Imm.le_refl I) (hs.Qpi _)
theorem Ren.QAb {z n len cap:Nat}{g:Nat}(h:len≤cap)(hc:cap≤n):VRel I (ρ.put H.length (g,z,n)) (.sl H.length 0 len) (.slice (some ⟨g,0,none⟩) len cap):=
 .sl _ _ _ _ _ _ g z n (Ren.QaV _ _ _) (fun _=>⟨by simp,by omega⟩) h
theorem Ren.QEv {z n:Nat}{g:Nat}:VRel I (ρ.put H.length (g,z,n)) (.ptr H.length 0 0) (.pointer (some ⟨g,0,none⟩)):=by
 have:=VRel.ptr (I:=I) (ρ.put H.length (g,z,n)) H.length 0 0 g z n (Ren.QaV _ _ _)
 simpa using this
end
end Go.Ev
