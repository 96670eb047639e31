/- Tables, and the check that they are a program's. -/
import Derived.Test.YtkecfadnfnnfaaaGreatDoorEvU
import Derived.Test.YtkecfadnfnnfaaaGreatDoorEvT
import Derived.Test.YtkecfadnfnnfaaaGreatDoorEvG
set_option linter.unusedVariables false
set_option linter.unusedSimpArgs false
namespace Go.Ev
def mvB (σ:Nat→Nat)(mv:List Nat):Nat→Heap→Heap
 | _,[]=>[]
 | i,x::r=>(if i∈mv then .dead else x.rn σ)::mvB σ mv (i+1) r
theorem Qqc {β:Type}(σ:Nat→Nat)(mv:List Nat):∀ (i:Nat) (H:Heap) (k:Heap→β),Quu σ mv i H k=k (mvB σ mv i H)
 | i,[],k=>rfl
 | i,x::r,k=>by
  simp only [Quu,mvB]
  cases h:isIn i mv with
  | true=>rw [if_pos ((Qgu i mv).1 h)]; simp only [ifB]; rw [Qqc]
  | false=>
   rw [if_neg (fun hm=>by rw [(Qgu i mv).2 hm] at h; cases h)]
   simp only [ifB,Qs6]; rw [Qqc]
theorem QAt (σ:Nat→Nat)(mv:List Nat):∀ (H:Heap) (i j:Nat),(mvB σ mv i H)[j]?=(H[j]?).map fun x=>if i+j∈mv then .dead else x.rn σ
 | [],i,j=>by simp [mvB]
 | x::r,i,0=>by simp [mvB]
 | x::r,i,j+1=>by
  simp only [mvB,List.getElem?_cons_succ]
  rw [QAt σ mv r (i+1) j,show i+1+j=i+(j+1) by omega]
theorem QgH (σ:Nat→Nat)(mv:List Nat):∀ (i:Nat) (H:Heap),(mvB σ mv i H).length=H.length
 | _,[]=>rfl
 | i,x::r=>by simp [mvB,QgH σ mv (i+1) r]
theorem Qqd (keep:List Nat):∀ (H:Heap) (i:Nat),(Qgh keep i H).Nodup∧∀ b∈Qgh keep i H,i≤b∧b ∉ keep∧∃ z es,H[b - i]?=some (.rows z true es)
 | [],i=>by simp [Qgh]
 | k::r,i=>by
  obtain ⟨h1,h2⟩:=Qqd keep r (i+1)
  have tail:∀ b∈Qgh keep (i+1) r,i≤b∧b ∉ keep∧∃ z es,(k::r)[b - i]?=some (.rows z true es):=fun b hb=>by
   obtain ⟨a1,a2,z,es,a3⟩:=h2 b hb
   refine ⟨by omega,a2,z,es,?_⟩
   rw [show b - i=(b - (i+1))+1 by omega]
   exact a3
  unfold Qgh
  split
  ·rename_i z es
   cases hk:isIn i keep with
   | true=>exact ⟨h1,tail⟩
   | false=>
    simp only [ifB]
    refine ⟨List.nodup_cons.2 ⟨fun hm=>by have:=(h2 i hm).1; omega,h1⟩,fun b hb=>?_⟩
    rcases List.mem_cons.1 hb with rfl |hb
    ·exact ⟨Nat.le_refl _,fun hm=>(by rw [(Qgu b keep).2 hm] at hk; cases hk),z,es,by simp⟩
    ·exact tail b hb
  ·exact ⟨h1,tail⟩
def Ren.mv (ρ:Ren)(m:Nat)(mv:List Nat):Ren:=fun b=>if b<m then ρ b else match mv[b - m]? with |some b0=>ρ b0 |none=>none
section
variable {I:Imm} {ρ:Ren} {H:Heap} {w:World}
theorem Qqe {β:Type}(args:List AV)(H:Heap)(k:Heap→β):Quv args H k=k (mvB (mvNo H.length (Qgh (args.flatMap refs) 0 H)) (Qgh (args.flatMap refs) 0 H) 0 H++(Qgh (args.flatMap refs) 0 H).map (Qcr H)):=by
 unfold Quv
 simp only [Qat,Qqc]
theorem QEz {m:Nat}{mv:List Nat}{b:Nat}(h:b∈mv):∃ j,mvNo m mv b=m+j∧mv[j]?=some b:=by
 obtain ⟨j,h1,h2⟩:=QnH b mv 0 h
 exact ⟨j,by unfold mvNo; rw [(Qgu b mv).2 h]; simp only [ifB]; omega,h2⟩
theorem QCR {m:Nat}{mv:List Nat}{b:Nat}(h:b ∉ mv):mvNo m mv b=b:=by
 unfold mvNo
 cases hk:isIn b mv with
 | true=>exact absurd ((Qgu b mv).1 hk) h
 | false=>rfl
theorem Sim.QG8 (hs:Sim I ρ H w){mv:List Nat}(hd:mv.Nodup)(hmv:∀ b∈mv,∃ z es,H[b]?=some (.rows z true es)):
  Sim I (ρ.mv H.length mv) (mvB (mvNo H.length mv) mv 0 H++mv.map (Qcr H)) w∧Ext H.length I ρ H w I (ρ.mv H.length mv) (mvB (mvNo H.length mv) mv 0 H++mv.map (Qcr H)) w∧
  (∀ b x,ρ b=some x→ρ.mv H.length mv (mvNo H.length mv b)=some x):=by
 have hlow:∀ b x,ρ b=some x→ρ.mv H.length mv b=some x:=fun b x hx=>by simp [Ren.mv,(hs.dom b x hx).1,hx]
 have hno:∀ b x,ρ b=some x→ρ.mv H.length mv (mvNo H.length mv b)=some x:=fun b x hx=>by
  by_cases hm:b∈mv
  ·obtain ⟨j,h1,h2⟩:=QEz (m:=H.length) hm
   rw [h1]
   have hnl:¬ (H.length+j<H.length):=by omega
   simp [Ren.mv,h2,hx,hnl]
  ·rw [QCR hm]; exact hlow b x hx
 have horig:∀ (i:Nat) (k:Blk),(mvB (mvNo H.length mv) mv 0 H++mv.map (Qcr H))[i]?=some k→
   k=.dead∨∃ o k0,H[o]?=some k0∧ρ.mv H.length mv i=ρ o∧k.Qfn=k0.Qfn∧k.live=k0.live∧((i=o∧o ∉ mv∧k=k0.rn (mvNo H.length mv))∨(H.length≤i∧mv[i - H.length]?=some o∧k=k0∧∃ z es,k0=.rows z true es)):=fun i k hk=>by
  by_cases hi:i<H.length
  ·rw [List.getElem?_append_left (by rw [QgH]; exact hi),QAt,List.getElem?_eq_getElem hi] at hk
   simp only [Option.map_some,Nat.zero_add,osi] at hk
   split at hk
   ·exact .inl hk.symm
   ·rename_i hm
    refine .inr ⟨i,H[i],List.getElem?_eq_getElem hi,by simp [Ren.mv,hi],?_,?_,.inl ⟨rfl,hm,hk.symm⟩⟩
    ·rw [← hk,QeW]
    ·rw [← hk,QnI]
  ·rw [List.getElem?_append_right (by rw [QgH]; omega),QgH,List.getElem?_map] at hk
   cases hj:mv[i - H.length]? with
   | none=>simp [hj] at hk
   | some o=>
    simp [hj] at hk
    obtain ⟨z,es,ho⟩:=hmv o (List.mem_of_getElem? hj)
    have hb:Qcr H o=.rows z true es:=by simp [Qcr,ho]
    rw [hb] at hk
    subst hk
    exact .inr ⟨o,_,ho,by simp [Ren.mv,hi,hj],rfl,rfl,.inr ⟨by omega,rfl,rfl,z,es,rfl⟩⟩
 have same:∀ i i' o k k',((i=o∧o ∉ mv∧k)∨(H.length≤i∧mv[i - H.length]?=some o∧k'))→∀ l l',((i'=o∧o ∉ mv∧l)∨(H.length≤i'∧mv[i' - H.length]?=some o∧l'))→i=i':=fun i i' o k k' h l l' h'=>by
  rcases h with ⟨rfl,h1,_⟩ |⟨h1,h2,_⟩<;>rcases h' with ⟨rfl,h1',_⟩ |⟨h1',h2',_⟩
  ·rfl
  ·exact absurd (List.mem_of_getElem? h2') h1
  ·exact absurd (List.mem_of_getElem? h2) h1'
  ·have e1:=List.getElem?_eq_some_iff.1 h2
   have e2:=List.getElem?_eq_some_iff.1 h2'
   have:=(List.getElem_inj hd).1 (e1.2.trans e2.2.symm)
   omega
 have hlen:(mvB (mvNo H.length mv) mv 0 H++mv.map (Qcr H)).length=H.length+mv.length:=by rw [List.length_append,QgH,List.length_map]
 refine ⟨⟨hs.imm,fun b hb=>?_,fun b x hx=>?_,fun b k c z n hk hx=>?_,fun b b' k k' x x' hk hk' s s' hx hx' q q' e=>?_,fun b k x hk hl hx q o=>?_⟩,
  ⟨Imm.le_refl I,fun _ _ _ h=>.inl h,fun b hb=>by simp [Ren.mv,hb],fun b k hb hk hsk=>?_,?_,?_,rfl,rfl,rfl,Nat.le_refl _,fun _ _ _=>rfl⟩,hno⟩
 ·rw [hlen] at hb
  by_cases hlt:b<H.length
  ·simp only [Ren.mv,hlt,if_true]; exact hs.tot b hlt
  ·simp only [Ren.mv,hlt,if_false]
   rw [List.getElem?_eq_getElem (by omega)]
   obtain ⟨z,es,ho⟩:=hmv _ (List.getElem_mem (show b - H.length<mv.length by omega))
   exact hs.tot _ (List.getElem?_eq_some_iff.1 ho).1
 ·rw [hlen]
  unfold Ren.mv at hx
  split at hx
  ·exact ⟨by omega,(hs.dom b x hx).2⟩
  ·cases hj:mv[b - H.length]? with
   | none=>simp [hj] at hx
   | some o=>
    simp [hj] at hx
    have:=(List.getElem?_eq_some_iff.1 hj).1
    exact ⟨by omega,(hs.dom o x hx).2⟩
 ·rcases horig b k hk with rfl |⟨o,k0,ho,hρ,_,_,h⟩
  ·trivial
  ·rw [hρ] at hx
   have hb:=hs.blk o k0 c z n ho hx
   rcases h with ⟨_,_,rfl⟩ |⟨_,_,rfl,z',es,rfl⟩
   ·exact Qz8 hb (fun d _ y hy=>hno d y hy)
   ·exact hb.mono (Imm.le_refl I) hlow (fun _=>rfl)
 ·rcases horig b k hk with rfl |⟨o,k0,ho,hρ,e1,_,h⟩
  ·simp [Blk.Qfn] at s
  rcases horig b' k' hk' with rfl |⟨o',k0',ho',hρ',e1',_,h'⟩
  ·simp [Blk.Qfn] at s'
  rw [hρ] at hx
  rw [hρ'] at hx'
  have:=hs.inj o o' k0 k0' x x' ho ho' (e1▸s) (e1'▸s') hx hx' q q' e
  subst this
  exact same b b' o _ _ h _ _ h'
 ·rcases horig b k hk with rfl |⟨o',k0,ho,hρ,_,e2,h⟩
  ·simp [Blk.live] at hl
  rw [hρ] at hx
  exact hs.sep o' k0 x ho (e2▸hl) hx q o
 ·rcases horig b k hk with rfl |⟨o,k0,ho,hρ,e1,_,h⟩
  ·simp [Blk.Qfn] at hsk
  rcases h with ⟨rfl,_,_⟩ |⟨h1,_⟩
  ·exact ⟨k0,ho,e1▸hsk⟩
  ·omega
 ·rintro c ⟨b,k,x,hk,hsk,hx,e⟩
  rcases horig b k hk with rfl |⟨o,k0,ho,hρ,e1,_,h⟩
  ·simp [Blk.Qfn] at hsk
  rw [hρ] at hx
  exact .inl ⟨o,k0,x,ho,e1▸hsk,hx,e⟩
 ·rintro c ⟨b,k,x,hk,hsk,hx,e⟩
  rcases horig b k hk with rfl |⟨o,k0,ho,hρ,_,e2,h⟩
  ·simp [Blk.live] at hsk
  rw [hρ] at hx
  exact .inl ⟨o,k0,x,ho,e2▸hsk,hx,e⟩
theorem QFQ {args:List AV}{cvs:Array Value}(hs:Sim I ρ H w)(ha:QfI I ρ args cvs){β:Type}(c:Ctx)(f:FuncId):
  ∃ H1 ρ1,(∀ (γ:Type) (k:Heap→γ),mvIf c f args H k=k H1)∧Sim I ρ1 H1 w∧Ext H.length I ρ H w I ρ1 H1 w∧QfI I ρ1 args cvs∧H.length≤H1.length:=by
 unfold mvIf
 cases c.stay f with
 | true=>exact ⟨H,ρ,fun _ _=>rfl,hs,Ext.refl _ _ _ _ _,ha,Nat.le_refl _⟩
 | false=>
  obtain ⟨m1,m2⟩:=Qqd (args.flatMap refs) H 0
  obtain ⟨s1,e1,_⟩:=hs.QG8 (mv:=Qgh (args.flatMap refs) 0 H) m1 (fun b hb=>by obtain ⟨_,_,h⟩:=m2 b hb; exact h)
  exact ⟨_,_,fun γ k=>by simp only [ifB]; exact Qqe args H k,s1,e1,⟨ha.len,fun j x u hx hu=>e1.vrel hs (ha.at_ j x u hx hu)⟩,by rw [List.length_append,QgH]; omega⟩
end
end Go.Ev
namespace Go.Ev
open Go.RowKit
section
variable {P:Program} {c:Ctx} {rec:Task→Option Res} {I:Imm} {ρ:Ren} {H:Heap} {w:World}
theorem QuN:∀ (l:List AV) (k t:Nat),(Qhq k l).get t=if k≤t then (l[t - k]?).getD .undef else .undef
 | [],k,t=>by simp [Qhq,Fr.get_nil]
 | v::l,k,t=>by
  simp only [Qhq]
  rw [Fr.QbO,QuN l]
  cases h:Nat.beq k t with
  | true=>
   have:=Nat.eq_of_beq_eq_true h
   subst this
   simp [ifB]
  | false=>
   have hne:k≠t:=fun e=>by subst e; simp [Nat.beq_refl] at h
   simp only [ifB]
   by_cases hk:k+1≤t
   ·rw [if_pos hk,if_pos (by omega),show t - k=(t - (k+1))+1 by omega]
    simp
   ·rw [if_neg hk,if_neg (by omega)]
theorem Qsi:∀ (l:List AV) (k:Nat),∀ p∈Qhq k l,k≤p.1
 | [],k,p,h=>by simp [Qhq] at h
 | v::l,k,p,h=>by
  simp only [Qhq,List.mem_cons] at h
  rcases h with rfl |h
  ·exact Nat.le_refl _
  ·have:=Qsi l (k+1) p h; omega
theorem QuO:∀ (l:List AV) (k:Nat),Srt (Qhq k l)
 | [],k=>List.Pairwise.nil
 | v::l,k=>by
  simp only [Qhq]
  exact List.pairwise_cons.2 ⟨fun p hp=>by have:=Qsi l (k+1) p hp; simp only; omega,QuO l (k+1)⟩
theorem QuP {args:List AV}{cvs:Array Value}{n:Nat}(ha:QfI I ρ args cvs)(hn:args.length≤n):QcO I ρ (Qhq 0 args) (cvs++Array.replicate (n - cvs.size) undef) n:=by
 refine QcO.Quy (by simp; have:=ha.len; omega) (QuO _ _) fun t=>?_
 rw [QuN,if_pos (Nat.zero_le _),Nat.sub_zero]
 cases hx:args[t]? with
 | none=>exact .undef _ _
 | some x=>
  have ht:t<cvs.size:=by have:=(List.getElem?_eq_some_iff.1 hx).1; have:=ha.len; omega
  rw [Array.getD_eq_getD_getElem?,Array.getElem?_append_left ht,Array.getElem?_eq_getElem ht]
  exact ha.at_ t x _ hx (Array.getElem?_eq_getElem ht)
theorem sim0 (h:Qft I w):Sim I ρ0 [] w:=
 ⟨h,fun b hb=>by simp at hb,fun b x hx=>by simp [ρ0] at hx,fun b k c z n hb=>by simp at hb,fun b b' k k' x x' hb=>by simp at hb,fun b k x hb=>by simp at hb⟩
theorem Qqf {c:Nat}:¬ QoH ρ0 [] c:=fun ⟨b,k,x,hb,_⟩=>by simp at hb
theorem Qwg (hs:Sim I ρ H w){v x:AV}{cv:Value}(h:Qge H v=some x)(hv:VRel I ρ v cv):∃ l:List Nat,VRel (I.add w (QoI H ρ l)) ρ0 x cv:=by
 have hle:∀ l,I.le (I.add w (QoI H ρ l)):=fun l=>Imm.QuA hs.imm _
 have gen:∀ v:AV,freeze H v=some x→VRel I ρ v cv→∃ l:List Nat,VRel (I.add w (QoI H ρ l)) ρ0 x cv:=fun v h hv=>
  ⟨frozenIn 12 v,QgV hs (hle _) 12 v x cv h hv (QiA (I:=I) (w:=w) H ρ _)⟩
 cases v with
 | tup vs=>
  simp only [Qge] at h
  split at h
  ·rename_i xs hm
   simp at h
   subst h
   cases hv with
   | tup _ _ cvs hl hvs=>
    refine ⟨vs.flatMap (frozenIn 12),?_⟩
    have:=Ql7 (cvs:=cvs) hs hm ⟨hl,hvs⟩ (hle _) (QiA (I:=I) (w:=w) H ρ (vs.flatMap (frozenIn 12)))
    exact .tup _ _ _ this.len this.at_
  ·cases h
 | _=>exact gen _ h hv
theorem Qtf (hc:QpU P c)(hg:Good P c rec):Good P c (Qa6 c rec) where
 pfn:=by
  intro f args v H' h I w cvs hI ha
  simp only [Qa6] at h
  cases hF:c.fn f with
  | none=>simp [hF] at h
  | some F=>
   simp only [hF] at h
   obtain ⟨hPf,hname⟩:=hc.fn f F hF
   cases hb:F.body with
   | none=>simp [hb] at h
   | some b=>
    simp only [hb] at h
    have hok:=hc.code f F b hF hb
    refine ⟨⟨F,hPf,hname,by rw [hb]; rfl⟩,?_⟩
    split at h
    ·cases h
    rename_i hn
    have hn:=Nat.le_of_ble_eq_true hn
    simp only [Qat] at h
    cases hev:Qaw c rec f 0 F.ntmps 0 b { fr:=Qhq 0 args,H:=[] } with
    | none=>simp [hev] at h
    | some r=>
     obtain ⟨e,st⟩:=r
     have hne:∀ k,e≠.exit k:=fun k he=>by subst he; simp [hev] at h
     have h':(match QfX c F st with |none=>none |some v=>match Qge st.H v with |none=>none |some v=>some (Res.val v []))=some (Res.val v H'):=by
      rw [hev] at h
      cases e with
      | norm=>exact h
      | ret=>exact h
      | exit k=>exact absurd rfl (hne k)
     clear h
     split at h'
     ·cases h'
     rename_i v0 hres
     split at h'
     ·cases h'
     rename_i v1 hfz
     simp only [osi,Res.val.injEq] at h'
     obtain ⟨rfl,rfl⟩:=h'
     refine calls_of_wp hPf hb (wp_mono (Qd3 hc hg hF b 0 _ e st hev hok I ρ0 w { tmps:=cvs++Array.replicate (F.ntmps - cvs.size) undef,defers:=[] } (sim0 hI) (QuP ha hn) (Nat.zero_le _) rfl) (fun x a' w' hp=>?_))
     obtain ⟨rfl,d1,I',ρ',e1,s1,f1,_⟩:=hp
     obtain ⟨cv,hrun,hrel⟩:=Qqb hc.toTysOk hres s1 f1
     obtain ⟨l,hfin⟩:=Qwg s1 hfz hrel
     have hpost:bodyPost P F (fun r w'=>∃ cv I',r=.returned cv∧I.le I'∧(∀ c o u,I' c o=some u→I c o=some u∨w.heap.size≤c)∧Qft I' w'∧VRel I' ρ0 v1 cv∧
       Below w.heap.size w w'∧w'.os=w.os∧w'.tape=w.tape∧w'.output=w.output) .normal a' w':=by
      refine ⟨d1,cv,hrun,cv,I'.add w' (QoI st.H ρ' l),rfl,Imm.le_trans e1.imm (Imm.QuA s1.imm _),fun q o u hq=>?_,Imm.Qlp s1.imm _,hfin,⟨e1.os,e1.tape,e1.output,e1.size,fun k hk=>e1.kept k hk Qqf⟩,e1.os,e1.tape,e1.output⟩
      have hsz:=e1.size
      rcases Qv9 st.H ρ' l q o u hq with h1 |⟨b,_,k,x,hk,hl,hx,hxe⟩ |h1
      ·rcases e1.Qr9 q o u h1 with h2 |h2 |h2
       ·exact .inl h2
       ·exact absurd h2 Qqf
       ·exact .inr h2
      ·rcases e1.newL q ⟨b,k,x,hk,hl,hx,hxe⟩ with h2 |h2
       ·exact absurd h2 Qqf
       ·exact .inr h2
      ·exact .inr (by omega)
     cases e with
     | norm=>exact hpost
     | ret=>exact hpost
     | exit k=>exact absurd rfl (hne k)
 fn:=by
  intro f args H v H' h I ρ w cvs hs ha
  simp only [Qa6] at h
  cases hF:c.fn f with
  | none=>simp [hF] at h
  | some F=>
   simp only [hF] at h
   obtain ⟨hPf,hname⟩:=hc.fn f F hF
   cases hb:F.body with
   | none=>simp [hb] at h
   | some b=>
    simp only [hb] at h
    have hok:=hc.code f F b hF hb
    refine ⟨⟨F,hPf,hname,by rw [hb]; rfl⟩,?_⟩
    split at h
    ·cases h
    rename_i hn
    have hn:=Nat.le_of_ble_eq_true hn
    simp only [Qat,fLen,Qig] at h
    obtain ⟨H1,ρ1,hmv,s0,e0,a0,l0⟩:=QFQ (β:=Option Res) hs ha c f
    rw [hmv] at h
    cases hev:Qaw c rec f H.length F.ntmps 0 b { fr:=Qhq 0 args,H:=H1 } with
    | none=>simp [hev] at h
    | some r=>
     obtain ⟨e,st⟩:=r
     have hne:∀ k,e≠.exit k:=fun k he=>by subst he; simp [hev] at h
     have h':(match QfX c F st with |none=>none |some v=>({ fr:=[(0,v)],H:=st.H }:St).canon H.length fun st1=>hV (st1.fr.get 0) fun v=>some (Res.val v st1.H))=some (Res.val v H'):=by
      rw [hev] at h
      cases e with
      | norm=>exact h
      | ret=>exact h
      | exit k=>exact absurd rfl (hne k)
     clear h
     split at h'
     ·cases h'
     rename_i v0 hres
     refine calls_of_wp hPf hb (wp_mono (Qd3 hc hg hF b 0 _ e st hev hok I ρ1 w { tmps:=cvs++Array.replicate (F.ntmps - cvs.size) undef,defers:=[] } s0 (QuP a0 hn) l0 rfl) (fun x a' w' hp=>?_))
     obtain ⟨rfl,d1,I',ρ',e1,s1,f1,m1⟩:=hp
     obtain ⟨cv,hrun,hrel⟩:=Qqb hc.toTysOk hres s1 f1
     obtain ⟨st1,ρ2,k1,k2,k3,k4,k5,k6⟩:=QuB (m:=H.length) (st:={ fr:=[(0,v0)],H:=st.H }) (g:=fun t=>if t=0 then cv else undef) s1 h' m1 (fun t=>by
      rw [Fr.QbO]
      cases ht:Nat.beq 0 t with
      | true=>
       have:=Nat.eq_of_beq_eq_true ht
       subst this
       simpa [ifB] using hrel
      | false=>simp only [ifB]; rw [Fr.get_nil]; exact .undef _ _) (fun p hp=>by simp at hp; subst hp; exact ⟨cv,hrel⟩)
     rw [QsY] at k1
     simp only [osi,Res.val.injEq] at k1
     obtain ⟨rfl,rfl⟩:=k1
     have hpost:bodyPost P F (fun r w'=>∃ cv I' ρ',r=.returned cv∧Ext H.length I ρ H w I' ρ' st1.H w'∧Sim I' ρ' st1.H w'∧VRel I' ρ' (st1.fr.get 0) cv∧H.length≤st1.H.length) .normal a' w':=
      ⟨d1,cv,hrun,cv,I',ρ2,rfl,(e0.trans e1 (Nat.le_refl _)).trans k5 (Nat.le_refl _),k2,by simpa using k3 0,k6⟩
     cases e with
     | norm=>exact hpost
     | ret=>exact hpost
     | exit k=>exact absurd rfl (hne k)
 loop:=by
  intro f id m b st e st' h hok F hF I ρ w a hs hf hm hd
  simp only [Qa6,hF] at h
  cases hev:Qaw c rec f m F.ntmps id b st with
  | none=>simp [hev] at h
  | some r=>
   obtain ⟨e1,st1⟩:=r
   refine Qwf.round (wp_mono (Qd3 hc hg hF b id st e1 st1 hev hok I ρ w a hs hf hm hd) (fun ex a' w' hp=>?_))
   rw [hev] at h
   obtain ⟨rfl,hrest⟩:=hp
   cases e1 with
   | norm=>
    obtain ⟨d2,I2,ρ2,x2,s2,f2,m2⟩:=hrest
    obtain ⟨st2,hto,h⟩:=Qqa h
    obtain ⟨I3,ρ3,x3,s3,f3,m3⟩:=hto F.ntmps I2 ρ2 w' a'.tmps s2 f2 m2
    have hl:=hg.loop _ _ _ _ _ _ _ h hok F hF I3 ρ3 w' a' s3 f3 m3 d2
    intro fr k cs
    obtain ⟨ex,a3,w3,hq,harr⟩:=hl fr k cs
    exact ⟨ex,a3,w3,(hq.trans x3).trans x2,harr⟩
   | exit k=>
    simp at h
    obtain ⟨rfl,rfl⟩:=h
    exact ⟨rfl,hrest⟩
   | ret=>
    simp at h
    obtain ⟨rfl,rfl⟩:=h
    exact ⟨rfl,hrest⟩
theorem QxJ (hc:QpU P c):∀ k,Good P c (run c k)
 | 0=>⟨⟨fun _ _ _ _ h=>by simp [run] at h,fun _ _ _ _ _ h=>by simp [run] at h⟩,fun _ _ _ _ _ _ _ h=>by simp [run] at h⟩
 | k+1=>Qtf hc (QxJ hc k)
end
end Go.Ev
noncomputable section
namespace Go.Ev
structure Tabs where
 nt:Nat
 tys:Tr TI
 nf:Nat
 fns:Tr (Option Func)
 keeps:Tr (List (Nat×Nat))
 outs:Tr (List (Nat×Nat))
 ress:Tr Nat
 QyT:Tr (List (Nat×Nat))
 QCS:Tr (List (Nat×Plan))
 raws:Tr Bool
 QCT:Tr Prim
 QCU:Tr (List (Nat×List Nat))
 pres:Tr (List (Nat×Nat))
 stays:Tr Bool
def QAu (l:List (Nat×Nat))(k:Nat):Nat:=match l with |[]=>0 |(a,b)::r=>match Nat.beq a k with |true=>b |false=>QAu r k
def QFR (l:List (Nat×Plan))(k:Nat):Plan:=match l with |[]=>.done |(a,b)::r=>match Nat.beq a k with |true=>b |false=>QFR r k
def QFS (l:List (Nat×List Nat))(k:Nat):List Nat:=match l with |[]=>[] |(a,b)::r=>match Nat.beq a k with |true=>b |false=>QFS r k
def Tabs.ctx (T:Tabs):Ctx:=
 { ty:=fun t=>ifB (Nat.blt t T.nt) (T.tys.get t) ⟨.other,1,0,[.undef],false,[]⟩,fn:=fun f=>ifB (Nat.blt f T.nf) (T.fns.get f) none,keep:=fun f=>QAu (T.keeps.get f),out:=fun f=>QAu (T.outs.get f),res:=T.ress.get,live:=fun f=>QAu (T.QyT.get f),
   plan:=fun f=>QFR (T.QCS.get f),raw:=T.raws.get,prim:=fun f=>ifB (Nat.blt f T.nf) (T.QCT.get f) .no,
   nilz:=fun f=>QFS (T.QCU.get f),pre:=fun f=>QAu (T.pres.get f),stay:=T.stays.get }
def QyU:List (Nat×TypeId)→List Field→(TypeId→Bool)→Bool
 | [],[],_=>true
 | p::l,g::m,k=>Nat.beq g.offset p.1&&Nat.beq g.type p.2&&k p.2&&QyU l m k
 | _,_,_=>false
def tdB (c:Ctx):TD→TypeDesc→Bool
 | .int k,.int j=>decide (k=j)
 | .bool,.bool=>true
 | .str,.string=>true
 | .ptr e,.pointer e'=>Nat.beq e e'
 | .slice e,.slice e'=>Nat.beq e e'&&(c.ty e).known
 | .arr n e,.array m e'=>Nat.beq n m&&Nat.beq e e'&&(c.ty e).known
 | .map k e,.map k' e'=>Nat.beq k k'&&Nat.beq e e'&&(c.ty k).known&&(c.ty e).known
 | .Qbk fs,.struct gs=>QyU fs gs.toList fun t=>(c.ty t).known
 | .func,.func _ _ _=>true
 | .iface,.interface _=>true
 | _,_=>false
def QxK:Value→Bool
 | .agg _=>true
 | _=>false
def tyB (P:Program)(c:Ctx)(t:TypeId):Bool:=
 match (c.ty t).known with
 | false=>true
 | true=>match P.info? t,P.underlying t with
  | some i,some d=>tdB c (c.ty t).d d&&Nat.beq i.size (c.ty t).size&&Nat.beq i.bytes (c.ty t).bytes&&(match i.zero with
   | some z=>AV.beqL (c.ty t).zero (z.cells.toList.map ofConst)&&Nat.beq z.cells.size i.size&&(match (c.ty t).isAgg with |true=>QxK z |false=>!QxK z&&Nat.beq i.size 1)
   | none=>false)
  | _,_=>false
def QCV:List Field→Nat→Bool
 | [],_=>true
 | g::l,k=>Nat.beq g.offset k&&(g.name != "_")&&QCV l (k+1)
def QEA (P:Program)(c:Ctx)(t:TypeId):Bool:=
 match (c.ty t).flat with
 | false=>true
 | true=>!P.stoodInHeld t&&!P.eqGuardType P.depth t&&(match P.underlying t with |some (.struct gs)=>QCV gs.toList 0 |_=>true)
def QrG (c:Ctx)(f:FuncId):Bool:=match c.fn f with
 | none=>true
 | some F=>(F.name != "runtime.NumGoroutine")&&(match F.body with |some b=>codeOk c f b |none=>true)
theorem Qsj:∀ {fs:List (Nat×TypeId)} {gs:List Field} {k:TypeId→Bool},QyU fs gs k=true→fs.length=gs.length∧∀ (j:Nat) (p:Nat×TypeId) (g:Field),fs[j]?=some p→gs[j]?=some g→g.offset=p.1∧g.type=p.2∧k p.2=true
 | [],[],k,_=>⟨rfl,fun j p g h=>by simp at h⟩
 | [],_::_,k,h=>by simp [QyU] at h
 | _::_,[],k,h=>by simp [QyU] at h
 | p::l,g::m,k,h=>by
  simp only [QyU] at h
  rw [Bool.and_eq_true,Bool.and_eq_true,Bool.and_eq_true] at h
  obtain ⟨⟨⟨h1,h2⟩,h3⟩,h4⟩:=h
  obtain ⟨e1,e2⟩:=Qsj h4
  refine ⟨by simp [e1],fun j p' g' hp hg=>?_⟩
  cases j with
  | zero=>simp at hp hg; subst hp; subst hg; exact ⟨Nat.eq_of_beq_eq_true h1,Nat.eq_of_beq_eq_true h2,h3⟩
  | succ j=>exact e2 j p' g' hp hg
theorem QCW {c:Ctx}{td:TD}{d:TypeDesc}(h:tdB c td d=true):QnJ c td d:=by
 unfold tdB at h
 split at h
 ·have:=of_decide_eq_true h; subst this; exact .int _
 ·exact .bool
 ·exact .str
 ·have:=Nat.eq_of_beq_eq_true h; subst this; exact .ptr _
 ·rw [Bool.and_eq_true] at h; have:=Nat.eq_of_beq_eq_true h.1; subst this; exact .slice _ h.2
 ·rw [Bool.and_eq_true,Bool.and_eq_true] at h; have:=Nat.eq_of_beq_eq_true h.1.1; subst this; have:=Nat.eq_of_beq_eq_true h.1.2; subst this; exact .arr _ _ h.2
 ·rw [Bool.and_eq_true,Bool.and_eq_true,Bool.and_eq_true] at h
  have:=Nat.eq_of_beq_eq_true h.1.1.1; subst this
  have:=Nat.eq_of_beq_eq_true h.1.1.2; subst this
  exact .map _ _ h.1.2 h.2
 ·obtain ⟨e1,e2⟩:=Qsj h
  exact .Qbk _ _ (by simpa using e1) (fun k p g hp hg=>e2 k p g hp (by simpa using hg))
 ·exact .func _ _ _
 ·exact .iface _
 ·cases h
theorem QCX {P:Program}{c:Ctx}{t:TypeId}(h:tyB P c t=true)(hk:(c.ty t).known=true):∃ i d z,TyOk P c t i d z:=by
 unfold tyB at h
 simp only [hk] at h
 split at h
 case h_2=>cases h
 rename_i i d hi hd
 rw [Bool.and_eq_true,Bool.and_eq_true,Bool.and_eq_true] at h
 obtain ⟨⟨⟨h1,h2⟩,h3⟩,h4⟩:=h
 split at h4
 case h_2=>cases h4
 rename_i z hz
 rw [Bool.and_eq_true,Bool.and_eq_true] at h4
 obtain ⟨⟨h5,h6⟩,h7⟩:=h4
 refine ⟨i,d,z,hi,hd,QCW h1,Nat.eq_of_beq_eq_true h2,Nat.eq_of_beq_eq_true h3,hz,AV.Qcu _ _ h5,Nat.eq_of_beq_eq_true h6,?_⟩
 cases ha:(c.ty t).isAgg with
 | true=>
  rw [ha] at h7
  rw [if_pos rfl]
  cases z<;>simp [QxK] at h7
  exact ⟨_,rfl⟩
 | false=>
  rw [ha] at h7
  simp only at h7
  rw [Bool.and_eq_true] at h7
  rw [if_neg (by simp)]
  refine ⟨?_,Nat.eq_of_beq_eq_true h7.2⟩
  have h8:=h7.1
  cases z<;>simp [QxK] at h8<;>rfl
theorem Qsk:∀ {gs:List Field} {k:Nat},QCV gs k=true→(∀ g∈gs,g.name≠ "_")∧∀ (j:Nat) (g:Field),gs[j]?=some g→g.offset=k+j
 | [],k,_=>⟨fun g h=>by simp at h,fun j g h=>by simp at h⟩
 | g::l,k,h=>by
  simp only [QCV] at h
  rw [Bool.and_eq_true,Bool.and_eq_true] at h
  obtain ⟨e1,e2⟩:=Qsk h.2
  refine ⟨fun g' hg=>?_,fun j g' hg=>?_⟩
  ·rcases List.mem_cons.1 hg with rfl |hg
   ·simpa using h.1.2
   ·exact e1 g' hg
  ·cases j with
   | zero=>simp at hg; subst hg; exact Nat.eq_of_beq_eq_true h.1.1
   | succ j=>have:=e2 j g' hg; omega
def Tr.toL {α:Type}:Tr α→List α
 | .leaf a=>[a]
 | .node _ l r=>l.toL++r.toL
def Tr.fit {α:Type}:Tr α→Nat→Nat→Bool
 | .leaf _,lo,hi=>Nat.beq hi (lo+1)
 | .node n l r,lo,hi=>l.fit lo n&&r.fit n hi
theorem Tr.Qtg {α:Type}:∀ {T:Tr α} {lo hi:Nat},T.fit lo hi=true→T.toL.length=hi - lo∧lo<hi∧∀ t,lo≤t→t<hi→T.toL[t - lo]?=some (T.get t)
 | .leaf a,lo,hi,h=>by
  have h:=Nat.eq_of_beq_eq_true h
  subst h
  refine ⟨by simp [toL],by omega,fun t h1 h2=>?_⟩
  have:t - lo=0:=by omega
  rw [this]
  rfl
 | .node n l r,lo,hi,h=>by
  simp only [fit] at h
  rw [Bool.and_eq_true] at h
  obtain ⟨a1,a2,a3⟩:=Qtg h.1
  obtain ⟨b1,b2,b3⟩:=Qtg h.2
  refine ⟨by simp [toL,a1,b1]; omega,by omega,fun t h1 h2=>?_⟩
  rw [QCz]
  simp only [toL]
  rw [List.getElem?_append,a1]
  by_cases ht:t<n
  ·rw [if_pos (by omega),(Ql4 _ _).2 ht]
   exact a3 t h1 ht
  ·have hb:Nat.blt t n=false:=by
    cases hb:Nat.blt t n with
    | false=>rfl
    | true=>exact absurd ((Ql4 _ _).1 hb) ht
   rw [if_neg (by omega),hb,show t - lo - (n - lo)=t - n by omega]
   exact b3 t (by omega) h2
def selL:List Bool→List Func→List (Option Func)
 | b::l,F::m=>(bif b then some F else none)::selL l m
 | _,_=>[]
theorem QxL:∀ (l:List Bool) (m:List Func) (j:Nat) (F:Func),(selL l m)[j]?=some (some F)→m[j]?=some F
 | [],m,j,F,h=>by simp [selL] at h
 | _::_,[],j,F,h=>by simp [selL] at h
 | b::l,G::m,j,F,h=>by
  simp only [selL] at h
  cases j with
  | zero=>cases b<;>simp at h; simp [h]
  | succ j=>simp only [List.getElem?_cons_succ] at h ⊢; exact QxL l m j F h
theorem Tabs.QxM {T:Tabs}{t:TypeId}(h:(T.ctx.ty t).known=true∨(T.ctx.ty t).flat=true):t<T.nt:=by
 apply Classical.byContradiction
 intro hlt
 have hb:Nat.blt t T.nt=false:=by
  cases hb:Nat.blt t T.nt with
  | false=>rfl
  | true=>exact absurd ((Ql4 _ _).1 hb) hlt
 have e:T.ctx.ty t=⟨.other,1,0,[.undef],false,[]⟩:=by show ifB (Nat.blt t T.nt) _ _=_; rw [hb]
 rw [e] at h
 rcases h with h |h<;>cases h
theorem Tabs.QrH {P:Program}{T:Tabs}(h1:(List.range T.nt).all (fun t=>tyB P T.ctx t&&QEA P T.ctx t)=true):TysOk P T.ctx where
 ty t hk:=by
  have:=List.all_eq_true.1 h1 t (List.mem_range.2 (QxM (.inl hk)))
  rw [Bool.and_eq_true] at this
  exact QCX this.1 hk
 flat t hf gs hgs:=by
  have:=List.all_eq_true.1 h1 t (List.mem_range.2 (QxM (.inr hf)))
  rw [Bool.and_eq_true] at this
  have hfl:=this.2
  unfold QEA at hfl
  rw [hf] at hfl
  simp only [hgs] at hfl
  rw [Bool.and_eq_true,Bool.and_eq_true] at hfl
  obtain ⟨⟨f1,f2⟩,f3⟩:=hfl
  obtain ⟨o1,o2⟩:=Qsk f3
  exact ⟨by simpa using f1,by simpa using f2,fun g hg=>o1 g (by simpa using hg),fun k g hg=>by have:=o2 k g (by simpa using hg); omega⟩
theorem Tabs.ok {P:Program}{T:Tabs}(used:List Bool)(h1:TysOk P T.ctx)(h2:T.fns.fit 0 T.nf=true)(h3:T.fns.toL=selL used P.funcs.toList)
  (h4:(List.range T.nf).all (QrG T.ctx)=true) (h5:P.follows .mixedOrders=true) (h6:∀ f,Qsc P T.ctx f (T.ctx.prim f)):QpU P T.ctx:=by
 have hfn:∀ f F,T.ctx.fn f=some F→f<T.nf∧P.funcs[f]?=some F:=fun f F h=>by
  have h:ifB (Nat.blt f T.nf) (T.fns.get f) none=some F:=h
  cases hb:Nat.blt f T.nf with
  | false=>rw [hb] at h; cases h
  | true=>
   rw [hb] at h
   have hlt:=(Ql4 _ _).1 hb
   have h:T.fns.get f=some F:=h
   have:=(Tr.Qtg h2).2.2 f (Nat.zero_le _) hlt
   rw [h3,Nat.sub_zero,h] at this
   have:=QxL _ _ _ _ this
   exact ⟨hlt,by simpa using this⟩
 have hco:∀ f F,T.ctx.fn f=some F→(F.name != "runtime.NumGoroutine")=true∧(match F.body with |some b=>codeOk T.ctx f b |none=>true)=true:=fun f F h=>by
  have:=List.all_eq_true.1 h4 f (List.mem_range.2 (hfn f F h).1)
  unfold QrG at this
  rw [h,Bool.and_eq_true] at this
  exact this
 refine ⟨h1,fun f F h=>⟨(hfn f F h).2,by simpa using (hco f F h).1⟩,fun f F b h hb=>?_,h6,h5⟩
 have:=(hco f F h).2
 rw [hb] at this
 exact this
end Go.Ev
end
