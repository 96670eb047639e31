/- The soundness of regions and of code. -/
import Derived.Test.YtkecfadnfnnfaaaGreatDoorEvE
set_option linter.unusedVariables false
set_option linter.unusedSimpArgs false
namespace Go.Ev
open Go.RowKit
theorem put_defers (a:Act)(dst:Option Tmp)(v:Value):(a.put dst v).defers=a.defers:=by cases dst<;>rfl
section
variable {P:Program} {c:Ctx} {rec:Task→Option Res} {I:Imm} {ρ:Ren} {H:Heap} {w:World}
theorem QuJ {fr:Fr}{a:Act}{n:Nat}(hf:QcO I ρ fr a.tmps n){ops:Array Oper}{o:Oper}{b:Bool}(h:Qa4 ops o fr=some b):Region.wanted o (yielded ops a.tmps)=b:=by
 unfold Qa4 at h
 unfold Region.wanted
 cases hg:o.guard with
 | none=>simp [hg] at h; rw [← h]
 | some p=>
  obtain ⟨j,want⟩:=p
  simp only [hg] at h ⊢
  cases hd:(ops[j]?).bind (·.dst) with
  | none=>simp [hd] at h
  | some d=>
   simp only [hd] at h
   have hr:=hf.at_ d
   unfold yielded
   simp only [hd,Option.bind_some]
   split at h
   ·rename_i x heq
    rw [heq] at hr
    simp at h
    subst h
    generalize hv:a.tmps.getD d undef=v at hr
    cases hr
    rw [Array.getD_eq_getD_getElem?] at hv
    cases hg2:a.tmps[d]? with
    | none=>rw [hg2] at hv; simp [undef] at hv
    | some v=>rw [hg2] at hv; simp at hv; subst hv; simp
   ·rename_i l heq
    rw [heq] at hr
    simp at h
    subst h
    generalize hv:a.tmps.getD d undef=v at hr
    cases hr
    rw [Array.getD_eq_getD_getElem?] at hv
    cases hg2:a.tmps[d]? with
    | none=>simp
    | some v=>rw [hg2] at hv; simp at hv; subst hv; simp
   ·cases h
theorem QuK (hc:QpU P c)(hg:GoodCalls P rec)(hs:Sim I ρ H w){fr:Fr}{a:Act}{n:Nat}(hf:QcO I ρ fr a.tmps n){ops:Array Oper}{i:Nat}{o:Oper}(ho:ops[i]?=some o){v:AV}{H':Heap}(h:Outc c rec n ops o fr H v H')
  {K:Act→World→Prop} {Q:Exit→Act→World→Prop}
  (hK:∀ cv w' I' ρ',Ext H.length I ρ H w I' ρ' H' w'→Sim I' ρ' H' w'→QcO I' ρ' (fr.put o.dst v) (a.put o.dst cv).tmps n→H.length≤H'.length→K (a.put o.dst cv) w'):wpOp P ops Q i K a w:=by
 unfold wpOp
 simp only [ho]
 obtain ⟨hd,⟨hw,rfl,rfl⟩ |⟨hw,hev⟩⟩:=h
 ·rw [QuJ hf hw]
  simp only [Bool.false_eq_true,if_false]
  exact hK undef w I ρ (Ext.refl _ _ _ _ _) hs (hf.put o.dst (cv:=undef) (.tup _ _ _ rfl (fun j x u hx=>by simp at hx)) hd a.defers) (Nat.le_refl _)
 ·rw [QuJ hf hw]
  simp only [if_true]
  refine .inl (QEx hc hg hs hf hev fun cv w' I' ρ' h1 h2 h3 h4=>?_)
  exact hK cv w' I' ρ' h1 h2 ((h1.frel hs hf).put o.dst h3 hd a.defers) h4
theorem QAs (hc:QpU P c)(hg:GoodCalls P rec){m n:Nat}{ops:Array Oper}{bf:Array Nat}{Q:Fr→Heap→Prop}{Qx:Exit→Act→World→Prop}:∀ (k:Nat) (listed:Array Bool) (p:Pend) (fr:Fr) (H:Heap),AnyA c rec n ops bf Q k listed p fr H→
  ∀ (I:Imm) (ρ:Ren) (w:World) (a:Act),Sim I ρ H w→QcO I ρ fr a.tmps n→m≤H.length→a.defers=[]→
  (∀ I' ρ' w' a' fr' H',Ext m I ρ H w I' ρ' H' w'→Sim I' ρ' H' w'→QcO I' ρ' fr' a'.tmps n→m≤H'.length→a'.defers=[]→Q fr' H'→Qx .normal a' w')→wpAny P .any ops Qx k listed a w
 | 0,listed,p,fr,H,h,I,ρ,w,a,hs,hf,hm,hd,hQ=>⟨h.1,hQ I ρ w a fr H (Ext.refl _ _ _ _ _) hs hf hm hd h.2⟩
 | k+1,listed,p,fr,H,h,I,ρ,w,a,hs,hf,hm,hd,hQ=>by
  refine ⟨fun h0=>hQ I ρ w a fr H (Ext.refl _ _ _ _ _) hs hf hm hd (h.1 h0),fun i hi=>?_⟩
  obtain ⟨o,v,H',h1,h2,h3,h4⟩:=h.2 i hi
  refine QuK hc hg hs hf h1 h2 fun cv w' I' ρ' e1 s1 f1 l1=>?_
  exact QAs hc hg k _ _ _ _ h4 I' ρ' w' _ s1 f1 (by omega) (by rw [put_defers]; exact hd) (fun I2 ρ2 w2 a2 fr2 H2 e2 s2 f2 m2 d2 q2=>hQ I2 ρ2 w2 a2 fr2 H2 ((e1.mono hm).trans e2 (Nat.le_refl _)) s2 f2 m2 d2 q2)
theorem QuL (hc:QpU P c)(hg:GoodCalls P rec){m n:Nat}{ops:Array Oper}{Qx:Exit→Act→World→Prop}:∀ (l:List Nat) (os:List Oper) (st st':St),(∀ k:Nat,l[k]?.bind (ops[·]?)=os[k]?)→l.length=os.length→QbU c rec n ops os st=some st'→
  ∀ (I:Imm) (ρ:Ren) (w:World) (a:Act),Sim I ρ st.H w→QcO I ρ st.fr a.tmps n→m≤st.H.length→a.defers=[]→
  (∀ I' ρ' w' a',Ext m I ρ st.H w I' ρ' st'.H w'→Sim I' ρ' st'.H w'→QcO I' ρ' st'.fr a'.tmps n→m≤st'.H.length→a'.defers=[]→Qx .normal a' w')→wpOps P ops Qx l a w
 | [],[],st,st',hl,_,h,I,ρ,w,a,hs,hf,hm,hd,hQ=>by
  simp [QyE] at h
  subst h
  exact hQ I ρ w a (Ext.refl _ _ _ _ _) hs hf hm hd
 | [],_::_,st,st',hl,hll,h,_,_,_,_,_,_,_,_,_=>by simp at hll
 | _::_,[],st,st',hl,hll,h,_,_,_,_,_,_,_,_,_=>by simp at hll
 | i::l,o::os,st,st',hl,hll,h,I,ρ,w,a,hs,hf,hm,hd,hQ=>by
  have ho:ops[i]?=some o:=by simpa using hl 0
  rw [QfH] at h
  unfold QrE at h
  split at h
  ·cases h
  rename_i st1 hst
  obtain ⟨v,H',hout,rfl⟩:=(QnK c rec).1 hst
  rw [wpOps_cons]
  refine QuK hc hg hs hf ho hout fun cv w' I' ρ' e1 s1 f1 l1=>?_
  exact QuL hc hg l os _ st' (fun k=>by simpa using hl (k+1)) (by simpa using hll) h I' ρ' w' _ s1 f1 (by simp only; omega) (by rw [put_defers]; exact hd)
   (fun I2 ρ2 w2 a2 e2 s2 f2 m2 d2=>hQ I2 ρ2 w2 a2 ((e1.mono hm).trans e2 (Nat.le_refl _)) s2 f2 m2 d2)
theorem QCO (mask:Nat)(fr:Fr)(t:Nat):(fr.sift mask).get t=if tb mask t then fr.get t else .undef:=by
 induction fr with
 | nil=>simp [Fr.QsZ,Fr.get_nil]
 | cons p r ih=>
  rw [Fr.QbG,Fr.QbO]
  cases h1:tb mask p.1 with
  | true=>
   simp only [ifB]
   rw [Fr.QbO]
   cases h2:Nat.beq p.1 t with
   | true=>
    have:=Nat.eq_of_beq_eq_true h2
    subst this
    simp [ifB,h1]
   | false=>simp only [ifB]; exact ih
  | false=>
   simp only [ifB]
   cases h2:Nat.beq p.1 t with
   | true=>
    have:=Nat.eq_of_beq_eq_true h2
    subst this
    rw [ih]
    simp [h1]
   | false=>exact ih
theorem QCP (mask:Nat){fr:Fr}(h:Srt fr):Srt (fr.sift mask):=by
 have hsub:∀ fr:Fr,(fr.sift mask).Sublist fr:=by
  intro fr
  induction fr with
  | nil=>rw [Fr.QsZ]; exact .slnil
  | cons p r ih=>
   rw [Fr.QbG]
   cases tb mask p.1 with
   | true=>exact ih.cons_cons p
   | false=>exact ih.cons p
 exact h.sublist (hsub fr)
theorem QcO.only {fr:Fr}{tmps:Array Value}{n:Nat}(h:QcO I ρ fr tmps n)(mask:Nat):QcO I ρ (fr.only mask) tmps n:=by
 unfold Fr.only
 cases hb:Nat.beq mask 0 with
 | true=>exact h
 | false=>
  simp only [ifB]
  refine QcO.Quy h.size (QCP mask h.srt) fun t=>?_
  rw [QCO]
  split
  ·exact h.at_ t
  ·exact .undef _ _
def exOf:Ex→Exit
 | .norm=>.normal
 | .exit id=>.exit id
 | .ret=>.ret
def QyS (m n:Nat)(I:Imm)(ρ:Ren)(H:Heap)(w:World)(e:Ex)(st':St):Exit→Act→World→Prop:=fun x a' w'=>
 x=exOf e∧a'.defers=[]∧∃ I' ρ',Ext m I ρ H w I' ρ' st'.H w'∧Sim I' ρ' st'.H w'∧QcO I' ρ' st'.fr a'.tmps n∧m≤st'.H.length
theorem QyS.trans {m n:Nat}{I1:Imm}{ρ1:Ren}{H1:Heap}{w1:World}{e:Ex}{st':St}(h:Ext m I ρ H w I1 ρ1 H1 w1){x:Exit}{a':Act}{w':World}(hp:QyS m n I1 ρ1 H1 w1 e st' x a' w'):QyS m n I ρ H w e st' x a' w':=by
 obtain ⟨h1,h2,I',ρ',h3,h4⟩:=hp
 exact ⟨h1,h2,I',ρ',h.trans h3 (Nat.le_refl _),h4⟩
def Qwf (P:Program)(b:Code)(Q:Exit→Act→World→Prop)(a:Act)(w:World):Prop:=
 ∀ (fr:Frame) (k:List Item) (cs:List Frame),∃ e a' w',Q e a' w'∧Arrives P (lone (fr.at a (.code b::.inLoop b::k)) cs w) fr k cs e a' w'
theorem Qwf.wp {b:Code}{Q:Exit→Act→World→Prop}{a:Act}(h:Qwf P b Q a w):(Code.loop b).wp P Q a w:=fun fr k cs=>
 let ⟨e,a',w',hq,harr⟩:=h fr k cs; ⟨e,a',w',hq,.of_steps (.one step_loop) harr⟩
theorem Qwf.round {b:Code}{Q:Exit→Act→World→Prop}{a:Act}(h:b.wp P (Exit.then (fun a' w'=>Qwf P b Q a' w') Q) a w):Qwf P b Q a w:=by
 intro fr k cs
 obtain ⟨e,a₁,w₁,hq,harr⟩:=h fr (.inLoop b::k) cs
 cases e with
 | normal=>
  obtain ⟨e₂,a₂,w₂,hq₂,harr₂⟩:=hq fr k cs
  exact ⟨e₂,a₂,w₂,hq₂,.of_steps (Steps.trans harr (.one step_inLoop)) harr₂⟩
 | exit id=>exact ⟨_,a₁,w₁,hq,.pass (x:=.inLoop b) rfl (fun _ _=>.inl (by simp)) harr⟩
 | goto l=>exact ⟨_,a₁,w₁,hq,.pass (x:=.inLoop b) rfl (fun _ _=>.inl (by simp)) harr⟩
 | ret=>exact ⟨_,a₁,w₁,hq,.pass (x:=.inLoop b) rfl (fun _ _=>.inl (by simp)) harr⟩
 | panic ch=>exact ⟨_,a₁,w₁,hq,.pass (x:=.inLoop b) rfl (fun _ _=>.inl (by simp)) harr⟩
 | outgrown=>exact ⟨_,a₁,w₁,hq,.pass (x:=.inLoop b) rfl (fun _ _=>.inl (by simp)) harr⟩
structure Good (P:Program)(c:Ctx)(rec:Task→Option Res):Prop extends GoodCalls P rec where
 loop:∀ f id m b st e st',rec (.loop f id m b st)=some (.code e st')→codeOk c f b=true→∀ F,c.fn f=some F→∀ (I:Imm) (ρ:Ren) (w:World) (a:Act),Sim I ρ st.H w→QcO I ρ st.fr a.tmps F.ntmps→m≤st.H.length→a.defers=[]→
  Qwf P b (QyS m F.ntmps I ρ st.H w e st') a w
theorem QuM (hc:QpU P c)(hg:GoodCalls P rec){f m n id:Nat}{ops:Array Oper}{draw:Bool}{st:St}{e:Ex}{st':St}(h:Qcj c rec f m n id ops draw st=some (e,st'))(hok:codeOk c f (.region id ops draw)=true)
  {a:Act} (hs:Sim I ρ st.H w) (hf:QcO I ρ st.fr a.tmps n) (hm:m≤st.H.length) (hd:a.defers=[]):(Code.region id ops draw).wp P (QyS m n I ρ st.H w e st') a w:=by
 unfold Qcj at h
 split at h
 ·cases h
 rename_i st1 hst
 simp only [Qat,osi,Prod.mk.injEq] at h
 obtain ⟨rfl,rfl⟩:=h
 cases draw with
 | false=>
  refine wp_region (QuL hc hg (m:=m) (List.range ops.size) ops.toList st st1 (fun k=>?_) (by simp) hst I ρ w a hs hf hm hd (fun I' ρ' w' a' e1 s1 f1 m1 d1=>⟨rfl,d1,I',ρ',e1,s1,f1.only _,m1⟩))
  by_cases hk:k<ops.size
  ·rw [List.getElem?_range hk,Array.getElem?_toList]; rfl
  ·rw [List.getElem?_eq_none (by simp; omega),Array.getElem?_toList,Array.getElem?_eq_none (by omega)]; rfl
 | true=>
  unfold codeOk at hok
  rw [Bool.and_eq_true] at hok
  have hst:QpL c rec m n ops (c.plan f id) st=some st1:=hst
  unfold QpL at hst
  have hcl:Qp5 ops (Array.replicate ops.size false):=fun j o _ hl=>by
   rw [Array.getD_eq_getD_getElem?,Array.getElem?_replicate] at hl
   split at hl<;>simp at hl
  have hcnt:cnt (Array.replicate ops.size false)≤ops.size:=by
   unfold cnt
   refine Nat.le_trans List.countP_le_length (by simp)
  have hany:=QnM (rec:=rec) rfl hok.1 _ _ (c.plan f id) _ st1 (Array.replicate ops.size false) [] [] ops.size hok.2 hst (fun q hq=>by cases hq) hf.srt hcl hcnt
  refine wp_region_any hc.mixed ?_
  obtain ⟨s0,e0⟩:=hs.drawn (w':={ w with drawn:=w.drawn+1 }) rfl rfl rfl rfl
  refine QAs hc hg (m:=m) _ _ _ _ _ hany I ρ _ a s0 hf hm hd (fun I' ρ' w' a' fr' H' e1 s1 f1 m1 d1 q1=>?_)
  obtain ⟨I2,ρ2,e2,s2,f2,m2⟩:=q1 I' ρ' w' a'.tmps s1 f1 m1
  exact ⟨rfl,d1,I2,ρ2,((e0.mono hm).trans e1 (Nat.le_refl _)).trans e2 (Nat.le_refl _),s2,f2.only _,m2⟩
theorem Qqa {β:Type}{c:Ctx}{nz:Nat→List Nat}{mask m:Nat}{st:St}{k:St→Option β}{r:β}(h:st.norm c nz mask m k=some r):∃ st1,(∀ n,To m n st st1)∧k st1=some r:=by
 unfold St.norm at h
 simp only [Qat,Qp0] at h
 obtain ⟨c1,h1,h2⟩:=Qp8 h
 rw [h1] at h
 refine ⟨c1,fun n=>?_,h⟩
 refine To.trans (b:={ fr:=(QfJ c nz (st.fr.only mask) st.H).1,H:=(QfJ c nz (st.fr.only mask) st.H).2 }) (fun I ρ w tmps hs hf hm=>?_) (To.canon h1 h2)
 obtain ⟨ρ',s,e,l,f⟩:=QyM (c:=c) (nz:=nz) hs (hf.only mask)
 exact ⟨I,ρ',e.mono hm,s,f,Nat.le_trans hm l⟩
theorem QCQ {c:Ctx}{f m id:Nat}{st:St}{k:St→Option (Ex×St)}{r:Ex×St}(h:QkD c f m id st k=some r):k st=some r∨∃ st1,(∀ n,To m n st st1)∧k st1=some r:=by
 unfold QkD at h
 split at h
 ·exact .inl h
 ·exact .inr (Qqa h)
theorem Qd3 (hc:QpU P c)(hg:Good P c rec){f m:Nat}{F:Func}(hF:c.fn f=some F):∀ (co:Code) (blk:Nat) (st:St) (e:Ex) (st':St),Qaw c rec f m F.ntmps blk co st=some (e,st')→codeOk c f co=true→
  ∀ (I:Imm) (ρ:Ren) (w:World) (a:Act),Sim I ρ st.H w→QcO I ρ st.fr a.tmps F.ntmps→m≤st.H.length→a.defers=[]→co.wp P (QyS m F.ntmps I ρ st.H w e st') a w
 | .skip,blk,st,e,st',h,hok,I,ρ,w,a,hs,hf,hm,hd=>by
  rw [Qv6] at h
  simp at h
  obtain ⟨rfl,rfl⟩:=h
  exact wp_skip ⟨rfl,hd,I,ρ,Ext.refl _ _ _ _ _,hs,hf,hm⟩
 | .region id ops draw,blk,st,e,st',h,hok,I,ρ,w,a,hs,hf,hm,hd=>by
  rw [QmI] at h
  rcases QCQ h with h |⟨st1,hto,h⟩
  ·exact QuM hc hg.toGoodCalls h hok hs hf hm hd
  ·obtain ⟨I1,ρ1,x1,s1,f1,m1⟩:=hto F.ntmps I ρ w a.tmps hs hf hm
   exact wp_mono (QuM hc hg.toGoodCalls h hok s1 f1 m1 hd) (fun ex a' w' hp=>hp.trans x1)
 | .seq x y,blk,st,e,st',h,hok,I,ρ,w,a,hs,hf,hm,hd=>by
  rw [QnE] at h
  unfold QkE at h
  simp only [codeOk] at hok
  rw [Bool.and_eq_true] at hok
  refine wp_seq ?_
  split at h
  ·rename_i st1 hx
   refine wp_mono (Qd3 hc hg hF x blk st .norm st1 hx hok.1 I ρ w a hs hf hm hd) (fun ex a' w' hp=>?_)
   obtain ⟨rfl,d1,I1,ρ1,e1,s1,f1,m1⟩:=hp
   exact wp_mono (Qd3 hc hg hF y blk st1 e st' h hok.2 I1 ρ1 w' a' s1 f1 m1 d1) (fun ex a2 w2 hp2=>hp2.trans e1)
  ·rename_i hne
   refine wp_mono (Qd3 hc hg hF x blk st e st' h hok.1 I ρ w a hs hf hm hd) (fun ex a' w' hp=>?_)
   have hen:e≠.norm:=fun he=>hne st' (by rw [h,he])
   obtain ⟨rfl,hrest⟩:=hp
   cases e with
   | norm=>exact absurd rfl hen
   | exit id=>exact ⟨rfl,hrest⟩
   | ret=>exact ⟨rfl,hrest⟩
 | .cond p x y,blk,st,e,st',h,hok,I,ρ,w,a,hs,hf,hm,hd=>by
  rw [QpM] at h
  unfold Qr7 at h
  simp only [codeOk] at hok
  rw [Bool.and_eq_true] at hok
  have hp:=QaL hf p
  split at h
  ·rename_i heq
   rw [heq] at hp
   refine wp_cond (t:=true) (by cases hq:a.eval p<;>rw [hq] at hp<;>cases hp; rfl) ?_
   exact Qd3 hc hg hF x blk st e st' h hok.1 I ρ w a hs hf hm hd
  ·rename_i heq
   rw [heq] at hp
   refine wp_cond (t:=false) (by cases hq:a.eval p<;>rw [hq] at hp<;>cases hp; rfl) ?_
   exact Qd3 hc hg hF y blk st e st' h hok.2 I ρ w a hs hf hm hd
  ·cases h
 | .block id x,blk,st,e,st',h,hok,I,ρ,w,a,hs,hf,hm,hd=>by
  rw [QoG] at h
  unfold QkF at h
  simp only [codeOk] at hok
  refine wp_block ?_
  split at h
  ·rename_i k st1 hx
   refine wp_mono (Qd3 hc hg hF x id st (.exit k) st1 hx hok I ρ w a hs hf hm hd) (fun ex a' w' hp=>?_)
   obtain ⟨rfl,hrest⟩:=hp
   split at h
   ·rename_i hk
    have hk:=Nat.eq_of_beq_eq_true hk
    simp at h
    obtain ⟨rfl,rfl⟩:=h
    simp only [exOf,Exit.inBlock,hk,if_true]
    exact ⟨rfl,hrest⟩
   ·rename_i hk
    simp at h
    obtain ⟨rfl,rfl⟩:=h
    have hne:k≠id:=fun e=>by subst e; simp [Nat.beq_refl] at hk
    simp only [exOf,Exit.inBlock,if_neg hne]
    exact ⟨rfl,hrest⟩
  ·rename_i hne
   refine wp_mono (Qd3 hc hg hF x id st e st' h hok I ρ w a hs hf hm hd) (fun ex a' w' hp=>?_)
   obtain ⟨rfl,hrest⟩:=hp
   cases e with
   | norm=>exact ⟨rfl,hrest⟩
   | exit k=>exact absurd h (hne k st')
   | ret=>exact ⟨rfl,hrest⟩
 | .loop b,blk,st,e,st',h,hok,I,ρ,w,a,hs,hf,hm,hd=>by
  rw [QpN] at h
  obtain ⟨st0,hto,h⟩:=Qqa h
  obtain ⟨I1,ρ1,x1,s1,f1,m1⟩:=hto F.ntmps I ρ w a.tmps hs hf hm
  unfold QoF at h
  simp only [codeOk] at hok
  split at h
  ·rename_i e1 st1 hr
   simp at h
   obtain ⟨rfl,rfl⟩:=h
   exact wp_mono (hg.loop _ _ _ _ _ _ _ hr hok F hF I1 ρ1 w a s1 f1 m1 hd).wp (fun ex a' w' hp=>hp.trans x1)
  ·cases h
 | .exit id,blk,st,e,st',h,hok,I,ρ,w,a,hs,hf,hm,hd=>by
  rw [QpO] at h
  obtain ⟨st0,hto,h⟩:=Qqa h
  simp at h
  obtain ⟨rfl,rfl⟩:=h
  obtain ⟨I1,ρ1,x1,s1,f1,m1⟩:=hto F.ntmps I ρ w a.tmps hs hf hm
  exact wp_exit ⟨rfl,hd,I1,ρ1,x1,s1,f1,m1⟩
 | .ret,blk,st,e,st',h,hok,I,ρ,w,a,hs,hf,hm,hd=>by
  rw [Qr8] at h
  obtain ⟨st0,hto,h⟩:=Qqa h
  simp at h
  obtain ⟨rfl,rfl⟩:=h
  obtain ⟨I1,ρ1,x1,s1,f1,m1⟩:=hto F.ntmps I ρ w a.tmps hs hf hm
  exact wp_ret ⟨rfl,hd,I1,ρ1,x1,s1,f1,m1⟩
 | .rangeFunc _ _ _ _,blk,st,e,st',h,_,_,_,_,_,_,_,_,_=>by cases h
 | .scope _,blk,st,e,st',h,_,_,_,_,_,_,_,_,_=>by cases h
 | .label _,blk,st,e,st',h,_,_,_,_,_,_,_,_,_=>by cases h
 | .goto _,blk,st,e,st',h,_,_,_,_,_,_,_,_,_=>by cases h
 | .refuse _,blk,st,e,st',h,_,_,_,_,_,_,_,_,_=>by cases h
theorem QxI {α:Type}(g:α→Sem Value):∀ (l:List α) (vs:List Value),vs.length=l.length→(∀ (j:Nat) (x:α) (v:Value),l[j]?=some x→vs[j]?=some v→(g x).run P w=.ok v w)→(l.mapM g).run P w=.ok vs w
 | [],vs,hl,h=>by
  have:vs=[]:=List.length_eq_zero_iff.1 (by simpa using hl)
  subst this
  simp
 | x::l,[],hl,h=>by simp at hl
 | x::l,v::vs,hl,h=>by
  have h0:=h 0 x v rfl rfl
  have h1:=QxI g l vs (by simpa using hl) (fun j x v hx hv=>h (j+1) x v hx hv)
  simp [List.mapM_cons,h0,h1]
theorem Qqb (hc:TysOk P c){F:Func}{st:St}{v:AV}(h:QfX c F st=some v)(hs:Sim I ρ st.H w){tmps:Array Value}{n:Nat}(hf:QcO I ρ st.fr tmps n):
  ∃ cv,(results F tmps).run P w=.ok cv w∧VRel I ρ v cv:=by
 unfold QfX at h
 cases hmm:mapM' (Qb5 c st) F.results.toList with
 | none=>rw [hmm] at h; cases h
 | some vs0=>
 rw [hmm] at h
 have key:∀ (vs:List AV),mapM' (Qb5 c st) F.results.toList=some vs→∃ cvs:List Value,cvs.length=vs.length∧(∀ (j:Nat) (x:AV) (u:Value),vs[j]?=some x→cvs[j]?=some u→VRel I ρ x u)∧
   (F.results.mapM fun | .tmp t=>pure (tmps.getD t undef) | .cell a t=>do loadVar t (← asAddr (tmps.getD a undef)):Sem (Array Value)).run P w=.ok cvs.toArray w:=by
  intro vs hvs
  obtain ⟨h1,h2⟩:=Qlo _ _ _ hvs
  have one:∀ (r:ResultVar) (x:AV),Qb5 c st r=some x→∃ u,((match r with | .tmp t=>pure (tmps.getD t undef) | .cell a t=>do loadVar t (← asAddr (tmps.getD a undef)):Sem Value)).run P w=.ok u w∧VRel I ρ x u:=by
   intro r x hr
   cases r with
   | tmp t=>simp [Qb5] at hr; subst hr; exact ⟨_,rfl,hf.at_ t⟩
   | cell a t=>
    simp only [Qb5] at hr
    obtain ⟨cv,hrun,hrel⟩:=QxC hc hs hr (hf.at_ a)
    refine ⟨cv,?_,hrel⟩
    unfold Instr.loadAt at hrun
    cases hu:tmps.getD a undef with
    | pointer p=>
     cases p with
     | none=>rw [hu] at hrun; simp [Instr.sureAddr] at hrun
     | some p=>rw [hu] at hrun; simp only [Sem.run_bind,Instr.sureAddr,asAddr,Sem.run_pure,Result.andThen_ok] at hrun ⊢; rw [hu]; exact hrun
    | _=>rw [hu] at hrun; simp [Instr.sureAddr] at hrun
  have hex:∃ cvs:List Value,cvs.length=vs.length∧∀ (j:Nat) (r:ResultVar) (x:AV) (u:Value),F.results.toList[j]?=some r→vs[j]?=some x→cvs[j]?=some u→
    ((match r with | .tmp t=>pure (tmps.getD t undef) | .cell a t=>do loadVar t (← asAddr (tmps.getD a undef)):Sem Value)).run P w=.ok u w∧VRel I ρ x u:=by
   have gen:∀ (l:List ResultVar) (vs:List AV),vs.length=l.length→(∀ (i:Nat) (r:ResultVar),l[i]?=some r→∃ b,vs[i]?=some b∧Qb5 c st r=some b)→∃ cvs:List Value,cvs.length=vs.length∧∀ (j:Nat) (r:ResultVar) (x:AV) (u:Value),l[j]?=some r→vs[j]?=some x→cvs[j]?=some u→
     ((match r with | .tmp t=>pure (tmps.getD t undef) | .cell a t=>do loadVar t (← asAddr (tmps.getD a undef)):Sem Value)).run P w=.ok u w∧VRel I ρ x u:=by
    intro l
    induction l with
    | nil=>exact fun vs hl _=>⟨[],by simpa using hl.symm,fun j r x u hr=>by simp at hr⟩
    | cons r l ih=>
     intro vs hl hall
     cases vs with
     | nil=>simp at hl
     | cons x vs=>
      obtain ⟨cvs,c1,c2⟩:=ih vs (by simpa using hl) (fun i r hr=>hall (i+1) r hr)
      obtain ⟨b,hb1,hb2⟩:=hall 0 r rfl
      simp at hb1
      subst hb1
      obtain ⟨u,u1,u2⟩:=one r _ hb2
      refine ⟨u::cvs,by simp [c1],fun j r' x' u' hr hx hu=>?_⟩
      cases j with
      | zero=>simp at hr hx hu; subst hr; subst hx; subst hu; exact ⟨u1,u2⟩
      | succ j=>exact c2 j r' x' u' (by simpa using hr) (by simpa using hx) (by simpa using hu)
   exact gen _ vs h1 h2
  obtain ⟨cvs,c1,c2⟩:=hex
  refine ⟨cvs,c1,fun j x u hx hu=>?_,?_⟩
  ·have hj:j<F.results.toList.length:=by have:=(List.getElem?_eq_some_iff.1 hx).1; omega
   exact (c2 j _ x u (List.getElem?_eq_getElem hj) hx hu).2
  ·rw [Array.mapM_eq_mapM_toList]
   have:=QxI (P:=P) (w:=w) (fun r:ResultVar=>(match r with | .tmp t=>pure (tmps.getD t undef) | .cell a t=>do loadVar t (← asAddr (tmps.getD a undef)):Sem Value)) F.results.toList cvs (by omega) (fun j r u hr hu=>by
    have hj:j<vs.length:=by have:=(List.getElem?_eq_some_iff.1 hu).1; omega
    exact (c2 j r _ u hr (List.getElem?_eq_getElem hj) hu).1)
   simp only [Sem.run_map,this]
   rfl
 obtain ⟨cvs,k1,k2,k3⟩:=key vs0 hmm
 have hres:results F tmps=(do
   let vs ← F.results.mapM (fun | .tmp t=>pure (tmps.getD t undef) | .cell a t=>do loadVar t (← asAddr (tmps.getD a undef)):ResultVar→Sem Value)
   pure (if h:vs.size=1 then vs[0] else .tuple vs)):=rfl
 rw [hres]
 by_cases hone:∃ x,vs0=[x]
 ·obtain ⟨x,rfl⟩:=hone
  simp at h
  subst h
  refine ⟨cvs.toArray[0]'(by simp at k1; simp [k1]),?_,k2 0 x _ rfl (by simp at k1; simp [k1])⟩
  simp only [Sem.run_bind,k3,Result.andThen_ok,Sem.run_pure]
  rw [dif_pos (by simpa using k1)]
 ·have hv:v=.tup vs0:=by
   cases vs0 with
   | nil=>simp at h; exact h.symm
   | cons x l=>cases l with
    | nil=>exact absurd ⟨x,rfl⟩ hone
    | cons y l=>simp at h; exact h.symm
  subst hv
  refine ⟨.tuple cvs.toArray,?_,.tup _ _ _ (by simp [k1]) (fun j x u hx hu=>k2 j x u hx (by simpa using hu))⟩
  simp only [Sem.run_bind,k3,Result.andThen_ok,Sem.run_pure]
  rw [dif_neg (fun e=>hone (List.length_eq_one_iff.1 (by rw [← k1]; simpa using e)))]
end
end Go.Ev
