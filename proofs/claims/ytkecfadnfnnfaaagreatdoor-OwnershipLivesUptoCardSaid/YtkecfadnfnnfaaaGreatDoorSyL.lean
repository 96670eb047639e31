/- Symbolic runs: shapes of states. -/
import Derived.Test.YtkecfadnfnnfaaaGreatDoorSyK
set_option linter.unusedVariables false
set_option linter.unusedSimpArgs false
namespace Go.Sy
open Go Go.Ev
def Fits (env env':Env)(l:List (Ty×Ex)):Prop:=∀ h t e,l.reverse[h]?=some (t,e)→env' h t=e.den env t
structure Grew (a a':Ab):Prop where
 len:a.n=a.l.length→a'.n=a'.l.length
 more:∃ r,a'.l=r++a.l
theorem Grew.refl (a:Ab):Grew a a:=⟨id,[],rfl⟩
theorem Grew.trans {a b d:Ab}(h:Grew a b)(k:Grew b d):Grew a d:=⟨fun x=>k.len (h.len x),by
 obtain ⟨r,hr⟩:=h.more
 obtain ⟨q,hq⟩:=k.more
 exact ⟨q++r,by rw [hq,hr,List.append_assoc]⟩⟩
theorem Grew.add (a:Ab)(t:Ty)(e:Ex):Grew a (a.add t e).2:=⟨fun x=>by simp [Ab.add,x],[(t,e)],rfl⟩
theorem Fits.less {env env':Env}{a a':Ab}(h:Fits env env' a'.l)(g:Grew a a'):Fits env env' a.l:=fun i t e hi=>by
 obtain ⟨r,hr⟩:=g.more
 refine h i t e ?_
 rw [hr,List.reverse_append,List.getElem?_append_left]
 ·exact hi
 ·rw [List.getElem?_eq_some_iff] at hi
  exact hi.1
theorem Fits.at {env env':Env}{a:Ab}{t:Ty}{e:Ex}(h:Fits env env' (a.add t e).2.l)(ha:a.n=a.l.length):((a.add t e).1).den env' t=e.den env t:=by
 refine h a.n t e ?_
 show (((t,e)::a.l).reverse)[a.n]?=some (t,e)
 rw [List.reverse_cons,ha,List.getElem?_append_right (by simp)]
 simp
def Qpb (env env':Env)(bs:Bs):Prop:=∀ (b:Nat) (t:Ty) (e h:Ex),bs[b]?=some (some (t,e,h))→h.den env' (.lst t)=e.den env (.lst t)
theorem QDv {env env':Env}{bs:Bs}{b:Nat}{len x:Ex}(h:lenOf bs b len=some x)(hb:Qpb env env' bs):x.den env' .nat=len.den env .nat:=by
 unfold lenOf at h
 split at h
 ·rename_i t e hh hbs
  split at h
  ·rename_i hl
   simp only [osi] at h
   subst h
   rw [QaH hl,Qb6]
   show (hh.den env' (.lst t)).length=_
   rw [hb _ _ _ _ hbs]
  ·cases h
 ·cases h
theorem Qyc {e:Ex}(h:isLit e=true):∃ n,e=.nn n:=by
 unfold isLit at h
 split at h
 ·exact ⟨_,rfl⟩
 ·cases h
theorem Qzk {cs:List SV}{t:Ty}{e:Ex}(h:Qwl cs=some (t,e)):cs=cellsOf t e:=by
 unfold Qwl at h
 split at h
 ·cases h
 ·split at h
  ·rename_i hb
   simp only [osi,Prod.mk.injEq] at h
   obtain ⟨rfl,rfl⟩:=h
   exact Qe0 hb
  ·cases h
mutual
theorem QwW {bs:Bs}:∀ {v v':SV} {a a':Ab},absV bs v a=some (v',a')→a.n=a.l.length→Grew a a'∧∀ env env',Fits env env' a'.l→Qpb env env' bs→v'.emb env'=v.emb env
 | .ii k e,v',a,a',h,ha=>by
  simp only [absV,osi,Prod.mk.injEq] at h
  obtain ⟨rfl,rfl⟩:=h
  exact ⟨.add ..,fun env env' hf _=>by simp only [SV.emb,hf.at ha]⟩
 | .bb e,v',a,a',h,ha=>by
  simp only [absV,osi,Prod.mk.injEq] at h
  obtain ⟨rfl,rfl⟩:=h
  exact ⟨.add ..,fun env env' hf _=>by simp only [SV.emb,hf.at ha]⟩
 | .ss e,v',a,a',h,ha=>by
  simp only [absV,osi,Prod.mk.injEq] at h
  obtain ⟨rfl,rfl⟩:=h
  exact ⟨.add ..,fun env env' hf _=>by simp only [SV.emb,hf.at ha]⟩
 | .tl t e,v',a,a',h,ha=>by
  simp only [absV,osi,Prod.mk.injEq] at h
  obtain ⟨rfl,rfl⟩:=h
  exact ⟨.add ..,fun env env' hf _=>by simp only [SV.emb,hf.at ha]⟩
 | .ptr b i o,v',a,a',h,ha=>by
  simp only [absV] at h
  split at h
  ·rename_i hl
   simp only [osi,Prod.mk.injEq] at h
   obtain ⟨rfl,rfl⟩:=h
   obtain ⟨n,rfl⟩:=Qyc hl
   exact ⟨.refl _,fun env env' hf _=>rfl⟩
  ·simp only [osi,Prod.mk.injEq] at h
   obtain ⟨rfl,rfl⟩:=h
   exact ⟨.add ..,fun env env' hf _=>by simp only [SV.emb,hf.at ha]⟩
 | .sl b off len,v',a,a',h,ha=>by
  simp only [absV] at h
  split at h
  ·rename_i hl
   obtain ⟨n,rfl⟩:=Qyc hl
   split at h
   ·rename_i x hx
    simp only [osi,Prod.mk.injEq] at h
    obtain ⟨rfl,rfl⟩:=h
    exact ⟨.refl _,fun env env' hf hb=>by simp only [SV.emb,QDv hx hb]; rfl⟩
   ·simp only [osi,Prod.mk.injEq] at h
    obtain ⟨rfl,rfl⟩:=h
    exact ⟨.add ..,fun env env' hf _=>by simp only [SV.emb,hf.at ha]; rfl⟩
  ·cases h
 | .iptr cs,v',a,a',h,ha=>by
  simp only [absV] at h
  split at h
  ·rename_i h1
   simp only [osi,Prod.mk.injEq] at h
   obtain ⟨rfl,rfl⟩:=h
   obtain ⟨g,k⟩:=Qn4 h1 ha
   exact ⟨g,fun env env' hf hb=>by simp only [SV.emb,k env env' hf hb]⟩
  ·cases h
 | .fn f cs,v',a,a',h,ha=>by
  simp only [absV] at h
  split at h
  ·rename_i h1
   simp only [osi,Prod.mk.injEq] at h
   obtain ⟨rfl,rfl⟩:=h
   obtain ⟨g,k⟩:=Qn4 h1 ha
   exact ⟨g,fun env env' hf hb=>by simp only [SV.emb,k env env' hf hb]⟩
  ·cases h
 | .iface t v,v',a,a',h,ha=>by
  simp only [absV] at h
  split at h
  ·rename_i h1
   simp only [osi,Prod.mk.injEq] at h
   obtain ⟨rfl,rfl⟩:=h
   obtain ⟨g,k⟩:=QwW h1 ha
   exact ⟨g,fun env env' hf hb=>by simp only [SV.emb,k env env' hf hb]⟩
  ·cases h
 | .agg cs,v',a,a',h,ha=>by
  simp only [absV] at h
  split at h
  ·rename_i t e hw
   simp only [osi,Prod.mk.injEq] at h
   obtain ⟨rfl,rfl⟩:=h
   refine ⟨.add ..,fun env env' hf _=>?_⟩
   rw [Qzk hw]
   simp only [SV.emb,Qe2,hf.at ha]
  ·split at h
   ·rename_i h1
    simp only [osi,Prod.mk.injEq] at h
    obtain ⟨rfl,rfl⟩:=h
    obtain ⟨g,k⟩:=Qn4 h1 ha
    exact ⟨g,fun env env' hf hb=>by simp only [SV.emb,k env env' hf hb]⟩
   ·cases h
 | .tup cs,v',a,a',h,ha=>by
  simp only [absV] at h
  split at h
  ·rename_i h1
   simp only [osi,Prod.mk.injEq] at h
   obtain ⟨rfl,rfl⟩:=h
   obtain ⟨g,k⟩:=Qn4 h1 ha
   exact ⟨g,fun env env' hf hb=>by simp only [SV.emb,k env env' hf hb]⟩
  ·cases h
 | .undef,v',a,a',h,ha=>by
  simp only [absV,osi,Prod.mk.injEq] at h; obtain ⟨rfl,rfl⟩:=h; exact ⟨.refl _,fun _ _ _ _=>rfl⟩
 | .nilp,v',a,a',h,ha=>by
  simp only [absV,osi,Prod.mk.injEq] at h; obtain ⟨rfl,rfl⟩:=h; exact ⟨.refl _,fun _ _ _ _=>rfl⟩
 | .nils,v',a,a',h,ha=>by
  simp only [absV,osi,Prod.mk.injEq] at h; obtain ⟨rfl,rfl⟩:=h; exact ⟨.refl _,fun _ _ _ _=>rfl⟩
 | .emp,v',a,a',h,ha=>by
  simp only [absV,osi,Prod.mk.injEq] at h; obtain ⟨rfl,rfl⟩:=h; exact ⟨.refl _,fun _ _ _ _=>rfl⟩
 | .nilm,v',a,a',h,ha=>by
  simp only [absV,osi,Prod.mk.injEq] at h; obtain ⟨rfl,rfl⟩:=h; exact ⟨.refl _,fun _ _ _ _=>rfl⟩
 | .map b,v',a,a',h,ha=>by
  simp only [absV,osi,Prod.mk.injEq] at h; obtain ⟨rfl,rfl⟩:=h; exact ⟨.refl _,fun _ _ _ _=>rfl⟩
 | .nilf,v',a,a',h,ha=>by
  simp only [absV,osi,Prod.mk.injEq] at h; obtain ⟨rfl,rfl⟩:=h; exact ⟨.refl _,fun _ _ _ _=>rfl⟩
 | .nili,v',a,a',h,ha=>by
  simp only [absV,osi,Prod.mk.injEq] at h; obtain ⟨rfl,rfl⟩:=h; exact ⟨.refl _,fun _ _ _ _=>rfl⟩
theorem Qn4 {bs:Bs}:∀ {l l':List SV} {a a':Ab},absL bs l a=some (l',a')→a.n=a.l.length→Grew a a'∧∀ env env',Fits env env' a'.l→Qpb env env' bs→SV.embL env' l'=SV.embL env l
 | [],l',a,a',h,ha=>by
  simp only [absL,osi,Prod.mk.injEq] at h
  obtain ⟨rfl,rfl⟩:=h
  exact ⟨.refl _,fun _ _ _ _=>rfl⟩
 | v::l,l',a,a',h,ha=>by
  simp only [absL] at h
  split at h
  ·cases h
  ·rename_i v1 a1 h1
   split at h
   ·rename_i l1 a2 h2
    simp only [osi,Prod.mk.injEq] at h
    obtain ⟨rfl,rfl⟩:=h
    obtain ⟨g1,k1⟩:=QwW h1 ha
    obtain ⟨g2,k2⟩:=Qn4 h2 (g1.len ha)
    exact ⟨g1.trans g2,fun env env' hf hb=>by simp only [SV.embL,k1 env env' (hf.less g2) hb,k2 env env' hf hb]⟩
   ·cases h
end
theorem QqE:∀ {H:SH} {a:Ab},a.n=a.l.length→Grew a (absB H a).2.2∧∀ env env',Fits env env' (absB H a).2.2.l→
  Qpb env env' (absB H a).2.1
 | [],a,ha=>⟨.refl _,fun env env' hf b t e h hb=>by simp [absB] at hb⟩
 | k::H,a,ha=>by
  have step:∀ (t:Ty) (e:Ex),Grew a (absB H (a.add t e).2).2.2∧∀ env env',Fits env env' (absB H (a.add t e).2).2.2.l→Qpb env env' (absB H (a.add t e).2).2.1∧((a.add t e).1).den env' t=e.den env t:=fun t e=>by
   obtain ⟨g,k⟩:=QqE (H:=H) (a:=(a.add t e).2) ((Grew.add a t e).len ha)
   exact ⟨(Grew.add a t e).trans g,fun env env' hf=>⟨k env env' hf,(hf.less g).at ha⟩⟩
  have rest:∀ {env env':Env} {x:Option (Ty×Ex×Ex)} {bs:Bs},Qpb env env' bs→(∀ t e h,x=some (t,e,h)→h.den env' (.lst t)=e.den env (.lst t))→Qpb env env' (x::bs):=fun hb hx b t e h hh=>by
   cases b with
   | zero=>simp only [List.getElem?_cons_zero,osi] at hh; exact hx t e h hh
   | succ b=>simp only [List.getElem?_cons_succ] at hh; exact hb b t e h hh
  cases k with
  | rows z t e=>
   obtain ⟨g,k⟩:=step (.lst t) e
   refine ⟨g,fun env env' hf=>rest (k env env' hf).1 fun t' e' h' hh=>?_⟩
   simp only [osi,Prod.mk.injEq] at hh
   obtain ⟨rfl,rfl,rfl⟩:=hh
   exact (k env env' hf).2
  | ro z t e=>
   obtain ⟨g,k⟩:=step (.lst t) e
   refine ⟨g,fun env env' hf=>rest (k env env' hf).1 fun t' e' h' hh=>?_⟩
   simp only [osi,Prod.mk.injEq] at hh
   obtain ⟨rfl,rfl,rfl⟩:=hh
   exact (k env env' hf).2
  | map tk tv e=>
   obtain ⟨g,k⟩:=step (.lst (.pair tk tv)) e
   exact ⟨g,fun env env' hf=>rest (k env env' hf).1 fun t' e' h' hh=>by cases hh⟩
  | box z tg es=>
   obtain ⟨g,k⟩:=QqE (H:=H) ha
   exact ⟨g,fun env env' hf=>rest (k env env' hf) fun t' e' h' hh=>by cases hh⟩
  | dead=>
   obtain ⟨g,k⟩:=QqE (H:=H) ha
   exact ⟨g,fun env env' hf=>rest (k env env' hf) fun t' e' h' hh=>by cases hh⟩
def QtK (env env':Env):SH→SH→Prop
 | [],[]=>True
 | a::l,b::r=>(match a,b with
  | .box z tg es,.box z' tg' es'=>z=z'∧es=es'
  | a,b=>b.emb env'=a.emb env)∧QtK env env' l r
 | _,_=>False
theorem QiJ:∀ {H:SH} {a:Ab},a.n=a.l.length→∀ env env',Fits env env' (absB H a).2.2.l→QtK env env' H (absB H a).1
 | [],a,ha,env,env',hf=>trivial
 | k::H,a,ha,env,env',hf=>by
  have g1:∀ (t:Ty) (e:Ex),Fits env env' (absB H (a.add t e).2).2.2.l→((a.add t e).1).den env' t=e.den env t:=fun t e hf=>
   (hf.less (QqE (H:=H) (a:=(a.add t e).2) ((Grew.add a t e).len ha)).1).at ha
  cases k with
  | rows z t e=>
   refine ⟨?_,QiJ ((Grew.add a _ _).len ha) env env' hf⟩
   simp only [SB.emb,g1 _ _ hf]
  | ro z t e=>
   refine ⟨?_,QiJ ((Grew.add a _ _).len ha) env env' hf⟩
   simp only [SB.emb,g1 _ _ hf]
  | map tk tv e=>
   refine ⟨?_,QiJ ((Grew.add a _ _).len ha) env env' hf⟩
   simp only [SB.emb,g1 _ _ hf]
  | box z tg es=>exact ⟨⟨rfl,rfl⟩,QiJ ha env env' hf⟩
  | dead=>exact ⟨rfl,QiJ ha env env' hf⟩
theorem QBA {bs:Bs}{tg:Option Ty}{r r':List SV}{a a':Ab}(h:QAx bs tg r a=some (r',a'))(ha:a.n=a.l.length):Grew a a'∧∀ env env',Fits env env' a'.l→Qpb env env' bs→SV.embL env' r'=SV.embL env r:=by
 unfold QAx at h
 split at h
 ·rename_i t e hr
  simp only [osi,Prod.mk.injEq] at h
  obtain ⟨rfl,rfl⟩:=h
  refine ⟨.add ..,fun env env' hf _=>?_⟩
  unfold QFU at hr
  split at hr
  ·cases hr
  ·split at hr
   ·rename_i he
    simp only [osi,Prod.mk.injEq] at hr
    obtain ⟨rfl,rfl⟩:=hr
    rw [Qe2,hf.at ha,QfL env he]
   ·cases hr
 ·exact Qn4 h ha
theorem QsB {bs:Bs}{tg:Option Ty}:∀ {l l':List (List SV)} {a a':Ab},Qqk bs tg l a=some (l',a')→a.n=a.l.length→Grew a a'∧∀ env env',Fits env env' a'.l→Qpb env env' bs→l'.map (SV.embL env')=l.map (SV.embL env)
 | [],l',a,a',h,ha=>by
  simp only [Qqk,osi,Prod.mk.injEq] at h
  obtain ⟨rfl,rfl⟩:=h
  exact ⟨.refl _,fun _ _ _ _=>rfl⟩
 | r::l,l',a,a',h,ha=>by
  simp only [Qqk] at h
  split at h
  ·cases h
  ·rename_i v1 a1 h1
   split at h
   ·rename_i l1 a2 h2
    simp only [osi,Prod.mk.injEq] at h
    obtain ⟨rfl,rfl⟩:=h
    obtain ⟨g1,k1⟩:=QBA h1 ha
    obtain ⟨g2,k2⟩:=QsB h2 (g1.len ha)
    exact ⟨g1.trans g2,fun env env' hf hb=>by simp only [List.map_cons,k1 env env' (hf.less g2) hb,k2 env env' hf hb]⟩
   ·cases h
theorem QwX {bs:Bs}:∀ {H H':SH} {a a':Ab},absX bs H a=some (H',a')→a.n=a.l.length→Grew a a'∧∀ env env' H0,Fits env env' a'.l→Qpb env env' bs→QtK env env' H0 H→embH env' H'=embH env H0
 | [],H',a,a',h,ha=>by
  simp only [absX,osi,Prod.mk.injEq] at h
  obtain ⟨rfl,rfl⟩:=h
  refine ⟨.refl _,fun env env' H0 _ _ hs=>?_⟩
  cases H0 with
  | nil=>rfl
  | cons a l=>exact hs.elim
 | k::H,H',a,a',h,ha=>by
  have other:(∀ z tg es,k≠.box z tg es)→∀ {H1:SH} {a1:Ab},absX bs H a=some (H1,a1)→Grew a a1∧∀ env env' H0,Fits env env' a1.l→Qpb env env' bs→QtK env env' H0 (k::H)→embH env' (k::H1)=embH env H0:=fun hk H1 a1 h1=>by
   obtain ⟨g,f⟩:=QwX h1 ha
   refine ⟨g,fun env env' H0 hf hb hs=>?_⟩
   cases H0 with
   | nil=>exact hs.elim
   | cons b l=>
    have e1:k.emb env'=b.emb env:=by
     have:=hs.1
     cases k<;>first |exact absurd rfl (hk _ _ _) |(cases b<;>exact this)
    show k.emb env'::embH env' H1=b.emb env::embH env l
    rw [e1,f env env' l hf hb hs.2]
  cases k with
  | box z tg es=>
   simp only [absX] at h
   split at h
   ·cases h
   ·rename_i es1 a1 h1
    split at h
    ·rename_i H1 a2 h2
     simp only [osi,Prod.mk.injEq] at h
     obtain ⟨rfl,rfl⟩:=h
     obtain ⟨g1,k1⟩:=QsB h1 ha
     obtain ⟨g2,k2⟩:=QwX h2 (g1.len ha)
     refine ⟨g1.trans g2,fun env env' H0 hf hb hs=>?_⟩
     cases H0 with
     | nil=>exact hs.elim
     | cons b l=>
      have e1:Blk.rows z false (es.map (SV.embL env))=b.emb env:=by
       have:=hs.1
       cases b with
       | box z' tg' es'=>obtain ⟨rfl,rfl⟩:=this; rfl
       | rows z' t' e'=>simp only [SB.emb,Blk.rows.injEq,reduceCtorEq,false_and,and_false] at this
       | ro z' t' e'=>simp only [SB.emb,reduceCtorEq] at this
       | map t' u' e'=>simp only [SB.emb,reduceCtorEq] at this
       | dead=>simp only [SB.emb,reduceCtorEq] at this
      show Blk.rows z false (es1.map (SV.embL env'))::embH env' H1=b.emb env::embH env l
      rw [k1 env env' (hf.less g2) hb,e1,k2 env env' l hf hb hs.2]
    ·cases h
  | rows z t e=>
   simp only [absX] at h
   split at h
   ·rename_i h1
    simp only [osi,Prod.mk.injEq] at h
    obtain ⟨rfl,rfl⟩:=h
    exact other (fun _ _ _ h=>by cases h) h1
   ·cases h
  | ro z t e=>
   simp only [absX] at h
   split at h
   ·rename_i h1
    simp only [osi,Prod.mk.injEq] at h
    obtain ⟨rfl,rfl⟩:=h
    exact other (fun _ _ _ h=>by cases h) h1
   ·cases h
  | map z t e=>
   simp only [absX] at h
   split at h
   ·rename_i h1
    simp only [osi,Prod.mk.injEq] at h
    obtain ⟨rfl,rfl⟩:=h
    exact other (fun _ _ _ h=>by cases h) h1
   ·cases h
  | dead=>
   simp only [absX] at h
   split at h
   ·rename_i h1
    simp only [osi,Prod.mk.injEq] at h
    obtain ⟨rfl,rfl⟩:=h
    exact other (fun _ _ _ h=>by cases h) h1
   ·cases h
theorem QBB {bs:Bs}:∀ {fr fr':SF} {a a':Ab},absF bs fr a=some (fr',a')→a.n=a.l.length→Grew a a'∧∀ env env',Fits env env' a'.l→Qpb env env' bs→embF env' fr'=embF env fr
 | [],l',a,a',h,ha=>by
  simp only [absF,osi,Prod.mk.injEq] at h
  obtain ⟨rfl,rfl⟩:=h
  exact ⟨.refl _,fun _ _ _ _=>rfl⟩
 | p::r,l',a,a',h,ha=>by
  simp only [absF] at h
  split at h
  ·cases h
  ·rename_i v1 a1 h1
   split at h
   ·rename_i l1 a2 h2
    simp only [osi,Prod.mk.injEq] at h
    obtain ⟨rfl,rfl⟩:=h
    obtain ⟨g1,k1⟩:=QwW h1 ha
    obtain ⟨g2,k2⟩:=QBB h2 (g1.len ha)
    refine ⟨g1.trans g2,fun env env' hf hb=>?_⟩
    show (p.1,v1.emb env')::embF env' l1=(p.1,p.2.emb env)::embF env r
    rw [k1 env env' (hf.less g2) hb,k2 env env' hf hb]
   ·cases h
theorem QtL {fr fr':SF}{H H':SH}{θ:List (Ty×Ex)}(h:absS fr H=some (fr',H',θ)){env env':Env}(hf:∀ i t e,θ[i]?=some (t,e)→env' i t=e.den env t):
  embF env' fr'=embF env fr∧embH env' H'=embH env H:=by
 unfold absS at h
 simp only at h
 have h0:({ n:=0,l:=[] }:Ab).n=({ n:=0,l:=[] }:Ab).l.length:=rfl
 obtain ⟨g0,k0⟩:=QqE (H:=H) h0
 split at h
 ·cases h
 ·rename_i H1 a1 h1
  split at h
  ·cases h
  ·rename_i fr1 a2 h2
   simp only [osi,Prod.mk.injEq] at h
   obtain ⟨rfl,rfl,rfl⟩:=h
   obtain ⟨g1,k1⟩:=QwX h1 (g0.len h0)
   obtain ⟨g2,k2⟩:=QBB h2 (g1.len (g0.len h0))
   have F2:Fits env env' a2.l:=hf
   have F1:=F2.less g2
   have F0:=F1.less g1
   have hb:=k0 env env' F0
   exact ⟨k2 env env' F2 hb,k1 env env' H F1 hb (QiJ h0 env env' F0)⟩
end Go.Sy
