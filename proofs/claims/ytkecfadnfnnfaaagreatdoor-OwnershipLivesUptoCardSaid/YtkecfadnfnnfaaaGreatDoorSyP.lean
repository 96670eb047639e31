/- Symbolic runs: what a family's tree says is true of its function or loop. -/
import Derived.Test.YtkecfadnfnnfaaaGreatDoorSyV
set_option linter.unusedVariables false
set_option linter.unusedSimpArgs false
noncomputable section
namespace Go.Sy
open Go Go.Ev
section
variable {c:Ctx} {rec:Task→Option Res} {tb:Tab} {m:(f:Nat)→Pr (tb.P f)→Option (Sm (tb.O f))} {α:Type}
variable {Q:Env→α→Prop}
theorem QsG (hs:Sound c rec tb m){f mm n id:Nat}{ops:Array Oper}{draw:Bool}{env:Env}{s:SS}{K:SS→T α}(hi:Inv m env s)
  (hk:∀ env' s',Qcj c rec f mm n id ops draw (s.emb env)=some (.norm,s'.emb env')→Qe5 m env s env' s'→Ok m (K s') env' Q):Ok m (Qtw c tb f mm n id ops draw s K) env Q:=by
 have last:∀ (env':Env) (s':SS),(⟨(s'.emb env').fr.only (c.keep f id),(s'.emb env').H⟩:St)=({ s' with fr:=Qth (c.keep f id) s'.fr }:SS).emb env':=fun env' s'=>by
  simp only [SS.emb,QkP]
 unfold Qtw
 simp only
 split
 ·refine Qna hs _ _ env _ _ hi fun env' s' h e=>hk env' _ ?_ ⟨e.inv,e.nx,e.agr⟩
  have h':Qbj c rec mm n ops (ops.size+1) (c.plan f id) ⟨s.emb env,[]⟩=some (s'.emb env'):=h
  rw [QF7,h',Option.bind_some,last]
 ·refine Qpw hs hi fun env' s' h e=>hk env' _ ?_ ⟨e.inv,e.nx,e.agr⟩
  rw [QAV,h,Option.bind_some,last]
theorem Qpy {f mask mm:Nat}{env:Env}{s:SS}{K:SS→T α}(hi:Inv m env s)
  (hk:∀ s',(∀ {β:Type} (k:St→Option β),(s.emb env).norm c (c.nilz f) mask mm k=k (s'.emb env))→Qe5 m env s env s'→Ok m (K s') env Q):Ok m (Qqo c f mask mm s K) env Q:=by
 unfold Qqo
 refine Qau fun s' hs'=>hk s' (fun k=>(Qm5 hs' k).1) ?_
 obtain ⟨_,h1,h2⟩:=Qm5 (env:=env) hs' (fun s=>some s)
 exact ⟨fun f hf=>hi f (by rw [← h2]; exact hf),by rw [h1]; exact Nat.le_refl _,Agree.refl⟩
def Qmk (c:Ctx)(rec:Task→Option Res)(f m n:Nat):Code→Nat→Bool→St→Option (Go.Ev.Ex×St)
 | .region id ops draw,blk,true,st=>Qcj c rec f m n id ops draw st
 | .seq a b,blk,true,st=>QkE (Qmk c rec f m n a blk true) (Qaw c rec f m n blk b) st
 | co,blk,_,st=>Qaw c rec f m n blk co st
theorem QbW (f mm n:Nat)(co:Code)(blk:Nat)(st:St):Qmk c rec f mm n co blk false st=Qaw c rec f mm n blk co st:=by cases co<;>rfl
theorem Qml (f mm n id:Nat)(ops:Array Oper)(draw:Bool)(blk:Nat)(st:St):Qaw c rec f mm n blk (.region id ops draw) st=if c.pre f id=0 then Qcj c rec f mm n id ops draw st else st.norm c (c.nilz f) (c.pre f id) mm fun s=>Qcj c rec f mm n id ops draw s:=by
 rw [QmI,QAY]
 rfl
theorem QE0 {f mm n:Nat}{st st':St}:∀ (co:Code) (blk:Nat),QyZ c f co≠0→(∀ {β:Type} (k:St→Option β),st.norm c (c.nilz f) (QyZ c f co) mm k=k st')→Qaw c rec f mm n blk co st=Qmk c rec f mm n co blk true st':=by
 intro co blk hp hn
 induction co generalizing blk with
 | region id ops draw=>
  rw [Qml,if_neg (show ¬ c.pre f id=0 from hp)]
  exact hn _
 | seq a b iha ihb=>
  rw [QnE]
  have:=iha blk hp hn
  show QkE (Qaw c rec f mm n blk a) _ st=QkE (Qmk c rec f mm n a blk true) _ st'
  unfold QkE
  rw [this]
 | _=>exact absurd rfl hp
theorem QlC {env1 env':Env}{n:Nat}:∀ {os:List (List Ty)} {z:Sm os} {j j':Nat} {es:List Ex},mkSm env1 os j es=some z→Qg4 env' os z j' n→j'=j∧∀ ts,os[j]?=some ts→getP env' ts n=mkPr env1 ts es
 | [],z,_,_,_,_,_=>z.elim
 | [a],z,j,j',es,h,ha=>by
  cases j with
  | zero=>
   simp only [mkSm,osi] at h
   subst h
   cases j' with
   | zero=>exact ⟨rfl,fun ts ht=>by
     simp only [List.getElem?_cons_zero,osi] at ht
     subst ht
     exact ha.symm⟩
   | succ j'=>exact ha.elim
  | succ j=>simp [mkSm] at h
 | a::b::l,z,j,j',es,h,ha=>by
  cases j with
  | zero=>
   simp only [mkSm,osi] at h
   subst h
   cases j' with
   | zero=>exact ⟨rfl,fun ts ht=>by
     simp only [List.getElem?_cons_zero,osi] at ht
     subst ht
     exact ha.symm⟩
   | succ j'=>exact ha.elim
  | succ j=>
   simp only [mkSm] at h
   cases hr:mkSm env1 (b::l) j es with
   | none=>rw [hr] at h; simp at h
   | some y=>
    rw [hr,Option.map_some,osi] at h
    subst h
    cases j' with
    | zero=>exact ha.elim
    | succ j'=>
     obtain ⟨e1,e2⟩:=QlC hr ha
     exact ⟨by rw [e1],fun ts ht=>e2 ts (by simpa using ht)⟩
theorem Qvp {env env1:Env}{t:Ty}{N:List Ty}{n:Nat}{e:Ex}{es:List Ex}(h:getP env (t::N) n=mkPr env1 (t::N) (e::es)):env n t=e.den env1 t∧getP env N (n+1)=mkPr env1 N es:=by
 cases N with
 | nil=>exact ⟨h,rfl⟩
 | cons u N=>
  have h':(env n t,getP env (u::N) (n+1))=(e.den env1 t,mkPr env1 (u::N) es):=h
  simp only [Prod.mk.injEq] at h'
  exact h'
theorem QqJ {nx:Nat}{env1 env':Env}(hag:Agree nx env1 env'):∀ {hs:List (Option Ex)} {ts:List Ty} {θ:List (Ty×Ex)} {es:List Ex} {n:Nat},QhB nx hs ts θ=some es→getP env' (Shp.new.QyX hs ts) n=mkPr env1 (Shp.new.QyX hs ts) es→
  ∀ i t e,θ[i]?=some (t,e)→((QC0 hs n).getD i .un).den env' t=e.den env1 t
 | [],[],[],es,n,h,hg=>fun i t e hi=>by simp at hi
 | some a::l,t::ts,(u,e)::r,es,n,h,hg=>by
  simp only [QhB] at h
  split at h
  ·rename_i hb
   obtain ⟨b1,b2⟩:=Qan hb
   obtain ⟨b2,b3⟩:=Qan b2
   intro i t' e' hi
   cases i with
   | zero=>
    simp only [List.getElem?_cons_zero,osi,Prod.mk.injEq] at hi
    obtain ⟨rfl,rfl⟩:=hi
    rw [← QaH b2]
    exact (QaB hag b3 u).symm
   | succ i=>
    simp only [List.getElem?_cons_succ] at hi
    exact QqJ hag h hg i t' e' hi
  ·cases h
 | none::l,t::ts,(u,e)::r,es,n,h,hg=>by
  simp only [QhB] at h
  split at h
  ·rename_i hb
   split at h
   ·rename_i es' hes
    simp only [osi] at h
    subst h
    have hb':=QaT hb
    subst hb'
    obtain ⟨g1,g2⟩:=Qvp (N:=Shp.new.QyX l ts) hg
    intro i t' e' hi
    cases i with
    | zero=>
     simp only [List.getElem?_cons_zero,osi,Prod.mk.injEq] at hi
     obtain ⟨rfl,rfl⟩:=hi
     exact g1
    | succ i=>
     simp only [List.getElem?_cons_succ] at hi
     exact QqJ hag hes g2 i t' e' hi
   ·cases h
  ·cases h
 | [],[],_::_,_,_,h,_=>by simp [QhB] at h
 | [],_::_,_,_,_,h,_=>by simp [QhB] at h
 | some _::_,[],_,_,_,h,_=>by simp [QhB] at h
 | none::_,[],_,_,_,h,_=>by simp [QhB] at h
 | some _::_,_::_,[],_,_,h,_=>by simp [QhB] at h
 | none::_,_::_,[],_,_,h,_=>by simp [QhB] at h
theorem Qvq {a b:Go.Ev.Ex}(h:QuV a b=true):a=b:=by
 cases a<;>cases b<;>simp only [QuV,reduceCtorEq] at h<;>first |rfl |(rw [Qcl h])
theorem QsH {nx:Nat}:∀ {l:List Shp} {j0:Nat} {ex:Go.Ev.Ex} {fr:SF} {H:SH} {θ:List (Ty×Ex)} {j:Nat} {es:List Ex},Qmd nx l j0 ex fr H θ=some (j,es)→
  ∃ k s,j=j0+k∧l[k]?=some s∧s.ex=ex∧s.fr=fr∧s.H=H∧QhB nx s.hs s.ts θ=some es
 | [],_,_,_,_,_,_,_,h=>by simp [Qmd] at h
 | s::l,j0,ex,fr,H,θ,j,es,h=>by
  have rest:Qmd nx l (j0+1) ex fr H θ=some (j,es)→∃ k s',j=j0+k∧(s::l)[k]?=some s'∧s'.ex=ex∧s'.fr=fr∧s'.H=H∧QhB nx s'.hs s'.ts θ=some es:=fun h=>by
   obtain ⟨k,s',h1,h2,h3⟩:=QsH h
   exact ⟨k+1,s',by omega,by simpa using h2,h3⟩
  simp only [Qmd] at h
  split at h
  ·rename_i hb
   obtain ⟨b1,b2⟩:=Qan hb
   obtain ⟨b2,b3⟩:=Qan b2
   split at h
   ·rename_i es' hes
    simp only [osi,Prod.mk.injEq] at h
    obtain ⟨rfl,rfl⟩:=h
    exact ⟨0,s,rfl,rfl,Qvq b1,Qmf b2,QnY b3,hes⟩
   ·exact rest h
  ·exact rest h
theorem Qyh {env:Env}{s0:SS}{K:Go.Ev.Ex×SS→T α}:∀ (l:List Shp) (z:Sm (l.map Shp.new)),
  (∀ k s env',l[k]?=some s→Qg4 env' (l.map Shp.new) z k s0.nx→Agree s0.nx env env'→
   Ok m (K (s.ex,{ fr:=QrJ (s.σ s0.nx) s.fr,H:=Qtk (s.σ s0.nx) s.H,nx:=s0.nx+s.new.length,fs:=s0.fs })) env' Q)→OkA m (QyY s0 K l) (l.map Shp.new) z s0.nx env Q
 | [],z,h=>z.elim
 | [o],z,h=>by
  simp only [List.map_cons,List.map_nil,QyY,OkA]
  exact h 0 o _ rfl (Qe4 o.new env s0.nx z) (QdF o.new env s0.nx z)
 | o::o2::l,.inl p,h=>by
  simp only [List.map_cons,QyY,OkA]
  exact h 0 o _ rfl (Qe4 o.new env s0.nx p) (QdF o.new env s0.nx p)
 | o::o2::l,.inr y,h=>by
  have:=Qyh (o2::l) y fun k o' env' hk ha hg=>h (k+1) o' env' (by simpa using hk) ha hg
  simp only [List.map_cons,QyY,OkA] at this ⊢
  exact this
def Ready (c:Ctx)(f mask mm:Nat)(ex:Go.Ev.Ex)(st st':St):Prop:=match ex with
 | .norm=>∀ {β:Type} (k:St→Option β),st.norm c (c.nilz f) mask mm k=k st'
 | _=>st=st'
theorem QBG {f mask mm:Nat}{env:Env}{p p':Go.Ev.Ex×SS}(h:QAO c f mask mm p=some p'):p'.1=p.1∧Ready c f mask mm p.1 (p.2.emb env) (p'.2.emb env)∧p'.2.nx=p.2.nx∧p'.2.fs=p.2.fs:=by
 obtain ⟨ex,s⟩:=p
 unfold QAO at h
 cases ex with
 | norm=>
  simp only at h
  split at h
  ·rename_i s' hs'
   simp only [osi] at h
   subst h
   obtain ⟨_,h1,h2⟩:=Qm5 (env:=env) hs' (fun s=>some s)
   exact ⟨rfl,fun k=>(Qm5 hs' k).1,h1,h2⟩
  ·cases h
 | exit k=>
  simp only [osi] at h
  subst h
  exact ⟨rfl,rfl,rfl,rfl⟩
 | ret=>
  simp only [osi] at h
  subst h
  exact ⟨rfl,rfl,rfl,rfl⟩
theorem Qyi {rd:Go.Ev.Ex×SS→Option (Go.Ev.Ex×SS)}{R:Go.Ev.Ex→St→St→Prop}(hrd:∀ (env:Env) (p p':Go.Ev.Ex×SS),rd p=some p'→p'.1=p.1∧R p.1 (p.2.emb env) (p'.2.emb env)∧p'.2.nx=p.2.nx∧p'.2.fs=p.2.fs)
  {x:T (Go.Ev.Ex×SS)} {env:Env} {s0:SS} {K:Go.Ev.Ex×SS→T (Go.Ev.Ex×SS)} {Q1:Env→Go.Ev.Ex×SS→Prop} {Q:Env→Go.Ev.Ex×SS→Prop} (hi:Inv m env s0)
  (hx:Ok m x env Q1) (hl:∀ e p,Q1 e p→Qe5 m env s0 e p.2)
  (hk:∀ e1 p e2 p',Q1 e1 p→p'.1=p.1→R p.1 (p.2.emb e1) (p'.2.emb e2)→Qe5 m env s0 e2 p'.2→Ok m (K p') e2 Q):Ok m (QC1 rd x s0 K) env Q:=by
 unfold QC1
 split
 ·refine Ok.bind m (fun e1 p hq=>Qau fun p' hp'=>?_) x env hx
  obtain ⟨h1,h2,h3,h4⟩:=hrd e1 _ _ hp'
  have hL:=hl e1 p hq
  exact hk e1 p e1 p' hq h1 h2 ⟨fun g hg=>hL.inv g (by rw [← h4]; exact hg),by rw [h3]; exact hL.nx,hL.agr⟩
 ·split
  ·simp only [Ok]
  ·rename_i l hshp
   refine QbR fun hb=>?_
   simp only [Ok]
   intro z hz
   refine Qyh l z fun k s env' hks ha hag=>?_
   obtain ⟨e1,p,hq,hz'⟩:=Qe3 m x env hz hx
   cases hr:rd p with
   | none=>rw [hr] at hz'; simp only [opt,T.den,reduceCtorEq] at hz'
   | some p'=>
    rw [hr] at hz'
    simp only [opt] at hz'
    obtain ⟨h1,h2,h3,h4⟩:=hrd e1 _ _ hr
    have hL:=hl e1 p hq
    unfold outT at hz'
    cases hleaf:Qwx s0.nx l p' with
    | none=>rw [hleaf] at hz'; simp only [T.den,reduceCtorEq] at hz'
    | some je=>
     obtain ⟨j,es⟩:=je
     rw [hleaf] at hz'
     simp only [T.den] at hz'
     obtain ⟨rfl,hget⟩:=QlC hz' ha
     unfold Qwx at hleaf
     split at hleaf
     ·cases hleaf
     ·rename_i fr H θ habs
      obtain ⟨k',s',hj,hs',g1,g2,g3,g4⟩:=QsH hleaf
      rw [Nat.zero_add] at hj
      subst hj
      rw [hs'] at hks
      simp only [osi] at hks
      subst hks
      have hts:(l.map Shp.new)[k]?=some s'.new:=by rw [List.getElem?_map,hs']; rfl
      have hg:=hget _ hts
      have hag':Agree s0.nx e1 env':=hL.agr.symm.trans hag (Nat.le_refl _)
      have hh:=QqJ hag' g4 hg
      have hemb:=QtL (env:=e1) (env':=fun i u=>((s'.σ s0.nx) i).den env' u) habs hh
      have hst:({ fr:=QrJ (s'.σ s0.nx) s'.fr,H:=Qtk (s'.σ s0.nx) s'.H,nx:=s0.nx+s'.new.length,fs:=s0.fs }:SS).emb env'=p'.2.emb e1:=by
       unfold SS.emb
       simp only [QkQ,QmZ]
       rw [g2,g3,hemb.1,hemb.2]
      refine hk e1 p env' _ hq (g1.trans h1) (by rw [hst]; exact h2) ⟨?_,Nat.le_add_right _ _,hag⟩
      exact fun g hg=>Qqx (s:=s0) hag hb hi g hg
theorem QDy {f mask mm:Nat}{x:T (Go.Ev.Ex×SS)}{env:Env}{s0:SS}{K:Go.Ev.Ex×SS→T (Go.Ev.Ex×SS)}{Q1:Env→Go.Ev.Ex×SS→Prop}{Q:Env→Go.Ev.Ex×SS→Prop}(hi:Inv m env s0)
  (hx:Ok m x env Q1) (hl:∀ e p,Q1 e p→Qe5 m env s0 e p.2)
  (hk:∀ e1 p e2 p',Q1 e1 p→p'.1=p.1→Ready c f mask mm p.1 (p.2.emb e1) (p'.2.emb e2)→Qe5 m env s0 e2 p'.2→Ok m (K p') e2 Q):Ok m (QEH (β:=Unit) c f mask mm x s0 K) env Q:=
 Qyi (R:=Ready c f mask mm) (fun env p p' h=>QBG (env:=env) h) hi hx hl hk
theorem Qvr:∀ l:List Oper,(segs l).flatten=l
 | []=>rfl
 | o::l=>by
  have ih:=Qvr l
  rw [segs]
  cases QAN o with
  | true=>
   show ([o]::segs l).flatten=_
   rw [List.flatten_cons,ih]
   rfl
  | false=>
   cases hs:segs l with
   | nil=>
    rw [hs] at ih
    show [[o]].flatten=_
    rw [← ih]
    rfl
   | cons s r=>
    rw [hs] at ih
    show ((o::s)::r).flatten=_
    rw [← ih]
    rfl
theorem QsI (c:Ctx)(rec:Task→Option Res)(n:Nat)(ops:Array Oper):∀ (l r:List Oper) (st:St),QbU c rec n ops (l++r) st=(QbU c rec n ops l st).bind (QbU c rec n ops r)
 | [],r,st=>rfl
 | o::l,r,st=>by
  rw [List.cons_append,QfH,QfH]
  unfold QrE
  cases Qce c rec n ops o st with
  | none=>rfl
  | some s=>exact QsI c rec n ops l r s
theorem Qvs (env:Env):∀ {fr:SF} {d:Nat},QuY d fr=true→Qmc fr=true→Qdj d (embF env fr)
 | [],_,_,_=>trivial
 | p::r,d,h,hs=>by
  obtain ⟨h1,h2⟩:=Qan (show (QuY p.1 r&&Qmc r)=true from hs)
  have hlt:d<p.1:=by simpa [QuY,Nat.blt_eq] using h
  exact ⟨hlt,QhG hlt (Qvs env h1 h2)⟩
theorem QBH (env:Env):∀ {fr:SF},Qmc fr=true→Srt (embF env fr)
 | [],_=>trivial
 | p::r,hs=>by
  obtain ⟨h1,h2⟩:=Qan (show (QuY p.1 r&&Qmc r)=true from hs)
  exact ⟨Qvs env h1 h2,QBH env h2⟩
theorem QBI {env:Env}{fs:List Fact}{e:Ex}{b:Bool}(hf:∀ f∈fs,Fact.holds m env f)(h:QxT fs e=some b):e.den env .bool=b:=by
 unfold QxT at h
 split at h
 ·rename_i o x
  split at h
  ·split at h
   ·rename_i b' hb
    simp only [osi] at h
    subst h
    show (!(x.den env .bool))=_
    rw [QhD hf hb]
   ·cases h
  ·exact QhD hf h
 ·exact QhD hf h
theorem QqK {env:Env}{fs:List Fact}(hf:∀ f∈fs,Fact.holds m env f):∀ fr:SF,embF env (QnU fs fr)=embF env fr
 | []=>rfl
 | p::r=>by
  have ih:=QqK hf r
  rw [QnU]
  show (_,_)::embF env (QnU fs r)=(p.1,p.2.emb env)::embF env r
  rw [ih]
  congr 1
  obtain ⟨k,v⟩:=p
  cases v with
  | bb e=>
   simp only
   cases hk:QxT fs e with
   | none=>rfl
   | some b=>
    show (k,AV.bool b)=(k,AV.bool (e.den env .bool))
    rw [QBI hf hk]
  | _=>rfl
theorem QBJ (hs:Sound c rec tb m){n:Nat}{ops:Array Oper}{keep:Nat}(hk:keep≠0):∀ (l:List (List Oper)) (env:Env) (s:SS),Inv m env s→
  Ok m (segT c tb n ops keep l s) env (fun env' p=>p.1=.norm∧((QbU c rec n ops l.flatten (s.emb env)).map fun st=>(⟨st.fr.only keep,st.H⟩:St))=some (p.2.emb env')∧Qe5 m env s env' p.2)
 | [],env,s,hi=>by
  rw [segT]
  show _∧_
  refine ⟨rfl,?_,⟨hi,Nat.le_refl _,Agree.refl⟩⟩
  show some (⟨(s.emb env).fr.only keep,(s.emb env).H⟩:St)=_
  simp only [SS.emb,QkP]
 | [l],env,s,hi=>by
  rw [segT]
  refine Qpw hs hi fun env' s' h e=>?_
  show _∧_
  refine ⟨rfl,?_,⟨e.inv,e.nx,e.agr⟩⟩
  rw [show [l].flatten=l by simp,h]
  simp only [Option.map_some,SS.emb,QkP]
 | l::l2::r,env,s,hi=>by
  have ih:=QBJ hs (n:=n) (ops:=ops) hk (l2::r)
  rw [segT]
  refine QbR fun hb=>?_
  obtain ⟨hsub,hall⟩:=Qan hb
  generalize hM:Qwv ops (l2::r).flatten keep=M at hsub hall ⊢
  have hM0:M≠0:=fun h0=>by
   subst h0
   have:keep &&& 0=keep:=Nat.eq_of_beq_eq_true hsub
   rw [Nat.and_zero] at this
   exact hk this.symm
  refine Qyi (R:=fun _ a b=>a=b) (fun env p p' h=>by simp only [osi] at h; subst h; exact ⟨rfl,rfl,rfl,rfl⟩)
   (Q1:=fun e p=>∃ s1:SS,QbU c rec n ops l (s.emb env)=some (s1.emb e)∧Qmc s1.fr=true∧p=(.norm,{ s1 with fr:=QnU s1.fs (Qth M s1.fr) })∧Qe5 m env s e p.2) hi ?_ (fun e p hq=>hq.choose_spec.2.2.2) ?_
  ·refine Qpw hs hi fun env' s' h e=>QbR fun hsort=>?_
   simp only [Ok]
   exact ⟨s',h,hsort,rfl,⟨e.inv,e.nx,e.agr⟩⟩
  ·rintro e1 p e2 p' ⟨s1,h1,h2,rfl,h4⟩ hp1 hp2 hL
   refine Ok.imp m (fun e3 q hq=>?_) _ _ (ih e2 p'.2 hL.inv)
   obtain ⟨q1,q2,q3⟩:=hq
   refine ⟨q1,?_,hL.trans q3⟩
   rw [List.flatten_cons,QsI,h1,Option.bind_some]
   have hd:=Qw2 c rec n ops hk hsub (l2::r).flatten hall (embF e1 s1.fr) (QBH e1 h2) (embH e1 s1.H)
   rw [show s1.emb e1=⟨embF e1 s1.fr,embH e1 s1.H⟩ from rfl,hd]
   have hemb:(⟨Fr.sift M (embF e1 s1.fr),embH e1 s1.H⟩:St)=p'.2.emb e2:=by
    rw [← hp2]
    unfold SS.emb
    simp only [QqK (fun f hf=>h4.inv f hf),QkP]
    unfold Fr.only
    have:Nat.beq M 0=false:=by cases M with |zero=>exact absurd rfl hM0 |succ k=>rfl
    rw [this]
   rw [hemb]
   exact q2
theorem Qw3 (hs:Sound c rec tb m){f mm n id:Nat}{ops:Array Oper}{draw:Bool}{env:Env}{s:SS}(hi:Inv m env s):
  Ok m (regT c tb f mm n id ops draw s) env (fun env' p=>Qcj c rec f mm n id ops draw (s.emb env)=some (p.1,p.2.emb env')∧Qe5 m env s env' p.2):=by
 unfold regT
 split
 ·refine QsG hs hi fun env' s' h e=>?_
  simp only [Ok]
  exact ⟨h,e⟩
 ·split
  ·refine QsG hs hi fun env' s' h e=>?_
   simp only [Ok]
   exact ⟨h,e⟩
  ·rename_i k hk
   refine Ok.imp m (fun e q hq=>?_) _ _ (QBJ hs (Nat.succ_ne_zero k) (segs ops.toList) env s hi)
   obtain ⟨q1,q2,q3⟩:=hq
   refine ⟨?_,q3⟩
   rw [Qvr] at q2
   rw [QAV,hk,q1]
   cases he:QbU c rec n ops ops.toList (s.emb env) with
   | none=>rw [he] at q2; cases q2
   | some st=>
    rw [he] at q2
    simp only [Option.map_some,osi] at q2
    rw [Option.bind_some,← q2]
theorem QDz (hs:Sound c rec tb m){f blk mm:Nat}{F:Func}{bF lb:Code}(hF:c.fn f=some F)(hbF:F.body=some bF)(hlb:Qkg (QaI bF 0) blk=some lb){n:Nat}{env:Env}{s:SS}(hi:Inv m env s):
  Ok m (QC2 c tb f blk mm s) env (fun env' p=>Qaw c rec f mm n blk (.loop lb) (s.emb env)=some (p.1,p.2.emb env')∧Qe5 m env s env' p.2):=by
 unfold QC2
 refine Qpy hi fun s1 h1 e1=>Qau fun q hq=>?_
 obtain ⟨fr,H,θ⟩:=q
 simp only
 refine Qau fun fam hfam=>QbR fun hb=>?_
 obtain ⟨b1,b2⟩:=Qan hb
 obtain ⟨b2,b3⟩:=Qan b2
 obtain ⟨b3,b4⟩:=Qan b3
 obtain ⟨f1,f2,f3⟩:=QiK hfam
 refine Qpu e1.inv fun env' o k j s2 z hz ha ho e2 hp hθ=>?_
 have hm:=hs fam _ z hz env' _ k j o rfl ha ho
 obtain ⟨g1,g2⟩:=QkT (tb:=tb) (i:=fam) hq f1 f2 f3 env'
 unfold Qhr at hm
 rw [Qcl b1] at hm
 simp only at hm
 have:=hm F bF lb (by rw [Qcl b2]; exact hF) hbF (by rw [Qcl b3]; exact hlb)
 rw [Qcl b2,Qcl b3,Qcl b4,g1,g2,e2.emF,e2.emH] at this
 simp only [Ok]
 refine ⟨?_,e1.trans ⟨e2.inv,e2.nx,e2.agr⟩⟩
 rw [QpN,h1,QDc]
 rw [show s1.emb env=⟨embF env s1.fr,embH env s1.H⟩ from rfl,this]
 rfl
theorem QtU (hs:Sound c rec tb m){f mm n:Nat}{F:Func}{bF:Code}(hF:c.fn f=some F)(hbF:F.body=some bF):∀ (co:Code) (blk:Nat) (rdy:Bool) (env:Env) (s:SS),Inv m env s→
  (∀ p∈QaI co blk,Qkg (QaI bF 0) p.1=some p.2)→
  Ok m (QnV c tb f mm n co blk rdy s) env (fun env' p=>Qmk c rec f mm n co blk rdy (s.emb env)=some (p.1,p.2.emb env')∧Qe5 m env s env' p.2):=by
 intro co
 induction co with
 | skip=>
  intro blk rdy env s hi hL
  show Ok m (.ret (Go.Ev.Ex.norm,s)) env _
  simp only [Ok]
  exact ⟨by cases rdy<;>rfl,.refl hi⟩
 | region id ops draw=>
  intro blk rdy env s hi hL
  show Ok m (match rdy||Nat.beq (c.pre f id) 0 with
   | true=>regT c tb f mm n id ops draw s
   | false=>Qqo c f (c.pre f id) mm s fun s=>regT c tb f mm n id ops draw s) env _
  cases rdy with
  | true=>exact Qw3 hs hi
  | false=>
   simp only [Bool.false_or]
   split
   ·rename_i hz
    refine Ok.imp m (fun e q hq=>?_) _ _ (Qw3 hs hi)
    refine ⟨?_,hq.2⟩
    rw [QbW,Qml,if_pos (Qcl hz)]
    exact hq.1
   ·rename_i hz
    refine Qpy hi fun s1 h1 e1=>Ok.imp m (fun e q hq=>?_) _ _ (Qw3 hs e1.inv)
    refine ⟨?_,e1.trans hq.2⟩
    rw [QbW,Qml,if_neg (fun h0=>by rw [h0] at hz; simp at hz),h1]
    exact hq.1
 | seq a b iha ihb=>
  intro blk rdy env s hi hL
  have hLa:∀ p∈QaI a blk,Qkg (QaI bF 0) p.1=some p.2:=fun p hp=>hL p (by simp only [QaI,List.mem_append]; exact .inl hp)
  have hLb:∀ p∈QaI b blk,Qkg (QaI bF 0) p.1=some p.2:=fun p hp=>hL p (by simp only [QaI,List.mem_append]; exact .inr hp)
  have hev:∀ st,Qmk c rec f mm n (.seq a b) blk rdy st=QkE (Qmk c rec f mm n a blk rdy) (Qaw c rec f mm n blk b) st:=fun st=>by
   cases rdy with
   | true=>rfl
   | false=>
    rw [QbW,QnE]
    congr 1
    funext st
    rw [QbW]
  have ha:=iha blk rdy env s hi hLa
  have next:∀ (e1:Env) (p:Go.Ev.Ex×SS) (e2:Env) (p':Go.Ev.Ex×SS) (r:Bool),Qmk c rec f mm n a blk rdy (s.emb env)=some (p.1,p.2.emb e1)→p'.1=p.1→
    (p.1=.norm→Qaw c rec f mm n blk b (p.2.emb e1)=Qmk c rec f mm n b blk r (p'.2.emb e2))→(p.1≠.norm→p.2.emb e1=p'.2.emb e2)→Qe5 m env s e2 p'.2→
    Ok m (seqK p'.1 p'.2 (QnV c tb f mm n b blk r)) e2 (fun env' q=>Qmk c rec f mm n (.seq a b) blk rdy (s.emb env)=some (q.1,q.2.emb env')∧Qe5 m env s env' q.2):=fun e1 p e2 p' r h1 hp hn hx hL2=>by
   rw [hev]
   unfold QkE
   rw [h1]
   obtain ⟨ex,sp⟩:=p
   obtain ⟨ex',sp'⟩:=p'
   simp only at hp hn hx
   subst hp
   cases ex' with
   | norm=>
    show Ok m (QnV c tb f mm n b blk r sp') e2 _
    refine Ok.imp m (fun e3 q hq=>⟨?_,hL2.trans hq.2⟩) _ _ (ihb blk r e2 sp' hL2.inv hLb)
    simp only
    rw [hn rfl]
    exact hq.1
   | exit k=>
    show Ok m (.ret (Go.Ev.Ex.exit k,sp')) e2 _
    simp only [Ok]
    exact ⟨by rw [hx (by simp)],hL2⟩
   | ret=>
    show Ok m (.ret (Go.Ev.Ex.ret,sp')) e2 _
    simp only [Ok]
    exact ⟨by rw [hx (by simp)],hL2⟩
  show Ok m (match QyZ c f b with
   | 0=>(QnV c tb f mm n a blk rdy s).bind fun p=>seqK p.1 p.2 (QnV c tb f mm n b blk false)
   | mask=>QEH (β:=Unit) c f mask mm (QnV c tb f mm n a blk rdy s) s fun p=>seqK p.1 p.2 (QnV c tb f mm n b blk true)) env _
  cases hp:QyZ c f b with
  | zero=>
   exact Ok.bind m (fun e1 p hq=>next e1 p e1 p false hq.1 rfl (fun _=>(QbW f mm n b blk _).symm) (fun _=>rfl) hq.2) _ env ha
  | succ k=>
   refine QDy hi ha (fun e p hq=>hq.2) fun e1 p e2 p' hq h1 h2 h3=>next e1 p e2 p' true hq.1 h1 (fun hn=>?_) (fun hn=>?_) h3
   ·rw [hn] at h2
    refine QE0 b blk (by rw [hp]; simp) ?_
    rw [hp]
    exact h2
   ·obtain ⟨ex,sp⟩:=p
    cases ex with
    | norm=>exact absurd rfl hn
    | exit k=>exact h2
    | ret=>exact h2
 | cond p a b iha ihb=>
  intro blk rdy env s hi hL
  have hLa:∀ p∈QaI a blk,Qkg (QaI bF 0) p.1=some p.2:=fun p hp=>hL p (by simp only [QaI,List.mem_append]; exact .inl hp)
  have hLb:∀ p∈QaI b blk,Qkg (QaI bF 0) p.1=some p.2:=fun p hp=>hL p (by simp only [QaI,List.mem_append]; exact .inr hp)
  have hev:∀ st,Qmk c rec f mm n (.cond p a b) blk rdy st=Qaw c rec f mm n blk (.cond p a b) st:=fun st=>by cases rdy<;>rfl
  show Ok m (match opvS s.fr p with
   | .bb e=>branch e s fun x s=>match x with |true=>QnV c tb f mm n a blk false s |false=>QnV c tb f mm n b blk false s
   | _=>.fail) env _
  split
  ·rename_i e he
   refine Qm0 hi fun x s1 hx e1=>?_
   have hst:s1.emb env=s.emb env:=by unfold SS.emb; rw [e1.fr,e1.H]
   have hcond:Qaw c rec f mm n blk (.cond p a b) (s.emb env)=if x=true then Qaw c rec f mm n blk a (s.emb env) else Qaw c rec f mm n blk b (s.emb env):=by
    rw [QpM,show (s.emb env).fr=embF env s.fr from rfl,← QaC,he,SV.emb,hx,QDb]
   cases x with
   | true=>
    refine Ok.imp m (fun e2 q hq=>⟨?_,e1.toExt.later.trans hq.2⟩) _ _ (iha blk false env s1 e1.inv hLa)
    rw [hev,hcond,if_pos rfl,← hst,← QbW]
    exact hq.1
   | false=>
    refine Ok.imp m (fun e2 q hq=>⟨?_,e1.toExt.later.trans hq.2⟩) _ _ (ihb blk false env s1 e1.inv hLb)
    rw [hev,hcond,if_neg (by simp),← hst,← QbW]
    exact hq.1
  ·simp only [Ok]
 | block id a iha=>
  intro blk rdy env s hi hL
  have hev:∀ st,Qmk c rec f mm n (.block id a) blk rdy st=Qaw c rec f mm n blk (.block id a) st:=fun st=>by cases rdy<;>rfl
  show Ok m ((QnV c tb f mm n a id false s).bind fun p=>match p.1 with
   | .exit k=>match Nat.beq k id with |true=>.ret (Go.Ev.Ex.norm,p.2) |false=>.ret (Go.Ev.Ex.exit k,p.2)
   | e=>.ret (e,p.2)) env _
  refine Ok.bind m (fun e1 p hq=>?_) _ env (iha id false env s hi hL)
  obtain ⟨h1,h2⟩:=hq
  rw [QbW] at h1
  obtain ⟨ex,sp⟩:=p
  rw [hev,QoG]
  unfold QkF
  rw [h1]
  cases ex with
  | norm=>simp only [Ok]; first |exact ⟨rfl,h2⟩ |exact ⟨trivial,h2⟩ |simpa using h2
  | ret=>simp only [Ok]; first |exact ⟨rfl,h2⟩ |exact ⟨trivial,h2⟩ |simpa using h2
  | exit k=>
   simp only
   split
   ·rename_i hb
    simp only [Ok,hb]
    first |exact ⟨rfl,h2⟩ |exact ⟨trivial,h2⟩ |simpa using h2
   ·rename_i hb
    simp only [Ok,hb]
    first |exact ⟨rfl,h2⟩ |exact ⟨trivial,h2⟩ |simpa using h2
 | loop b ihb=>
  intro blk rdy env s hi hL
  have hev:∀ st,Qmk c rec f mm n (.loop b) blk rdy st=Qaw c rec f mm n blk (.loop b) st:=fun st=>by cases rdy<;>rfl
  show Ok m (QC2 c tb f blk mm s) env _
  refine Ok.imp m (fun e q hq=>?_) _ _ (QDz hs hF hbF (hL (blk,b) (by simp [QaI])) (n:=n) hi)
  rw [hev]
  exact hq
 | exit id=>
  intro blk rdy env s hi hL
  have hev:∀ st,Qmk c rec f mm n (.exit id) blk rdy st=Qaw c rec f mm n blk (.exit id) st:=fun st=>by cases rdy<;>rfl
  show Ok m (Qqo c f (c.out f id) mm s fun s=>.ret (Go.Ev.Ex.exit id,s)) env _
  refine Qpy hi fun s1 h1 e1=>?_
  simp only [Ok]
  exact ⟨by rw [hev,QpO,h1],e1⟩
 | ret=>
  intro blk rdy env s hi hL
  have hev:∀ st,Qmk c rec f mm n .ret blk rdy st=Qaw c rec f mm n blk .ret st:=fun st=>by cases rdy<;>rfl
  show Ok m (Qqo c f (c.res f) mm s fun s=>.ret (Go.Ev.Ex.ret,s)) env _
  refine Qpy hi fun s1 h1 e1=>?_
  simp only [Ok]
  exact ⟨by rw [hev,Qr8,h1],e1⟩
 | rangeFunc _ _ _ _ _ _=>intro blk rdy env s hi hL; show Ok m .fail env _; simp only [Ok]
 | scope _ _=>intro blk rdy env s hi hL; show Ok m .fail env _; simp only [Ok]
 | label _=>intro blk rdy env s hi hL; show Ok m .fail env _; simp only [Ok]
 | goto _=>intro blk rdy env s hi hL; show Ok m .fail env _; simp only [Ok]
 | refuse _=>intro blk rdy env s hi hL; show Ok m .fail env _; simp only [Ok]
end
end Go.Sy
end
noncomputable section
namespace Go.Sy
open Go Go.Ev
def tupA:List AV→AV |[v]=>v |vs=>.tup vs
theorem QqL (env:Env)(l:List SV):(Qwz l).emb env=tupA (SV.embL env l):=by
 cases l with
 | nil=>rfl
 | cons a l=>cases l<;>rfl
theorem Qvt {H:Heap}:∀ {vs ws:List AV},mapM' (Qaj H 12) vs=some ws→Qge H (tupA vs)=some (tupA ws)
 | [],ws,h=>by
  simp only [mapM'_nil,osi] at h
  subst h
  rfl
 | [v],ws,h=>by
  rw [mapM'_cons,Qjp,mapM'_nil] at h
  cases h1:Qaj H 12 v with
  | none=>rw [h1] at h; simp at h
  | some w=>
   rw [h1] at h
   simp only [Option.bind_some,osi] at h
   subst h
   show Qge H v=some w
   cases v with
   | tup vs=>simp [Qaj] at h1
   | _=>exact h1
 | a::b::l,ws,h=>by
  have hl:∃ x y r,ws=x::y::r:=by
   rw [mapM'_cons,Qjp,mapM'_cons,Qjp] at h
   cases h1:Qaj H 12 a with
   | none=>rw [h1] at h; simp at h
   | some x=>
    cases h2:Qaj H 12 b with
    | none=>rw [h1,h2] at h; simp at h
    | some y=>
     cases h3:mapM' (Qaj H 12) l with
     | none=>rw [h1,h2,h3] at h; simp at h
     | some r=>
      rw [h1,h2,h3] at h
      simp only [Option.bind_some,osi] at h
      exact ⟨x,y,r,h.symm⟩
  obtain ⟨x,y,r,rfl⟩:=hl
  show Qge H (.tup (a::b::l))=some (.tup (x::y::r))
  rw [Qy7,h]
  rfl
section
variable {c:Ctx} {rec:Task→Option Res} {tb:Tab} {m:(f:Nat)→Pr (tb.P f)→Option (Sm (tb.O f))} {α:Type}
variable {Q:Env→α→Prop}
theorem Qzr {r:ResultVar}{env:Env}{s:SS}{K:SV→SS→T α}(hi:Inv m env s)
  (hk:∀ env' v s',Qb5 c (s.emb env) r=some (v.emb env')→s'.emb env'=s.emb env→Qe5 m env s env' s'→Ok m (K v s') env' Q):Ok m (Qwy c r s K) env Q:=by
 unfold Qwy
 cases r with
 | tmp t=>
  refine hk env _ s ?_ rfl (.refl hi)
  show some (Fr.get (embF env s.fr) t)=_
  rw [Qgw]
 | cell a t=>
  refine Qya hi fun env' v s' h e=>hk env' v s' ?_ ?_ e.later
  ·show Qhu c t (embH env s.H) (Fr.get (embF env s.fr) a)=_
   rw [← Qgw]
   cases hl:Qhu c t (embH env s.H) ((getF s.fr a).emb env) with
   | none=>rw [hl] at h; simp [okV] at h
   | some w=>
    rw [hl] at h
    simp only [okV,osi,Prod.mk.injEq] at h
    rw [h.1]
  ·unfold SS.emb
   rw [e.fr,e.emF]
   cases hl:Qhu c t (embH env s.H) ((getF s.fr a).emb env) with
   | none=>rw [hl] at h; simp [okV] at h
   | some w=>
    rw [hl] at h
    simp only [okV,osi,Prod.mk.injEq] at h
    rw [← h.2]
theorem QqM:∀ {l:List ResultVar} {vs:List SV} {env:Env} {s:SS} {K:List SV→SS→T α},Inv m env s→
  (∀ env' ws rs s',mapM' (Qb5 c (s.emb env)) l=some rs→SV.embL env' ws=SV.embL env vs++rs→s'.emb env'=s.emb env→Qe5 m env s env' s'→Ok m (K ws s') env' Q)→Ok m (QmT c l vs s K) env Q
 | [],vs,env,s,K,hi,hk=>hk env vs [] s rfl (by simp) rfl (.refl hi)
 | r::l,vs,env,s,K,hi,hk=>by
  unfold QmT
  refine QbR fun hb=>Qzr hi fun env1 v s1 h1 hst e1=>QqM e1.inv fun env2 ws rs s2 h2 hw hst2 e2=>?_
  obtain ⟨b1,b2⟩:=Qan hb
  refine hk env2 ws (v.emb env1::rs) s2 ?_ ?_ (hst2.trans hst) (e1.trans e2)
  ·rw [hst] at h2
   rw [mapM'_cons,Qjp,h1,h2]
   rfl
  ·rw [hw,QmX,← QdH e1.agr b2]
   simp [SV.embL]
theorem Qnc:∀ {l acc:List SV} {env:Env} {s:SS} {K:List SV→SS→T α},Inv m env s→
  (∀ xs s',mapM' (Qaj (embH env s.H) 12) (SV.embL env l)=some (SV.embL env xs)→ExtH m env s env s'→Ok m (K (acc++xs) s') env Q)→Ok m (Qlv l acc s K) env Q
 | [],acc,env,s,K,hi,hk=>by
  have:=hk [] s rfl (.refl hi)
  rw [List.append_nil] at this
  exact this
 | v::l,acc,env,s,K,hi,hk=>by
  unfold Qlv
  refine Qau fun p hp=>?_
  obtain ⟨x,g⟩:=p
  refine QcQ hi fun s1 hg e1=>Qnc e1.inv fun xs s2 h2 e2=>?_
  have:=hk (x::xs) s2 ?_ (e1.trans e2)
  ·rw [List.append_assoc]
   exact this
  ·rw [e1.H] at h2
   rw [SV.embL,mapM'_cons,Qjp,Qly 12 hp hg,h2]
   rfl
theorem QkW {γ:Type}{o:Option γ}{k:γ→T α}{os:List (List Ty)}{env:Env}{z:Sm os}(h:(opt o k).den tb.P tb.O m os env=some z):∃ a,o=some a∧(k a).den tb.P tb.O m os env=some z:=by
 cases o with
 | none=>simp only [opt,T.den,reduceCtorEq] at h
 | some a=>exact ⟨a,rfl,h⟩
theorem QqN {b:Bool}{k:T α}{os:List (List Ty)}{env:Env}{z:Sm os}(h:(iff b k).den tb.P tb.O m os env=some z):b=true∧k.den tb.P tb.O m os env=some z:=by
 cases b with
 | false=>simp only [iff,T.den,reduceCtorEq] at h
 | true=>exact ⟨rfl,h⟩
theorem Qnd {o:Option (Nat×List Ex)}{os:List (List Ty)}{env:Env}{z:Sm os}(h:(outT o:T α).den tb.P tb.O m os env=some z):∃ j es,o=some (j,es)∧mkSm env os j es=some z:=by
 cases o with
 | none=>simp only [outT,T.den,reduceCtorEq] at h
 | some p=>obtain ⟨j,es⟩:=p; simp only [outT,T.den] at h; exact ⟨j,es,rfl,h⟩
theorem Qw4:∀ {ps:List Ty} {i:Nat} {t:Ty},tyAt ps i t=true→ps[i]?=some t
 | [],_,_,h=>by simp [tyAt] at h
 | a::l,0,t,h=>by simp only [tyAt] at h; rw [QaT h]; rfl
 | a::l,i+1,t,h=>by simp only [tyAt] at h; simpa using Qw4 h
theorem Qpz {ps:List Ty}{env1 envC:Env}{θ:List Ex}(hp:∀ i t,ps[i]?=some t→(θ.getD i .un).den envC t=env1 i t):∀ {hs:List (Hk×Ty)} {θ':List (Ty×Ex)} {es:List Ex} {n:Nat},QmR ps hs θ'=some es→
  getP envC (Qf0 hs) n=mkPr env1 (Qf0 hs) es→∀ i t e,θ'[i]?=some (t,e)→((QlV θ hs n).getD i .un).den envC t=e.den env1 t
 | [],[],es,n,h,hg=>fun i t e hi=>by simp at hi
 | (.par k,t)::l,(u,e)::r,es,n,h,hg=>by
  simp only [QmR] at h
  split at h
  ·rename_i hb
   obtain ⟨b1,b2⟩:=Qan hb
   obtain ⟨b2,b3⟩:=Qan b2
   intro i t' e' hi
   cases i with
   | zero=>
    simp only [List.getElem?_cons_zero,osi,Prod.mk.injEq] at hi
    obtain ⟨rfl,rfl⟩:=hi
    rw [QaH b2]
    have:=QaT b1
    subst this
    exact hp k _ (Qw4 b3)
   | succ i=>
    simp only [List.getElem?_cons_succ] at hi
    exact Qpz hp h hg i t' e' hi
  ·cases h
 | (.con x,t)::l,(u,e)::r,es,n,h,hg=>by
  simp only [QmR] at h
  split at h
  ·rename_i hb
   obtain ⟨b1,b2⟩:=Qan hb
   obtain ⟨b2,b3⟩:=Qan b2
   intro i t' e' hi
   cases i with
   | zero=>
    simp only [List.getElem?_cons_zero,osi,Prod.mk.injEq] at hi
    obtain ⟨rfl,rfl⟩:=hi
    rw [QaH b2]
    exact QaB (n:=0) (fun m hm=>absurd hm (Nat.not_lt_zero m)) b3 u
   | succ i=>
    simp only [List.getElem?_cons_succ] at hi
    exact Qpz hp h hg i t' e' hi
  ·cases h
 | (.new,t)::l,(u,e)::r,es,n,h,hg=>by
  simp only [QmR] at h
  split at h
  ·rename_i hb
   split at h
   ·rename_i es' hes
    simp only [osi] at h
    subst h
    have:=QaT hb
    subst this
    obtain ⟨g1,g2⟩:=Qvp (N:=Qf0 l) hg
    intro i t' e' hi
    cases i with
    | zero=>
     simp only [List.getElem?_cons_zero,osi,Prod.mk.injEq] at hi
     obtain ⟨rfl,rfl⟩:=hi
     exact g1
    | succ i=>
     simp only [List.getElem?_cons_succ] at hi
     exact Qpz hp hes g2 i t' e' hi
   ·cases h
  ·cases h
 | [],_::_,_,_,h,_=>by simp [QmR] at h
 | (.par _,_)::_,[],_,_,h,_=>by simp [QmR] at h
 | (.con _,_)::_,[],_,_,h,_=>by simp [QmR] at h
 | (.new,_)::_,[],_,_,h,_=>by simp [QmR] at h
theorem QsJ {ps:List Ty}:∀ {l:List Out} {j0:Nat} {ex:Go.Ev.Ex} {fr:SF} {H:SH} {θ:List (Ty×Ex)} {j:Nat} {es:List Ex},Qma ps l j0 ex fr H θ=some (j,es)→
  ∃ k o,j=j0+k∧l[k]?=some o∧o.ex=ex∧o.fr=fr∧o.H=H∧QmR ps o.hs θ=some es
 | [],_,_,_,_,_,_,_,h=>by simp [Qma] at h
 | s::l,j0,ex,fr,H,θ,j,es,h=>by
  have rest:Qma ps l (j0+1) ex fr H θ=some (j,es)→∃ k s',j=j0+k∧(s::l)[k]?=some s'∧s'.ex=ex∧s'.fr=fr∧s'.H=H∧QmR ps s'.hs θ=some es:=fun h=>by
   obtain ⟨k,s',h1,h2,h3⟩:=QsJ h
   exact ⟨k+1,s',by omega,by simpa using h2,h3⟩
  simp only [Qma] at h
  split at h
  ·rename_i hb
   obtain ⟨b1,b2⟩:=Qan hb
   obtain ⟨b2,b3⟩:=Qan b2
   split at h
   ·rename_i es' hes
    simp only [osi,Prod.mk.injEq] at h
    obtain ⟨rfl,rfl⟩:=h
    exact ⟨0,s,rfl,rfl,Qvq b1,Qmf b2,QnY b3,hes⟩
   ·exact rest h
  ·exact rest h
theorem QBK {ps:List Ty}{envC env1:Env}{θ:List Ex}{x:Pr ps}(hx:mkPr envC ps θ=x)(ha:Agree ps.length (env0 ps x) env1):∀ i t,ps[i]?=some t→(θ.getD i .un).den envC t=env1 i t:=fun i t h=>by
 subst hx
 have:=QtM envC ps θ Env.none 0 i t h
 rw [Nat.zero_add] at this
 have hi:i<ps.length:=by
  rw [List.getElem?_eq_some_iff] at h
  exact h.1
 rw [← ha i hi t]
 exact this.symm
theorem QqO {ps:List Ty}{outs:List Out}{ex:Go.Ev.Ex}{fr:SF}{H:SH}{j j' n:Nat}{es θ:List Ex}{env1 envC:Env}{z:Sm (outs.map Out.ts)}{x:Pr ps}{o:Out}(h:QlW ps outs ex fr H=some (j,es))(hz:mkSm env1 (outs.map Out.ts) j es=some z)
  (hx:mkPr envC ps θ=x) (hag:Agree ps.length (env0 ps x) env1) (hal:Qg4 envC (outs.map Out.ts) z j' n) (ho:outs[j']?=some o):
  o.ex=ex∧embF envC (o.state θ n).1=embF env1 fr∧embH envC (o.state θ n).2=embH env1 H:=by
 unfold QlW at h
 split at h
 ·cases h
 ·rename_i fr' H' θ' habs
  obtain ⟨rfl,hget⟩:=QlC hz hal
  obtain ⟨k,o',hj,ho',e1,e2,e3,e4⟩:=QsJ h
  rw [Nat.zero_add] at hj
  subst hj
  rw [ho] at ho'
  simp only [osi] at ho'
  subst ho'
  have hts:(outs.map Out.ts)[j']?=some o.ts:=by rw [List.getElem?_map,ho]; rfl
  have hh:=Qpz (QBK hx hag) e4 (hget _ hts)
  have hemb:=QtL (env:=env1) (env':=fun i u=>((o.σ θ n) i).den envC u) habs hh
  refine ⟨e1,?_,?_⟩
  ·show embF envC (QrJ (o.σ θ n) o.fr)=_
   rw [QkQ,e2,hemb.1]
  ·show embH envC (Qtk (o.σ θ n) o.H)=_
   rw [QmZ,e3,hemb.2]
theorem QqP (env:Env):∀ {fr:SF} {k:Nat},QoN fr k=true→embF env fr=Qhq k ((embF env fr).map (·.2))
 | [],_,_=>rfl
 | p::r,k,h=>by
  simp only [QoN] at h
  obtain ⟨h1,h2⟩:=Qan h
  show (p.1,p.2.emb env)::embF env r=(k,p.2.emb env)::Qhq (k+1) ((embF env r).map (·.2))
  rw [← QqP env h2,Qcl h1]
theorem Qvu:∀ {l:List (Nat×Code)} {k:Nat} {b:Code},Qkg l k=some b→(k,b)∈l
 | [],_,_,h=>by simp [Qkg] at h
 | (a,b)::r,k,b',h=>by
  simp only [Qkg] at h
  split at h
  ·rename_i hb
   simp only [osi] at h
   subst h
   rw [Qcl hb]
   simp
  ·simp [Qvu h]
theorem Qjx:∀ {l:List (Nat×Code)},Qso (l.map (·.1))=true→∀ p∈l,Qkg l p.1=some p.2
 | [],_,p,hp=>by simp at hp
 | (a,b)::r,h,p,hp=>by
  simp only [List.map_cons,Qso] at h
  obtain ⟨h1,h2⟩:=Qan h
  simp only [List.mem_cons] at hp
  rcases hp with rfl |hp
  ·simp only [Qkg,Nat.beq_refl]
  ·have hne:Nat.beq a p.1=false:=by
    cases hb:Nat.beq a p.1 with
    | false=>rfl
    | true=>
     have e:=Qcl hb
     have:a∈r.map (·.1):=by rw [e]; exact List.mem_map.mpr ⟨p,hp,rfl⟩
     rw [← Qgu] at this
     rw [this] at h1
     cases h1
   simp only [Qkg,hne]
   exact Qjx h2 p hp
theorem QDA:∀ {co:Code} {blk id:Nat} {b:Code},(id,b)∈QaI co blk→∀ p∈QaI b id,p∈QaI co blk:=by
 intro co
 induction co with
 | seq a b iha ihb=>
  intro blk id b' h p hp
  simp only [QaI,List.mem_append] at h ⊢
  rcases h with h |h
  ·exact .inl (iha h p hp)
  ·exact .inr (ihb h p hp)
 | cond q a b iha ihb=>
  intro blk id b' h p hp
  simp only [QaI,List.mem_append] at h ⊢
  rcases h with h |h
  ·exact .inl (iha h p hp)
  ·exact .inr (ihb h p hp)
 | block k a iha=>
  intro blk id b' h p hp
  simp only [QaI] at h ⊢
  exact iha h p hp
 | loop a iha=>
  intro blk id b' h p hp
  simp only [QaI,List.mem_cons,Prod.mk.injEq] at h ⊢
  rcases h with ⟨rfl,rfl⟩ |h
  ·exact .inr hp
  ·exact .inr (iha h p hp)
 | _=>intro blk id b' h; simp [QaI] at h
theorem QBL {env env':Env}:∀ {ts:List Ty} {n n':Nat},getP env ts n=getP env' ts n'→∀ i t,ts[i]?=some t→env (n+i) t=env' (n'+i) t
 | [],_,_,_,i,t,h=>by simp at h
 | [a],n,n',hg,i,t,h=>by
  cases i with
  | zero=>
   simp only [List.getElem?_cons_zero,osi] at h
   subst h
   exact hg
  | succ i=>simp at h
 | a::b::l,n,n',hg,i,t,h=>by
  have hg':(env n a,getP env (b::l) (n+1))=(env' n' a,getP env' (b::l) (n'+1)):=hg
  simp only [Prod.mk.injEq] at hg'
  cases i with
  | zero=>
   simp only [List.getElem?_cons_zero,osi] at h
   subst h
   exact hg'.1
  | succ i=>
   simp only [List.getElem?_cons_succ] at h
   have:=QBL hg'.2 i t h
   rw [show n+(i+1)=n+1+i by omega,show n'+(i+1)=n'+1+i by omega]
   exact this
theorem QlD {ps:List Ty}{e1 e2:Env}{θ1 θ2:List Ex}:∀ {hs:List (Hk×Ty)} {n1 n2:Nat},QuZ ps θ1 hs=true→(∀ i t,ps[i]?=some t→(θ2.getD i .un).den e2 t=e1 i t)→
  getP e1 (Qf0 hs) n1=getP e2 (Qf0 hs) n2→∀ i t,(hs[i]?).map (·.2)=some t→((QlV θ1 hs n1).getD i .un).den e1 t=((QlV θ2 hs n2).getD i .un).den e2 t
 | [],_,_,_,_,_,i,t,h=>by simp at h
 | (.par k,u)::l,n1,n2,hh,hp,hg,i,t,h=>by
  unfold QuZ at hh
  rw [List.all_cons] at hh
  obtain ⟨b1,b2⟩:=Qan hh
  simp only at b1
  obtain ⟨b1,b3⟩:=Qan b1
  cases i with
  | zero=>
   simp only [List.getElem?_cons_zero,Option.map_some,osi] at h
   subst h
   show (θ1.getD k .un).den e1 u=(θ2.getD k .un).den e2 u
   rw [QaH b1,hp k u (Qw4 b3)]
   rfl
  | succ i=>exact QlD (hs:=l) b2 hp hg i t (by simpa using h)
 | (.con e,u)::l,n1,n2,hh,hp,hg,i,t,h=>by
  unfold QuZ at hh
  rw [List.all_cons] at hh
  obtain ⟨b1,b2⟩:=Qan hh
  simp only at b1
  cases i with
  | zero=>
   simp only [List.getElem?_cons_zero,Option.map_some,osi] at h
   subst h
   exact QaB (n:=0) (fun m hm=>absurd hm (Nat.not_lt_zero m)) b1 u
  | succ i=>exact QlD (hs:=l) b2 hp hg i t (by simpa using h)
 | (.new,u)::l,n1,n2,hh,hp,hg,i,t,h=>by
  unfold QuZ at hh
  rw [List.all_cons] at hh
  obtain ⟨b1,b2⟩:=Qan hh
  have h0:=QBL (ts:=u::Qf0 l) hg
  cases i with
  | zero=>
   simp only [List.getElem?_cons_zero,Option.map_some,osi] at h
   subst h
   exact h0 0 u rfl
  | succ i=>
   refine QlD (hs:=l) b2 hp ?_ i t (by simpa using h)
   cases hN:Qf0 l with
   | nil=>rfl
   | cons v N=>
    have hg':getP e1 (u::Qf0 l) n1=getP e2 (u::Qf0 l) n2:=hg
    rw [hN] at hg'
    have hg'':(e1 n1 u,getP e1 (v::N) (n1+1))=(e2 n2 u,getP e2 (v::N) (n2+1)):=hg'
    simp only [Prod.mk.injEq] at hg''
    exact hg''.2
theorem QsK:∀ {θ:List (Ty×Ex)} {hs:List (Hk×Ty)} {k:Nat},QnW θ hs k=true→∀ (i:Nat) (t:Ty) (e:Ex),θ[i]?=some (t,e)→e=.v (k+i)∧(hs[i]?).map (·.2)=some t
 | [],[],_,_,i,t,e,h=>by simp at h
 | (t0,e0)::r,(q,u)::l,k,hb,i,t,e,h=>by
  simp only [QnW] at hb
  obtain ⟨b1,b2⟩:=Qan hb
  obtain ⟨b2,b3⟩:=Qan b2
  cases i with
  | zero=>
   simp only [List.getElem?_cons_zero,osi,Prod.mk.injEq] at h
   obtain ⟨rfl,rfl⟩:=h
   exact ⟨QaH b2,by rw [QaT b1]; rfl⟩
  | succ i=>
   simp only [List.getElem?_cons_succ] at h
   obtain ⟨h1,h2⟩:=QsK b3 i t e h
   exact ⟨by rw [h1,show k+(i+1)=k+1+i by omega],by simpa using h2⟩
 | [],_::_,_,hb,_,_,_,_=>by simp [QnW] at hb
 | _::_,[],_,hb,_,_,_,_=>by simp [QnW] at hb
theorem QDB {o:Out}(h:QwA o=true){e1 e2:Env}(he:∀ i t,(o.hs[i]?).map (·.2)=some t→e1 i t=e2 i t):embF e1 o.fr=embF e2 o.fr∧embH e1 o.H=embH e2 o.H:=by
 unfold QwA at h
 split at h
 ·rename_i fr H θ habs
  obtain ⟨h1,h2⟩:=Qan h
  obtain ⟨h2,h3⟩:=Qan h2
  have:=QtL (env:=e2) (env':=e1) habs fun i t e hi=>by
   obtain ⟨k1,k2⟩:=QsK h3 i t e hi
   rw [k1,Nat.zero_add]
   exact he i t k2
  rw [Qmf h1,QnY h2] at this
  exact this
 ·cases h
theorem QBM:∀ (os:List (List Ty)) (z:Sm os) (env:Env) (n j:Nat) (env2:Env) (n2:Nat),Qg4 env2 os z j n2→∃ env',Agree n env env'∧Qg4 env' os z j n∧∀ ts,os[j]?=some ts→getP env' ts n=getP env2 ts n2
 | [],z,_,_,_,_,_,_=>z.elim
 | [a],z,env,n,j,env2,n2,h=>by
  cases j with
  | zero=>
   refine ⟨Env.setP a env n z,QdF a env n z,Qe4 a env n z,fun ts ht=>?_⟩
   simp only [List.getElem?_cons_zero,osi] at ht
   subst ht
   rw [← Qe4 a env n z]
   exact h
  | succ j=>exact h.elim
 | a::b::l,.inl p,env,n,j,env2,n2,h=>by
  cases j with
  | zero=>
   refine ⟨Env.setP a env n p,QdF a env n p,Qe4 a env n p,fun ts ht=>?_⟩
   simp only [List.getElem?_cons_zero,osi] at ht
   subst ht
   rw [← Qe4 a env n p]
   exact h
  | succ j=>exact h.elim
 | a::b::l,.inr y,env,n,j,env2,n2,h=>by
  cases j with
  | zero=>exact h.elim
  | succ j=>
   obtain ⟨env',h1,h2,h3⟩:=QBM (b::l) y env n j env2 n2 h
   exact ⟨env',h1,h2,fun ts ht=>h3 ts (by simpa using ht)⟩
end
end Go.Sy
end
