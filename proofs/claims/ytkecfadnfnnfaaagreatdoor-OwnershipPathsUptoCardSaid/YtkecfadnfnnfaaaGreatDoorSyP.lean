/- Symbolic runs: what a family's tree says is true of its function or loop. -/
import Derived.Test.YtkecfadnfnnfaaaGreatDoorSyV
set_option linter.unusedVariables false
set_option linter.unusedSimpArgs false
noncomputable section
namespace Go.Sy
open Go Go.Ev
section
variable {c:Ctx} {rec:Task→Option Res} {tb:Tab} {m:(f:Nat)→Pr (tb.P f)→Option (Sm (tb.O f))} {α:Type}
variable {Q:Env→α→Prop}
theorem Qrs (hs:Sound c rec tb m){f mm n id:Nat}{ops:Array Oper}{draw:Bool}{env:Env}{s:SS}{K:SS→T α}(hi:Inv m env s)
  (hk:∀ env' s',QcI c rec f mm n id ops draw (s.emb env)=some (.norm,s'.emb env')→Qfv m env s env' s'→Ok m (K s') env' Q):Ok m (Qsg c tb f mm n id ops draw s K) env Q:=by
 have last:∀ (env':Env) (s':SS),(⟨(s'.emb env').fr.only (c.keep f id),(s'.emb env').H⟩:St)=({ s' with fr:=Qr1 (c.keep f id) s'.fr }:SS).emb env':=fun env' s'=>by
  simp only [SS.emb,Qkc]
 unfold Qsg
 simp only
 split
 ·refine Qms hs _ _ env _ _ hi fun env' s' h e=>hk env' _ ?_ ⟨e.inv,e.nx,e.agr⟩
  have h':Qbt c rec mm n ops (ops.size+1) (c.plan f id) ⟨s.emb env,[]⟩=some (s'.emb env'):=h
  rw [QEj,h',Option.bind_some,last]
 ·refine Qot hs hi fun env' s' h e=>hk env' _ ?_ ⟨e.inv,e.nx,e.agr⟩
  rw [Qzi,h,Option.bind_some,last]
theorem Qov {f mask mm:Nat}{env:Env}{s:SS}{K:SS→T α}(hi:Inv m env s)
  (hk:∀ s',(∀ {β:Type} (k:St→Option β),(s.emb env).norm c (c.nilz f) mask mm k=k (s'.emb env))→Qfv m env s env s'→Ok m (K s') env Q):Ok m (Qpo c f mask mm s K) env Q:=by
 unfold Qpo
 refine Qau fun s' hs'=>hk s' (fun k=>(Qmn hs' k).1) ?_
 obtain ⟨_,h1,h2⟩:=Qmn (env:=env) hs' (fun s=>some s)
 exact ⟨fun f hf=>hi f (by rw [← h2]; exact hf),by rw [h1]; exact Nat.le_refl _,Agree.refl⟩
def QlJ (c:Ctx)(rec:Task→Option Res)(f m n:Nat):Code→Nat→Bool→St→Option (Go.Ev.Ex×St)
 | .region id ops draw,blk,true,st=>QcI c rec f m n id ops draw st
 | .seq a b,blk,true,st=>Qj1 (QlJ c rec f m n a blk true) (Qaw c rec f m n blk b) st
 | co,blk,_,st=>Qaw c rec f m n blk co st
theorem Qch (f mm n:Nat)(co:Code)(blk:Nat)(st:St):QlJ c rec f mm n co blk false st=Qaw c rec f mm n blk co st:=by cases co<;>rfl
theorem QlK (f mm n id:Nat)(ops:Array Oper)(draw:Bool)(blk:Nat)(st:St):Qaw c rec f mm n blk (.region id ops draw) st=if c.pre f id=0 then QcI c rec f mm n id ops draw st else st.norm c (c.nilz f) (c.pre f id) mm fun s=>QcI c rec f mm n id ops draw s:=by
 rw [Ql1,Qzl]
 rfl
theorem QDn {f mm n:Nat}{st st':St}:∀ (co:Code) (blk:Nat),Qxq c f co≠0→(∀ {β:Type} (k:St→Option β),st.norm c (c.nilz f) (Qxq c f co) mm k=k st')→Qaw c rec f mm n blk co st=QlJ c rec f mm n co blk true st':=by
 intro co blk hp hn
 induction co generalizing blk with
 | region id ops draw=>
  rw [QlK,if_neg (show ¬ c.pre f id=0 from hp)]
  exact hn _
 | seq a b iha ihb=>
  rw [QmR]
  have:=iha blk hp hn
  show Qj1 (Qaw c rec f mm n blk a) _ st=Qj1 (QlJ c rec f mm n a blk true) _ st'
  unfold Qj1
  rw [this]
 | _=>exact absurd rfl hp
theorem Qk1 {env1 env':Env}{n:Nat}:∀ {os:List (List Ty)} {z:Sm os} {j j':Nat} {es:List Ex},mkSm env1 os j es=some z→Qha env' os z j' n→j'=j∧∀ ts,os[j]?=some ts→getP env' ts n=mkPr env1 ts es
 | [],z,_,_,_,_,_=>z.elim
 | [a],z,j,j',es,h,ha=>by
  cases j with
  | zero=>
   simp only [mkSm,osi] at h
   subst h
   cases j' with
   | zero=>exact ⟨rfl,fun ts ht=>by
     simp only [List.getElem?_cons_zero,osi] at ht
     subst ht
     exact ha.symm⟩
   | succ j'=>exact ha.elim
  | succ j=>simp [mkSm] at h
 | a::b::l,z,j,j',es,h,ha=>by
  cases j with
  | zero=>
   simp only [mkSm,osi] at h
   subst h
   cases j' with
   | zero=>exact ⟨rfl,fun ts ht=>by
     simp only [List.getElem?_cons_zero,osi] at ht
     subst ht
     exact ha.symm⟩
   | succ j'=>exact ha.elim
  | succ j=>
   simp only [mkSm] at h
   cases hr:mkSm env1 (b::l) j es with
   | none=>rw [hr] at h; simp at h
   | some y=>
    rw [hr,Option.map_some,osi] at h
    subst h
    cases j' with
    | zero=>exact ha.elim
    | succ j'=>
     obtain ⟨e1,e2⟩:=Qk1 hr ha
     exact ⟨by rw [e1],fun ts ht=>e2 ts (by simpa using ht)⟩
theorem QtY {env env1:Env}{t:Ty}{N:List Ty}{n:Nat}{e:Ex}{es:List Ex}(h:getP env (t::N) n=mkPr env1 (t::N) (e::es)):env n t=e.den env1 t∧getP env N (n+1)=mkPr env1 N es:=by
 cases N with
 | nil=>exact ⟨h,rfl⟩
 | cons u N=>
  have h':(env n t,getP env (u::N) (n+1))=(e.den env1 t,mkPr env1 (u::N) es):=h
  simp only [Prod.mk.injEq] at h'
  exact h'
theorem QpJ {nx:Nat}{env1 env':Env}(hag:Agree nx env1 env'):∀ {hs:List (Option Ex)} {ts:List Ty} {θ:List (Ty×Ex)} {es:List Ex} {n:Nat},QhM nx hs ts θ=some es→getP env' (Shp.new.Qxo hs ts) n=mkPr env1 (Shp.new.Qxo hs ts) es→
  ∀ i t e,θ[i]?=some (t,e)→((QBl hs n).getD i .un).den env' t=e.den env1 t
 | [],[],[],es,n,h,hg=>fun i t e hi=>by simp at hi
 | some a::l,t::ts,(u,e)::r,es,n,h,hg=>by
  simp only [QhM] at h
  split at h
  ·rename_i hb
   obtain ⟨b1,b2⟩:=Qam hb
   obtain ⟨b2,b3⟩:=Qam b2
   intro i t' e' hi
   cases i with
   | zero=>
    simp only [List.getElem?_cons_zero,osi,Prod.mk.injEq] at hi
    obtain ⟨rfl,rfl⟩:=hi
    rw [← QaG b2]
    exact (QaB hag b3 u).symm
   | succ i=>
    simp only [List.getElem?_cons_succ] at hi
    exact QpJ hag h hg i t' e' hi
  ·cases h
 | none::l,t::ts,(u,e)::r,es,n,h,hg=>by
  simp only [QhM] at h
  split at h
  ·rename_i hb
   split at h
   ·rename_i es' hes
    simp only [osi] at h
    subst h
    have hb':=QaP hb
    subst hb'
    obtain ⟨g1,g2⟩:=QtY (N:=Shp.new.Qxo l ts) hg
    intro i t' e' hi
    cases i with
    | zero=>
     simp only [List.getElem?_cons_zero,osi,Prod.mk.injEq] at hi
     obtain ⟨rfl,rfl⟩:=hi
     exact g1
    | succ i=>
     simp only [List.getElem?_cons_succ] at hi
     exact QpJ hag hes g2 i t' e' hi
   ·cases h
  ·cases h
 | [],[],_::_,_,_,h,_=>by simp [QhM] at h
 | [],_::_,_,_,_,h,_=>by simp [QhM] at h
 | some _::_,[],_,_,_,h,_=>by simp [QhM] at h
 | none::_,[],_,_,_,h,_=>by simp [QhM] at h
 | some _::_,_::_,[],_,_,h,_=>by simp [QhM] at h
 | none::_,_::_,[],_,_,h,_=>by simp [QhM] at h
theorem QtZ {a b:Go.Ev.Ex}(h:Qtu a b=true):a=b:=by
 cases a<;>cases b<;>simp only [Qtu,reduceCtorEq] at h<;>first |rfl |(rw [QcK h])
theorem Qrt {nx:Nat}:∀ {l:List Shp} {j0:Nat} {ex:Go.Ev.Ex} {fr:SF} {H:SH} {θ:List (Ty×Ex)} {j:Nat} {es:List Ex},QlC nx l j0 ex fr H θ=some (j,es)→
  ∃ k s,j=j0+k∧l[k]?=some s∧s.ex=ex∧s.fr=fr∧s.H=H∧QhM nx s.hs s.ts θ=some es
 | [],_,_,_,_,_,_,_,h=>by simp [QlC] at h
 | s::l,j0,ex,fr,H,θ,j,es,h=>by
  have rest:QlC nx l (j0+1) ex fr H θ=some (j,es)→∃ k s',j=j0+k∧(s::l)[k]?=some s'∧s'.ex=ex∧s'.fr=fr∧s'.H=H∧QhM nx s'.hs s'.ts θ=some es:=fun h=>by
   obtain ⟨k,s',h1,h2,h3⟩:=Qrt h
   exact ⟨k+1,s',by omega,by simpa using h2,h3⟩
  simp only [QlC] at h
  split at h
  ·rename_i hb
   obtain ⟨b1,b2⟩:=Qam hb
   obtain ⟨b2,b3⟩:=Qam b2
   split at h
   ·rename_i es' hes
    simp only [osi,Prod.mk.injEq] at h
    obtain ⟨rfl,rfl⟩:=h
    exact ⟨0,s,rfl,rfl,QtZ b1,QlE b2,Qnb b3,hes⟩
   ·exact rest h
  ·exact rest h
theorem QwN {env:Env}{s0:SS}{K:Go.Ev.Ex×SS→T α}:∀ (l:List Shp) (z:Sm (l.map Shp.new)),
  (∀ k s env',l[k]?=some s→Qha env' (l.map Shp.new) z k s0.nx→Agree s0.nx env env'→
   Ok m (K (s.ex,{ fr:=QqA (s.σ s0.nx) s.fr,H:=Qr4 (s.σ s0.nx) s.H,nx:=s0.nx+s.new.length,fs:=s0.fs })) env' Q)→OkA m (Qxp s0 K l) (l.map Shp.new) z s0.nx env Q
 | [],z,h=>z.elim
 | [o],z,h=>by
  simp only [List.map_cons,List.map_nil,Qxp,OkA]
  exact h 0 o _ rfl (Qfu o.new env s0.nx z) (Qd0 o.new env s0.nx z)
 | o::o2::l,.inl p,h=>by
  simp only [List.map_cons,Qxp,OkA]
  exact h 0 o _ rfl (Qfu o.new env s0.nx p) (Qd0 o.new env s0.nx p)
 | o::o2::l,.inr y,h=>by
  have:=QwN (o2::l) y fun k o' env' hk ha hg=>h (k+1) o' env' (by simpa using hk) ha hg
  simp only [List.map_cons,Qxp,OkA] at this ⊢
  exact this
def Ready (c:Ctx)(f mask mm:Nat)(ex:Go.Ev.Ex)(st st':St):Prop:=match ex with
 | .norm=>∀ {β:Type} (k:St→Option β),st.norm c (c.nilz f) mask mm k=k st'
 | _=>st=st'
theorem Qz3 {f mask mm:Nat}{env:Env}{p p':Go.Ev.Ex×SS}(h:Qzb c f mask mm p=some p'):p'.1=p.1∧Ready c f mask mm p.1 (p.2.emb env) (p'.2.emb env)∧p'.2.nx=p.2.nx∧p'.2.fs=p.2.fs:=by
 obtain ⟨ex,s⟩:=p
 unfold Qzb at h
 cases ex with
 | norm=>
  simp only at h
  split at h
  ·rename_i s' hs'
   simp only [osi] at h
   subst h
   obtain ⟨_,h1,h2⟩:=Qmn (env:=env) hs' (fun s=>some s)
   exact ⟨rfl,fun k=>(Qmn hs' k).1,h1,h2⟩
  ·cases h
 | exit k=>
  simp only [osi] at h
  subst h
  exact ⟨rfl,rfl,rfl,rfl⟩
 | ret=>
  simp only [osi] at h
  subst h
  exact ⟨rfl,rfl,rfl,rfl⟩
theorem QwO {rd:Go.Ev.Ex×SS→Option (Go.Ev.Ex×SS)}{R:Go.Ev.Ex→St→St→Prop}(hrd:∀ (env:Env) (p p':Go.Ev.Ex×SS),rd p=some p'→p'.1=p.1∧R p.1 (p.2.emb env) (p'.2.emb env)∧p'.2.nx=p.2.nx∧p'.2.fs=p.2.fs)
  {x:T (Go.Ev.Ex×SS)} {env:Env} {s0:SS} {K:Go.Ev.Ex×SS→T (Go.Ev.Ex×SS)} {Q1:Env→Go.Ev.Ex×SS→Prop} {Q:Env→Go.Ev.Ex×SS→Prop} (hi:Inv m env s0)
  (hx:Ok m x env Q1) (hl:∀ e p,Q1 e p→Qfv m env s0 e p.2)
  (hk:∀ e1 p e2 p',Q1 e1 p→p'.1=p.1→R p.1 (p.2.emb e1) (p'.2.emb e2)→Qfv m env s0 e2 p'.2→Ok m (K p') e2 Q):Ok m (QBm rd x s0 K) env Q:=by
 unfold QBm
 split
 ·refine Ok.bind m (fun e1 p hq=>Qau fun p' hp'=>?_) x env hx
  obtain ⟨h1,h2,h3,h4⟩:=hrd e1 _ _ hp'
  have hL:=hl e1 p hq
  exact hk e1 p e1 p' hq h1 h2 ⟨fun g hg=>hL.inv g (by rw [← h4]; exact hg),by rw [h3]; exact hL.nx,hL.agr⟩
 ·split
  ·simp only [Ok]
  ·rename_i l hshp
   refine Qcc fun hb=>?_
   simp only [Ok]
   intro z hz
   refine QwN l z fun k s env' hks ha hag=>?_
   obtain ⟨e1,p,hq,hz'⟩:=Qft m x env hz hx
   cases hr:rd p with
   | none=>rw [hr] at hz'; simp only [opt,T.den,reduceCtorEq] at hz'
   | some p'=>
    rw [hr] at hz'
    simp only [opt] at hz'
    obtain ⟨h1,h2,h3,h4⟩:=hrd e1 _ _ hr
    have hL:=hl e1 p hq
    unfold outT at hz'
    cases hleaf:Qu7 s0.nx l p' with
    | none=>rw [hleaf] at hz'; simp only [T.den,reduceCtorEq] at hz'
    | some je=>
     obtain ⟨j,es⟩:=je
     rw [hleaf] at hz'
     simp only [T.den] at hz'
     obtain ⟨rfl,hget⟩:=Qk1 hz' ha
     unfold Qu7 at hleaf
     split at hleaf
     ·cases hleaf
     ·rename_i fr H θ habs
      obtain ⟨k',s',hj,hs',g1,g2,g3,g4⟩:=Qrt hleaf
      rw [Nat.zero_add] at hj
      subst hj
      rw [hs'] at hks
      simp only [osi] at hks
      subst hks
      have hts:(l.map Shp.new)[k]?=some s'.new:=by rw [List.getElem?_map,hs']; rfl
      have hg:=hget _ hts
      have hag':Agree s0.nx e1 env':=hL.agr.symm.trans hag (Nat.le_refl _)
      have hh:=QpJ hag' g4 hg
      have hemb:=Qsv (env:=e1) (env':=fun i u=>((s'.σ s0.nx) i).den env' u) habs hh
      have hst:({ fr:=QqA (s'.σ s0.nx) s'.fr,H:=Qr4 (s'.σ s0.nx) s'.H,nx:=s0.nx+s'.new.length,fs:=s0.fs }:SS).emb env'=p'.2.emb e1:=by
       unfold SS.emb
       simp only [Qkd,Qmh]
       rw [g2,g3,hemb.1,hemb.2]
      refine hk e1 p env' _ hq (g1.trans h1) (by rw [hst]; exact h2) ⟨?_,Nat.le_add_right _ _,hag⟩
      exact fun g hg=>Qpx (s:=s0) hag hb hi g hg
theorem QBT {f mask mm:Nat}{x:T (Go.Ev.Ex×SS)}{env:Env}{s0:SS}{K:Go.Ev.Ex×SS→T (Go.Ev.Ex×SS)}{Q1:Env→Go.Ev.Ex×SS→Prop}{Q:Env→Go.Ev.Ex×SS→Prop}(hi:Inv m env s0)
  (hx:Ok m x env Q1) (hl:∀ e p,Q1 e p→Qfv m env s0 e p.2)
  (hk:∀ e1 p e2 p',Q1 e1 p→p'.1=p.1→Ready c f mask mm p.1 (p.2.emb e1) (p'.2.emb e2)→Qfv m env s0 e2 p'.2→Ok m (K p') e2 Q):Ok m (QC4 (β:=Unit) c f mask mm x s0 K) env Q:=
 QwO (R:=Ready c f mask mm) (fun env p p' h=>Qz3 (env:=env) h) hi hx hl hk
theorem Qt0:∀ l:List Oper,(segs l).flatten=l
 | []=>rfl
 | o::l=>by
  have ih:=Qt0 l
  rw [segs]
  cases Qza o with
  | true=>
   show ([o]::segs l).flatten=_
   rw [List.flatten_cons,ih]
   rfl
  | false=>
   cases hs:segs l with
   | nil=>
    rw [hs] at ih
    show [[o]].flatten=_
    rw [← ih]
    rfl
   | cons s r=>
    rw [hs] at ih
    show ((o::s)::r).flatten=_
    rw [← ih]
    rfl
theorem Qru (c:Ctx)(rec:Task→Option Res)(n:Nat)(ops:Array Oper):∀ (l r:List Oper) (st:St),Qcf c rec n ops (l++r) st=(Qcf c rec n ops l st).bind (Qcf c rec n ops r)
 | [],r,st=>rfl
 | o::l,r,st=>by
  rw [List.cons_append,QfX,QfX]
  unfold Qqv
  cases QcC c rec n ops o st with
  | none=>rfl
  | some s=>exact Qru c rec n ops l r s
theorem Qt1 (env:Env):∀ {fr:SF} {d:Nat},Qtx d fr=true→QlB fr=true→QdF d (embF env fr)
 | [],_,_,_=>trivial
 | p::r,d,h,hs=>by
  obtain ⟨h1,h2⟩:=Qam (show (Qtx p.1 r&&QlB r)=true from hs)
  have hlt:d<p.1:=by simpa [Qtx,Nat.blt_eq] using h
  exact ⟨hlt,QhR hlt (Qt1 env h1 h2)⟩
theorem Qz4 (env:Env):∀ {fr:SF},QlB fr=true→Srt (embF env fr)
 | [],_=>trivial
 | p::r,hs=>by
  obtain ⟨h1,h2⟩:=Qam (show (Qtx p.1 r&&QlB r)=true from hs)
  exact ⟨Qt1 env h1 h2,Qz4 env h2⟩
theorem Qz5 {env:Env}{fs:List Fact}{e:Ex}{b:Bool}(hf:∀ f∈fs,Fact.holds m env f)(h:Qwp fs e=some b):e.den env .bool=b:=by
 unfold Qwp at h
 split at h
 ·rename_i o x
  split at h
  ·split at h
   ·rename_i b' hb
    simp only [osi] at h
    subst h
    show (!(x.den env .bool))=_
    rw [QhO hf hb]
   ·cases h
  ·exact QhO hf h
 ·exact QhO hf h
theorem QpK {env:Env}{fs:List Fact}(hf:∀ f∈fs,Fact.holds m env f):∀ fr:SF,embF env (Qm7 fs fr)=embF env fr
 | []=>rfl
 | p::r=>by
  have ih:=QpK hf r
  rw [Qm7]
  show (_,_)::embF env (Qm7 fs r)=(p.1,p.2.emb env)::embF env r
  rw [ih]
  congr 1
  obtain ⟨k,v⟩:=p
  cases v with
  | bb e=>
   simp only
   cases hk:Qwp fs e with
   | none=>rfl
   | some b=>
    show (k,AV.bool b)=(k,AV.bool (e.den env .bool))
    rw [Qz5 hf hk]
  | _=>rfl
theorem Qz6 (hs:Sound c rec tb m){n:Nat}{ops:Array Oper}{keep:Nat}(hk:keep≠0):∀ (l:List (List Oper)) (env:Env) (s:SS),Inv m env s→
  Ok m (segT c tb n ops keep l s) env (fun env' p=>p.1=.norm∧((Qcf c rec n ops l.flatten (s.emb env)).map fun st=>(⟨st.fr.only keep,st.H⟩:St))=some (p.2.emb env')∧Qfv m env s env' p.2)
 | [],env,s,hi=>by
  rw [segT]
  show _∧_
  refine ⟨rfl,?_,⟨hi,Nat.le_refl _,Agree.refl⟩⟩
  show some (⟨(s.emb env).fr.only keep,(s.emb env).H⟩:St)=_
  simp only [SS.emb,Qkc]
 | [l],env,s,hi=>by
  rw [segT]
  refine Qot hs hi fun env' s' h e=>?_
  show _∧_
  refine ⟨rfl,?_,⟨e.inv,e.nx,e.agr⟩⟩
  rw [show [l].flatten=l by simp,h]
  simp only [Option.map_some,SS.emb,Qkc]
 | l::l2::r,env,s,hi=>by
  have ih:=Qz6 hs (n:=n) (ops:=ops) hk (l2::r)
  rw [segT]
  refine Qcc fun hb=>?_
  obtain ⟨hsub,hall⟩:=Qam hb
  generalize hM:Qu5 ops (l2::r).flatten keep=M at hsub hall ⊢
  have hM0:M≠0:=fun h0=>by
   subst h0
   have:keep &&& 0=keep:=Nat.eq_of_beq_eq_true hsub
   rw [Nat.and_zero] at this
   exact hk this.symm
  refine QwO (R:=fun _ a b=>a=b) (fun env p p' h=>by simp only [osi] at h; subst h; exact ⟨rfl,rfl,rfl,rfl⟩)
   (Q1:=fun e p=>∃ s1:SS,Qcf c rec n ops l (s.emb env)=some (s1.emb e)∧QlB s1.fr=true∧p=(.norm,{ s1 with fr:=Qm7 s1.fs (Qr1 M s1.fr) })∧Qfv m env s e p.2) hi ?_ (fun e p hq=>hq.choose_spec.2.2.2) ?_
  ·refine Qot hs hi fun env' s' h e=>Qcc fun hsort=>?_
   simp only [Ok]
   exact ⟨s',h,hsort,rfl,⟨e.inv,e.nx,e.agr⟩⟩
  ·rintro e1 p e2 p' ⟨s1,h1,h2,rfl,h4⟩ hp1 hp2 hL
   refine Ok.imp m (fun e3 q hq=>?_) _ _ (ih e2 p'.2 hL.inv)
   obtain ⟨q1,q2,q3⟩:=hq
   refine ⟨q1,?_,hL.trans q3⟩
   rw [List.flatten_cons,Qru,h1,Option.bind_some]
   have hd:=QvC c rec n ops hk hsub (l2::r).flatten hall (embF e1 s1.fr) (Qz4 e1 h2) (embH e1 s1.H)
   rw [show s1.emb e1=⟨embF e1 s1.fr,embH e1 s1.H⟩ from rfl,hd]
   have hemb:(⟨Fr.sift M (embF e1 s1.fr),embH e1 s1.H⟩:St)=p'.2.emb e2:=by
    rw [← hp2]
    unfold SS.emb
    simp only [QpK (fun f hf=>h4.inv f hf),Qkc]
    unfold Fr.only
    have:Nat.beq M 0=false:=by cases M with |zero=>exact absurd rfl hM0 |succ k=>rfl
    rw [this]
   rw [hemb]
   exact q2
theorem QvD (hs:Sound c rec tb m){f mm n id:Nat}{ops:Array Oper}{draw:Bool}{env:Env}{s:SS}(hi:Inv m env s):
  Ok m (regT c tb f mm n id ops draw s) env (fun env' p=>QcI c rec f mm n id ops draw (s.emb env)=some (p.1,p.2.emb env')∧Qfv m env s env' p.2):=by
 unfold regT
 split
 ·refine Qrs hs hi fun env' s' h e=>?_
  simp only [Ok]
  exact ⟨h,e⟩
 ·split
  ·refine Qrs hs hi fun env' s' h e=>?_
   simp only [Ok]
   exact ⟨h,e⟩
  ·rename_i k hk
   refine Ok.imp m (fun e q hq=>?_) _ _ (Qz6 hs (Nat.succ_ne_zero k) (segs ops.toList) env s hi)
   obtain ⟨q1,q2,q3⟩:=hq
   refine ⟨?_,q3⟩
   rw [Qt0] at q2
   rw [Qzi,hk,q1]
   cases he:Qcf c rec n ops ops.toList (s.emb env) with
   | none=>rw [he] at q2; cases q2
   | some st=>
    rw [he] at q2
    simp only [Option.map_some,osi] at q2
    rw [Option.bind_some,← q2]
theorem QBU (hs:Sound c rec tb m){f blk mm:Nat}{F:Func}{bF lb:Code}(hF:c.fn f=some F)(hbF:F.body=some bF)(hlb:QjE (QaI bF 0) blk=some lb){n:Nat}{env:Env}{s:SS}(hi:Inv m env s):
  Ok m (QBn c tb f blk mm s) env (fun env' p=>Qaw c rec f mm n blk (.loop lb) (s.emb env)=some (p.1,p.2.emb env')∧Qfv m env s env' p.2):=by
 unfold QBn
 refine Qov hi fun s1 h1 e1=>Qau fun q hq=>?_
 obtain ⟨fr,H,θ⟩:=q
 simp only
 refine Qau fun fam hfam=>Qcc fun hb=>?_
 obtain ⟨b1,b2⟩:=Qam hb
 obtain ⟨b2,b3⟩:=Qam b2
 obtain ⟨b3,b4⟩:=Qam b3
 obtain ⟨f1,f2,f3⟩:=Qiv hfam
 refine Qor e1.inv fun env' o k j s2 z hz ha ho e2 hp hθ=>?_
 have hm:=hs fam _ z hz env' _ k j o rfl ha ho
 obtain ⟨g1,g2⟩:=Qkg (tb:=tb) (i:=fam) hq f1 f2 f3 env'
 unfold Qhx at hm
 rw [QcK b1] at hm
 simp only at hm
 have:=hm F bF lb (by rw [QcK b2]; exact hF) hbF (by rw [QcK b3]; exact hlb)
 rw [QcK b2,QcK b3,QcK b4,g1,g2,e2.emF,e2.emH] at this
 simp only [Ok]
 refine ⟨?_,e1.trans ⟨e2.inv,e2.nx,e2.agr⟩⟩
 rw [QoN,h1,QBx]
 rw [show s1.emb env=⟨embF env s1.fr,embH env s1.H⟩ from rfl,this]
 rfl
theorem QsE (hs:Sound c rec tb m){f mm n:Nat}{F:Func}{bF:Code}(hF:c.fn f=some F)(hbF:F.body=some bF):∀ (co:Code) (blk:Nat) (rdy:Bool) (env:Env) (s:SS),Inv m env s→
  (∀ p∈QaI co blk,QjE (QaI bF 0) p.1=some p.2)→
  Ok m (Qm8 c tb f mm n co blk rdy s) env (fun env' p=>QlJ c rec f mm n co blk rdy (s.emb env)=some (p.1,p.2.emb env')∧Qfv m env s env' p.2):=by
 intro co
 induction co with
 | skip=>
  intro blk rdy env s hi hL
  show Ok m (.ret (Go.Ev.Ex.norm,s)) env _
  simp only [Ok]
  exact ⟨by cases rdy<;>rfl,.refl hi⟩
 | region id ops draw=>
  intro blk rdy env s hi hL
  show Ok m (match rdy||Nat.beq (c.pre f id) 0 with
   | true=>regT c tb f mm n id ops draw s
   | false=>Qpo c f (c.pre f id) mm s fun s=>regT c tb f mm n id ops draw s) env _
  cases rdy with
  | true=>exact QvD hs hi
  | false=>
   simp only [Bool.false_or]
   split
   ·rename_i hz
    refine Ok.imp m (fun e q hq=>?_) _ _ (QvD hs hi)
    refine ⟨?_,hq.2⟩
    rw [Qch,QlK,if_pos (QcK hz)]
    exact hq.1
   ·rename_i hz
    refine Qov hi fun s1 h1 e1=>Ok.imp m (fun e q hq=>?_) _ _ (QvD hs e1.inv)
    refine ⟨?_,e1.trans hq.2⟩
    rw [Qch,QlK,if_neg (fun h0=>by rw [h0] at hz; simp at hz),h1]
    exact hq.1
 | seq a b iha ihb=>
  intro blk rdy env s hi hL
  have hLa:∀ p∈QaI a blk,QjE (QaI bF 0) p.1=some p.2:=fun p hp=>hL p (by simp only [QaI,List.mem_append]; exact .inl hp)
  have hLb:∀ p∈QaI b blk,QjE (QaI bF 0) p.1=some p.2:=fun p hp=>hL p (by simp only [QaI,List.mem_append]; exact .inr hp)
  have hev:∀ st,QlJ c rec f mm n (.seq a b) blk rdy st=Qj1 (QlJ c rec f mm n a blk rdy) (Qaw c rec f mm n blk b) st:=fun st=>by
   cases rdy with
   | true=>rfl
   | false=>
    rw [Qch,QmR]
    congr 1
    funext st
    rw [Qch]
  have ha:=iha blk rdy env s hi hLa
  have next:∀ (e1:Env) (p:Go.Ev.Ex×SS) (e2:Env) (p':Go.Ev.Ex×SS) (r:Bool),QlJ c rec f mm n a blk rdy (s.emb env)=some (p.1,p.2.emb e1)→p'.1=p.1→
    (p.1=.norm→Qaw c rec f mm n blk b (p.2.emb e1)=QlJ c rec f mm n b blk r (p'.2.emb e2))→(p.1≠.norm→p.2.emb e1=p'.2.emb e2)→Qfv m env s e2 p'.2→
    Ok m (seqK p'.1 p'.2 (Qm8 c tb f mm n b blk r)) e2 (fun env' q=>QlJ c rec f mm n (.seq a b) blk rdy (s.emb env)=some (q.1,q.2.emb env')∧Qfv m env s env' q.2):=fun e1 p e2 p' r h1 hp hn hx hL2=>by
   rw [hev]
   unfold Qj1
   rw [h1]
   obtain ⟨ex,sp⟩:=p
   obtain ⟨ex',sp'⟩:=p'
   simp only at hp hn hx
   subst hp
   cases ex' with
   | norm=>
    show Ok m (Qm8 c tb f mm n b blk r sp') e2 _
    refine Ok.imp m (fun e3 q hq=>⟨?_,hL2.trans hq.2⟩) _ _ (ihb blk r e2 sp' hL2.inv hLb)
    simp only
    rw [hn rfl]
    exact hq.1
   | exit k=>
    show Ok m (.ret (Go.Ev.Ex.exit k,sp')) e2 _
    simp only [Ok]
    exact ⟨by rw [hx (by simp)],hL2⟩
   | ret=>
    show Ok m (.ret (Go.Ev.Ex.ret,sp')) e2 _
    simp only [Ok]
    exact ⟨by rw [hx (by simp)],hL2⟩
  show Ok m (match Qxq c f b with
   | 0=>(Qm8 c tb f mm n a blk rdy s).bind fun p=>seqK p.1 p.2 (Qm8 c tb f mm n b blk false)
   | mask=>QC4 (β:=Unit) c f mask mm (Qm8 c tb f mm n a blk rdy s) s fun p=>seqK p.1 p.2 (Qm8 c tb f mm n b blk true)) env _
  cases hp:Qxq c f b with
  | zero=>
   exact Ok.bind m (fun e1 p hq=>next e1 p e1 p false hq.1 rfl (fun _=>(Qch f mm n b blk _).symm) (fun _=>rfl) hq.2) _ env ha
  | succ k=>
   refine QBT hi ha (fun e p hq=>hq.2) fun e1 p e2 p' hq h1 h2 h3=>next e1 p e2 p' true hq.1 h1 (fun hn=>?_) (fun hn=>?_) h3
   ·rw [hn] at h2
    refine QDn b blk (by rw [hp]; simp) ?_
    rw [hp]
    exact h2
   ·obtain ⟨ex,sp⟩:=p
    cases ex with
    | norm=>exact absurd rfl hn
    | exit k=>exact h2
    | ret=>exact h2
 | cond p a b iha ihb=>
  intro blk rdy env s hi hL
  have hLa:∀ p∈QaI a blk,QjE (QaI bF 0) p.1=some p.2:=fun p hp=>hL p (by simp only [QaI,List.mem_append]; exact .inl hp)
  have hLb:∀ p∈QaI b blk,QjE (QaI bF 0) p.1=some p.2:=fun p hp=>hL p (by simp only [QaI,List.mem_append]; exact .inr hp)
  have hev:∀ st,QlJ c rec f mm n (.cond p a b) blk rdy st=Qaw c rec f mm n blk (.cond p a b) st:=fun st=>by cases rdy<;>rfl
  show Ok m (match opvS s.fr p with
   | .bb e=>branch e s fun x s=>match x with |true=>Qm8 c tb f mm n a blk false s |false=>Qm8 c tb f mm n b blk false s
   | _=>.fail) env _
  split
  ·rename_i e he
   refine Qmi hi fun x s1 hx e1=>?_
   have hst:s1.emb env=s.emb env:=by unfold SS.emb; rw [e1.fr,e1.H]
   have hcond:Qaw c rec f mm n blk (.cond p a b) (s.emb env)=if x=true then Qaw c rec f mm n blk a (s.emb env) else Qaw c rec f mm n blk b (s.emb env):=by
    rw [QoM,show (s.emb env).fr=embF env s.fr from rfl,← QaC,he,SV.emb,hx,QBw]
   cases x with
   | true=>
    refine Ok.imp m (fun e2 q hq=>⟨?_,e1.toExt.later.trans hq.2⟩) _ _ (iha blk false env s1 e1.inv hLa)
    rw [hev,hcond,if_pos rfl,← hst,← Qch]
    exact hq.1
   | false=>
    refine Ok.imp m (fun e2 q hq=>⟨?_,e1.toExt.later.trans hq.2⟩) _ _ (ihb blk false env s1 e1.inv hLb)
    rw [hev,hcond,if_neg (by simp),← hst,← Qch]
    exact hq.1
  ·simp only [Ok]
 | block id a iha=>
  intro blk rdy env s hi hL
  have hev:∀ st,QlJ c rec f mm n (.block id a) blk rdy st=Qaw c rec f mm n blk (.block id a) st:=fun st=>by cases rdy<;>rfl
  show Ok m ((Qm8 c tb f mm n a id false s).bind fun p=>match p.1 with
   | .exit k=>match Nat.beq k id with |true=>.ret (Go.Ev.Ex.norm,p.2) |false=>.ret (Go.Ev.Ex.exit k,p.2)
   | e=>.ret (e,p.2)) env _
  refine Ok.bind m (fun e1 p hq=>?_) _ env (iha id false env s hi hL)
  obtain ⟨h1,h2⟩:=hq
  rw [Qch] at h1
  obtain ⟨ex,sp⟩:=p
  rw [hev,QnI]
  unfold Qj2
  rw [h1]
  cases ex with
  | norm=>simp only [Ok]; first |exact ⟨rfl,h2⟩ |exact ⟨trivial,h2⟩ |simpa using h2
  | ret=>simp only [Ok]; first |exact ⟨rfl,h2⟩ |exact ⟨trivial,h2⟩ |simpa using h2
  | exit k=>
   simp only
   split
   ·rename_i hb
    simp only [Ok,hb]
    first |exact ⟨rfl,h2⟩ |exact ⟨trivial,h2⟩ |simpa using h2
   ·rename_i hb
    simp only [Ok,hb]
    first |exact ⟨rfl,h2⟩ |exact ⟨trivial,h2⟩ |simpa using h2
 | loop b ihb=>
  intro blk rdy env s hi hL
  have hev:∀ st,QlJ c rec f mm n (.loop b) blk rdy st=Qaw c rec f mm n blk (.loop b) st:=fun st=>by cases rdy<;>rfl
  show Ok m (QBn c tb f blk mm s) env _
  refine Ok.imp m (fun e q hq=>?_) _ _ (QBU hs hF hbF (hL (blk,b) (by simp [QaI])) (n:=n) hi)
  rw [hev]
  exact hq
 | exit id=>
  intro blk rdy env s hi hL
  have hev:∀ st,QlJ c rec f mm n (.exit id) blk rdy st=Qaw c rec f mm n blk (.exit id) st:=fun st=>by cases rdy<;>rfl
  show Ok m (Qpo c f (c.out f id) mm s fun s=>.ret (Go.Ev.Ex.exit id,s)) env _
  refine Qov hi fun s1 h1 e1=>?_
  simp only [Ok]
  exact ⟨by rw [hev,QoO,h1],e1⟩
 | ret=>
  intro blk rdy env s hi hL
  have hev:∀ st,QlJ c rec f mm n .ret blk rdy st=Qaw c rec f mm n blk .ret st:=fun st=>by cases rdy<;>rfl
  show Ok m (Qpo c f (c.res f) mm s fun s=>.ret (Go.Ev.Ex.ret,s)) env _
  refine Qov hi fun s1 h1 e1=>?_
  simp only [Ok]
  exact ⟨by rw [hev,QqU,h1],e1⟩
 | rangeFunc _ _ _ _ _ _=>intro blk rdy env s hi hL; show Ok m .fail env _; simp only [Ok]
 | scope _ _=>intro blk rdy env s hi hL; show Ok m .fail env _; simp only [Ok]
 | label _=>intro blk rdy env s hi hL; show Ok m .fail env _; simp only [Ok]
 | goto _=>intro blk rdy env s hi hL; show Ok m .fail env _; simp only [Ok]
 | refuse _=>intro blk rdy env s hi hL; show Ok m .fail env _; simp only [Ok]
end
end Go.Sy
end
noncomputable section
namespace Go.Sy
open Go Go.Ev
def tupA:List AV→AV |[v]=>v |vs=>.tup vs
theorem QpL (env:Env)(l:List SV):(Qu9 l).emb env=tupA (SV.embL env l):=by
 cases l with
 | nil=>rfl
 | cons a l=>cases l<;>rfl
theorem Qt2 {H:Heap}:∀ {vs ws:List AV},mapM' (Qaj H 12) vs=some ws→Qgq H (tupA vs)=some (tupA ws)
 | [],ws,h=>by
  simp only [mapM'_nil,osi] at h
  subst h
  rfl
 | [v],ws,h=>by
  rw [mapM'_cons,Qi5,mapM'_nil] at h
  cases h1:Qaj H 12 v with
  | none=>rw [h1] at h; simp at h
  | some w=>
   rw [h1] at h
   simp only [Option.bind_some,osi] at h
   subst h
   show Qgq H v=some w
   cases v with
   | tup vs=>simp [Qaj] at h1
   | _=>exact h1
 | a::b::l,ws,h=>by
  have hl:∃ x y r,ws=x::y::r:=by
   rw [mapM'_cons,Qi5,mapM'_cons,Qi5] at h
   cases h1:Qaj H 12 a with
   | none=>rw [h1] at h; simp at h
   | some x=>
    cases h2:Qaj H 12 b with
    | none=>rw [h1,h2] at h; simp at h
    | some y=>
     cases h3:mapM' (Qaj H 12) l with
     | none=>rw [h1,h2,h3] at h; simp at h
     | some r=>
      rw [h1,h2,h3] at h
      simp only [Option.bind_some,osi] at h
      exact ⟨x,y,r,h.symm⟩
  obtain ⟨x,y,r,rfl⟩:=hl
  show Qgq H (.tup (a::b::l))=some (.tup (x::y::r))
  rw [Qxy,h]
  rfl
section
variable {c:Ctx} {rec:Task→Option Res} {tb:Tab} {m:(f:Nat)→Pr (tb.P f)→Option (Sm (tb.O f))} {α:Type}
variable {Q:Env→α→Prop}
theorem QxS {r:ResultVar}{env:Env}{s:SS}{K:SV→SS→T α}(hi:Inv m env s)
  (hk:∀ env' v s',Qcr c (s.emb env) r=some (v.emb env')→s'.emb env'=s.emb env→Qfv m env s env' s'→Ok m (K v s') env' Q):Ok m (Qu8 c r s K) env Q:=by
 unfold Qu8
 cases r with
 | tmp t=>
  refine hk env _ s ?_ rfl (.refl hi)
  show some (Fr.get (embF env s.fr) t)=_
  rw [QgF]
 | cell a t=>
  refine QwG hi fun env' v s' h e=>hk env' v s' ?_ ?_ e.later
  ·show QhF c t (embH env s.H) (Fr.get (embF env s.fr) a)=_
   rw [← QgF]
   cases hl:QhF c t (embH env s.H) ((getF s.fr a).emb env) with
   | none=>rw [hl] at h; simp [okV] at h
   | some w=>
    rw [hl] at h
    simp only [okV,osi,Prod.mk.injEq] at h
    rw [h.1]
  ·unfold SS.emb
   rw [e.fr,e.emF]
   cases hl:QhF c t (embH env s.H) ((getF s.fr a).emb env) with
   | none=>rw [hl] at h; simp [okV] at h
   | some w=>
    rw [hl] at h
    simp only [okV,osi,Prod.mk.injEq] at h
    rw [← h.2]
theorem QpM:∀ {l:List ResultVar} {vs:List SV} {env:Env} {s:SS} {K:List SV→SS→T α},Inv m env s→
  (∀ env' ws rs s',mapM' (Qcr c (s.emb env)) l=some rs→SV.embL env' ws=SV.embL env vs++rs→s'.emb env'=s.emb env→Qfv m env s env' s'→Ok m (K ws s') env' Q)→Ok m (Qmc c l vs s K) env Q
 | [],vs,env,s,K,hi,hk=>hk env vs [] s rfl (by simp) rfl (.refl hi)
 | r::l,vs,env,s,K,hi,hk=>by
  unfold Qmc
  refine Qcc fun hb=>QxS hi fun env1 v s1 h1 hst e1=>QpM e1.inv fun env2 ws rs s2 h2 hw hst2 e2=>?_
  obtain ⟨b1,b2⟩:=Qam hb
  refine hk env2 ws (v.emb env1::rs) s2 ?_ ?_ (hst2.trans hst) (e1.trans e2)
  ·rw [hst] at h2
   rw [mapM'_cons,Qi5,h1,h2]
   rfl
  ·rw [hw,Qmf,← Qd2 e1.agr b2]
   simp [SV.embL]
theorem Qmu:∀ {l acc:List SV} {env:Env} {s:SS} {K:List SV→SS→T α},Inv m env s→
  (∀ xs s',mapM' (Qaj (embH env s.H) 12) (SV.embL env l)=some (SV.embL env xs)→ExtH m env s env s'→Ok m (K (acc++xs) s') env Q)→Ok m (QkU l acc s K) env Q
 | [],acc,env,s,K,hi,hk=>by
  have:=hk [] s rfl (.refl hi)
  rw [List.append_nil] at this
  exact this
 | v::l,acc,env,s,K,hi,hk=>by
  unfold QkU
  refine Qau fun p hp=>?_
  obtain ⟨x,g⟩:=p
  refine Qda hi fun s1 hg e1=>Qmu e1.inv fun xs s2 h2 e2=>?_
  have:=hk (x::xs) s2 ?_ (e1.trans e2)
  ·rw [List.append_assoc]
   exact this
  ·rw [e1.H] at h2
   rw [SV.embL,mapM'_cons,Qi5,QkX 12 hp hg,h2]
   rfl
theorem Qkj {γ:Type}{o:Option γ}{k:γ→T α}{os:List (List Ty)}{env:Env}{z:Sm os}(h:(opt o k).den tb.P tb.O m os env=some z):∃ a,o=some a∧(k a).den tb.P tb.O m os env=some z:=by
 cases o with
 | none=>simp only [opt,T.den,reduceCtorEq] at h
 | some a=>exact ⟨a,rfl,h⟩
theorem QpN {b:Bool}{k:T α}{os:List (List Ty)}{env:Env}{z:Sm os}(h:(iff b k).den tb.P tb.O m os env=some z):b=true∧k.den tb.P tb.O m os env=some z:=by
 cases b with
 | false=>simp only [iff,T.den,reduceCtorEq] at h
 | true=>exact ⟨rfl,h⟩
theorem Qmv {o:Option (Nat×List Ex)}{os:List (List Ty)}{env:Env}{z:Sm os}(h:(outT o:T α).den tb.P tb.O m os env=some z):∃ j es,o=some (j,es)∧mkSm env os j es=some z:=by
 cases o with
 | none=>simp only [outT,T.den,reduceCtorEq] at h
 | some p=>obtain ⟨j,es⟩:=p; simp only [outT,T.den] at h; exact ⟨j,es,rfl,h⟩
theorem QvE:∀ {ps:List Ty} {i:Nat} {t:Ty},tyAt ps i t=true→ps[i]?=some t
 | [],_,_,h=>by simp [tyAt] at h
 | a::l,0,t,h=>by simp only [tyAt] at h; rw [QaP h]; rfl
 | a::l,i+1,t,h=>by simp only [tyAt] at h; simpa using QvE h
theorem Qow {ps:List Ty}{env1 envC:Env}{θ:List Ex}(hp:∀ i t,ps[i]?=some t→(θ.getD i .un).den envC t=env1 i t):∀ {hs:List (Hk×Ty)} {θ':List (Ty×Ex)} {es:List Ex} {n:Nat},Qma ps hs θ'=some es→
  getP envC (Qge hs) n=mkPr env1 (Qge hs) es→∀ i t e,θ'[i]?=some (t,e)→((Qll θ hs n).getD i .un).den envC t=e.den env1 t
 | [],[],es,n,h,hg=>fun i t e hi=>by simp at hi
 | (.par k,t)::l,(u,e)::r,es,n,h,hg=>by
  simp only [Qma] at h
  split at h
  ·rename_i hb
   obtain ⟨b1,b2⟩:=Qam hb
   obtain ⟨b2,b3⟩:=Qam b2
   intro i t' e' hi
   cases i with
   | zero=>
    simp only [List.getElem?_cons_zero,osi,Prod.mk.injEq] at hi
    obtain ⟨rfl,rfl⟩:=hi
    rw [QaG b2]
    have:=QaP b1
    subst this
    exact hp k _ (QvE b3)
   | succ i=>
    simp only [List.getElem?_cons_succ] at hi
    exact Qow hp h hg i t' e' hi
  ·cases h
 | (.con x,t)::l,(u,e)::r,es,n,h,hg=>by
  simp only [Qma] at h
  split at h
  ·rename_i hb
   obtain ⟨b1,b2⟩:=Qam hb
   obtain ⟨b2,b3⟩:=Qam b2
   intro i t' e' hi
   cases i with
   | zero=>
    simp only [List.getElem?_cons_zero,osi,Prod.mk.injEq] at hi
    obtain ⟨rfl,rfl⟩:=hi
    rw [QaG b2]
    exact QaB (n:=0) (fun m hm=>absurd hm (Nat.not_lt_zero m)) b3 u
   | succ i=>
    simp only [List.getElem?_cons_succ] at hi
    exact Qow hp h hg i t' e' hi
  ·cases h
 | (.new,t)::l,(u,e)::r,es,n,h,hg=>by
  simp only [Qma] at h
  split at h
  ·rename_i hb
   split at h
   ·rename_i es' hes
    simp only [osi] at h
    subst h
    have:=QaP hb
    subst this
    obtain ⟨g1,g2⟩:=QtY (N:=Qge l) hg
    intro i t' e' hi
    cases i with
    | zero=>
     simp only [List.getElem?_cons_zero,osi,Prod.mk.injEq] at hi
     obtain ⟨rfl,rfl⟩:=hi
     exact g1
    | succ i=>
     simp only [List.getElem?_cons_succ] at hi
     exact Qow hp hes g2 i t' e' hi
   ·cases h
  ·cases h
 | [],_::_,_,_,h,_=>by simp [Qma] at h
 | (.par _,_)::_,[],_,_,h,_=>by simp [Qma] at h
 | (.con _,_)::_,[],_,_,h,_=>by simp [Qma] at h
 | (.new,_)::_,[],_,_,h,_=>by simp [Qma] at h
theorem Qrv {ps:List Ty}:∀ {l:List Out} {j0:Nat} {ex:Go.Ev.Ex} {fr:SF} {H:SH} {θ:List (Ty×Ex)} {j:Nat} {es:List Ex},Qlz ps l j0 ex fr H θ=some (j,es)→
  ∃ k o,j=j0+k∧l[k]?=some o∧o.ex=ex∧o.fr=fr∧o.H=H∧Qma ps o.hs θ=some es
 | [],_,_,_,_,_,_,_,h=>by simp [Qlz] at h
 | s::l,j0,ex,fr,H,θ,j,es,h=>by
  have rest:Qlz ps l (j0+1) ex fr H θ=some (j,es)→∃ k s',j=j0+k∧(s::l)[k]?=some s'∧s'.ex=ex∧s'.fr=fr∧s'.H=H∧Qma ps s'.hs θ=some es:=fun h=>by
   obtain ⟨k,s',h1,h2,h3⟩:=Qrv h
   exact ⟨k+1,s',by omega,by simpa using h2,h3⟩
  simp only [Qlz] at h
  split at h
  ·rename_i hb
   obtain ⟨b1,b2⟩:=Qam hb
   obtain ⟨b2,b3⟩:=Qam b2
   split at h
   ·rename_i es' hes
    simp only [osi,Prod.mk.injEq] at h
    obtain ⟨rfl,rfl⟩:=h
    exact ⟨0,s,rfl,rfl,QtZ b1,QlE b2,Qnb b3,hes⟩
   ·exact rest h
  ·exact rest h
theorem Qz7 {ps:List Ty}{envC env1:Env}{θ:List Ex}{x:Pr ps}(hx:mkPr envC ps θ=x)(ha:Agree ps.length (env0 ps x) env1):∀ i t,ps[i]?=some t→(θ.getD i .un).den envC t=env1 i t:=fun i t h=>by
 subst hx
 have:=Qsw envC ps θ Env.none 0 i t h
 rw [Nat.zero_add] at this
 have hi:i<ps.length:=by
  rw [List.getElem?_eq_some_iff] at h
  exact h.1
 rw [← ha i hi t]
 exact this.symm
theorem QpO {ps:List Ty}{outs:List Out}{ex:Go.Ev.Ex}{fr:SF}{H:SH}{j j' n:Nat}{es θ:List Ex}{env1 envC:Env}{z:Sm (outs.map Out.ts)}{x:Pr ps}{o:Out}(h:Qlm ps outs ex fr H=some (j,es))(hz:mkSm env1 (outs.map Out.ts) j es=some z)
  (hx:mkPr envC ps θ=x) (hag:Agree ps.length (env0 ps x) env1) (hal:Qha envC (outs.map Out.ts) z j' n) (ho:outs[j']?=some o):
  o.ex=ex∧embF envC (o.state θ n).1=embF env1 fr∧embH envC (o.state θ n).2=embH env1 H:=by
 unfold Qlm at h
 split at h
 ·cases h
 ·rename_i fr' H' θ' habs
  obtain ⟨rfl,hget⟩:=Qk1 hz hal
  obtain ⟨k,o',hj,ho',e1,e2,e3,e4⟩:=Qrv h
  rw [Nat.zero_add] at hj
  subst hj
  rw [ho] at ho'
  simp only [osi] at ho'
  subst ho'
  have hts:(outs.map Out.ts)[j']?=some o.ts:=by rw [List.getElem?_map,ho]; rfl
  have hh:=Qow (Qz7 hx hag) e4 (hget _ hts)
  have hemb:=Qsv (env:=env1) (env':=fun i u=>((o.σ θ n) i).den envC u) habs hh
  refine ⟨e1,?_,?_⟩
  ·show embF envC (QqA (o.σ θ n) o.fr)=_
   rw [Qkd,e2,hemb.1]
  ·show embH envC (Qr4 (o.σ θ n) o.H)=_
   rw [Qmh,e3,hemb.2]
theorem QpP (env:Env):∀ {fr:SF} {k:Nat},QnP fr k=true→embF env fr=Qhw k ((embF env fr).map (·.2))
 | [],_,_=>rfl
 | p::r,k,h=>by
  simp only [QnP] at h
  obtain ⟨h1,h2⟩:=Qam h
  show (p.1,p.2.emb env)::embF env r=(k,p.2.emb env)::Qhw (k+1) ((embF env r).map (·.2))
  rw [← QpP env h2,QcK h1]
theorem Qt3:∀ {l:List (Nat×Code)} {k:Nat} {b:Code},QjE l k=some b→(k,b)∈l
 | [],_,_,h=>by simp [QjE] at h
 | (a,b)::r,k,b',h=>by
  simp only [QjE] at h
  split at h
  ·rename_i hb
   simp only [osi] at h
   subst h
   rw [QcK hb]
   simp
  ·simp [Qt3 h]
theorem Qjd:∀ {l:List (Nat×Code)},Qra (l.map (·.1))=true→∀ p∈l,QjE l p.1=some p.2
 | [],_,p,hp=>by simp at hp
 | (a,b)::r,h,p,hp=>by
  simp only [List.map_cons,Qra] at h
  obtain ⟨h1,h2⟩:=Qam h
  simp only [List.mem_cons] at hp
  rcases hp with rfl |hp
  ·simp only [QjE,Nat.beq_refl]
  ·have hne:Nat.beq a p.1=false:=by
    cases hb:Nat.beq a p.1 with
    | false=>rfl
    | true=>
     have e:=QcK hb
     have:a∈r.map (·.1):=by rw [e]; exact List.mem_map.mpr ⟨p,hp,rfl⟩
     rw [← QgC] at this
     rw [this] at h1
     cases h1
   simp only [QjE,hne]
   exact Qjd h2 p hp
theorem QBV:∀ {co:Code} {blk id:Nat} {b:Code},(id,b)∈QaI co blk→∀ p∈QaI b id,p∈QaI co blk:=by
 intro co
 induction co with
 | seq a b iha ihb=>
  intro blk id b' h p hp
  simp only [QaI,List.mem_append] at h ⊢
  rcases h with h |h
  ·exact .inl (iha h p hp)
  ·exact .inr (ihb h p hp)
 | cond q a b iha ihb=>
  intro blk id b' h p hp
  simp only [QaI,List.mem_append] at h ⊢
  rcases h with h |h
  ·exact .inl (iha h p hp)
  ·exact .inr (ihb h p hp)
 | block k a iha=>
  intro blk id b' h p hp
  simp only [QaI] at h ⊢
  exact iha h p hp
 | loop a iha=>
  intro blk id b' h p hp
  simp only [QaI,List.mem_cons,Prod.mk.injEq] at h ⊢
  rcases h with ⟨rfl,rfl⟩ |h
  ·exact .inr hp
  ·exact .inr (iha h p hp)
 | _=>intro blk id b' h; simp [QaI] at h
theorem Qz8 {env env':Env}:∀ {ts:List Ty} {n n':Nat},getP env ts n=getP env' ts n'→∀ i t,ts[i]?=some t→env (n+i) t=env' (n'+i) t
 | [],_,_,_,i,t,h=>by simp at h
 | [a],n,n',hg,i,t,h=>by
  cases i with
  | zero=>
   simp only [List.getElem?_cons_zero,osi] at h
   subst h
   exact hg
  | succ i=>simp at h
 | a::b::l,n,n',hg,i,t,h=>by
  have hg':(env n a,getP env (b::l) (n+1))=(env' n' a,getP env' (b::l) (n'+1)):=hg
  simp only [Prod.mk.injEq] at hg'
  cases i with
  | zero=>
   simp only [List.getElem?_cons_zero,osi] at h
   subst h
   exact hg'.1
  | succ i=>
   simp only [List.getElem?_cons_succ] at h
   have:=Qz8 hg'.2 i t h
   rw [show n+(i+1)=n+1+i by omega,show n'+(i+1)=n'+1+i by omega]
   exact this
theorem Qk2 {ps:List Ty}{e1 e2:Env}{θ1 θ2:List Ex}:∀ {hs:List (Hk×Ty)} {n1 n2:Nat},Qty ps θ1 hs=true→(∀ i t,ps[i]?=some t→(θ2.getD i .un).den e2 t=e1 i t)→
  getP e1 (Qge hs) n1=getP e2 (Qge hs) n2→∀ i t,(hs[i]?).map (·.2)=some t→((Qll θ1 hs n1).getD i .un).den e1 t=((Qll θ2 hs n2).getD i .un).den e2 t
 | [],_,_,_,_,_,i,t,h=>by simp at h
 | (.par k,u)::l,n1,n2,hh,hp,hg,i,t,h=>by
  unfold Qty at hh
  rw [List.all_cons] at hh
  obtain ⟨b1,b2⟩:=Qam hh
  simp only at b1
  obtain ⟨b1,b3⟩:=Qam b1
  cases i with
  | zero=>
   simp only [List.getElem?_cons_zero,Option.map_some,osi] at h
   subst h
   show (θ1.getD k .un).den e1 u=(θ2.getD k .un).den e2 u
   rw [QaG b1,hp k u (QvE b3)]
   rfl
  | succ i=>exact Qk2 (hs:=l) b2 hp hg i t (by simpa using h)
 | (.con e,u)::l,n1,n2,hh,hp,hg,i,t,h=>by
  unfold Qty at hh
  rw [List.all_cons] at hh
  obtain ⟨b1,b2⟩:=Qam hh
  simp only at b1
  cases i with
  | zero=>
   simp only [List.getElem?_cons_zero,Option.map_some,osi] at h
   subst h
   exact QaB (n:=0) (fun m hm=>absurd hm (Nat.not_lt_zero m)) b1 u
  | succ i=>exact Qk2 (hs:=l) b2 hp hg i t (by simpa using h)
 | (.new,u)::l,n1,n2,hh,hp,hg,i,t,h=>by
  unfold Qty at hh
  rw [List.all_cons] at hh
  obtain ⟨b1,b2⟩:=Qam hh
  have h0:=Qz8 (ts:=u::Qge l) hg
  cases i with
  | zero=>
   simp only [List.getElem?_cons_zero,Option.map_some,osi] at h
   subst h
   exact h0 0 u rfl
  | succ i=>
   refine Qk2 (hs:=l) b2 hp ?_ i t (by simpa using h)
   cases hN:Qge l with
   | nil=>rfl
   | cons v N=>
    have hg':getP e1 (u::Qge l) n1=getP e2 (u::Qge l) n2:=hg
    rw [hN] at hg'
    have hg'':(e1 n1 u,getP e1 (v::N) (n1+1))=(e2 n2 u,getP e2 (v::N) (n2+1)):=hg'
    simp only [Prod.mk.injEq] at hg''
    exact hg''.2
theorem Qrw:∀ {θ:List (Ty×Ex)} {hs:List (Hk×Ty)} {k:Nat},Qm9 θ hs k=true→∀ (i:Nat) (t:Ty) (e:Ex),θ[i]?=some (t,e)→e=.v (k+i)∧(hs[i]?).map (·.2)=some t
 | [],[],_,_,i,t,e,h=>by simp at h
 | (t0,e0)::r,(q,u)::l,k,hb,i,t,e,h=>by
  simp only [Qm9] at hb
  obtain ⟨b1,b2⟩:=Qam hb
  obtain ⟨b2,b3⟩:=Qam b2
  cases i with
  | zero=>
   simp only [List.getElem?_cons_zero,osi,Prod.mk.injEq] at h
   obtain ⟨rfl,rfl⟩:=h
   exact ⟨QaG b2,by rw [QaP b1]; rfl⟩
  | succ i=>
   simp only [List.getElem?_cons_succ] at h
   obtain ⟨h1,h2⟩:=Qrw b3 i t e h
   exact ⟨by rw [h1,show k+(i+1)=k+1+i by omega],by simpa using h2⟩
 | [],_::_,_,hb,_,_,_,_=>by simp [Qm9] at hb
 | _::_,[],_,hb,_,_,_,_=>by simp [Qm9] at hb
theorem QBW {o:Out}(h:Qva o=true){e1 e2:Env}(he:∀ i t,(o.hs[i]?).map (·.2)=some t→e1 i t=e2 i t):embF e1 o.fr=embF e2 o.fr∧embH e1 o.H=embH e2 o.H:=by
 unfold Qva at h
 split at h
 ·rename_i fr H θ habs
  obtain ⟨h1,h2⟩:=Qam h
  obtain ⟨h2,h3⟩:=Qam h2
  have:=Qsv (env:=e2) (env':=e1) habs fun i t e hi=>by
   obtain ⟨k1,k2⟩:=Qrw h3 i t e hi
   rw [k1,Nat.zero_add]
   exact he i t k2
  rw [QlE h1,Qnb h2] at this
  exact this
 ·cases h
theorem Qz9:∀ (os:List (List Ty)) (z:Sm os) (env:Env) (n j:Nat) (env2:Env) (n2:Nat),Qha env2 os z j n2→∃ env',Agree n env env'∧Qha env' os z j n∧∀ ts,os[j]?=some ts→getP env' ts n=getP env2 ts n2
 | [],z,_,_,_,_,_,_=>z.elim
 | [a],z,env,n,j,env2,n2,h=>by
  cases j with
  | zero=>
   refine ⟨Env.setP a env n z,Qd0 a env n z,Qfu a env n z,fun ts ht=>?_⟩
   simp only [List.getElem?_cons_zero,osi] at ht
   subst ht
   rw [← Qfu a env n z]
   exact h
  | succ j=>exact h.elim
 | a::b::l,.inl p,env,n,j,env2,n2,h=>by
  cases j with
  | zero=>
   refine ⟨Env.setP a env n p,Qd0 a env n p,Qfu a env n p,fun ts ht=>?_⟩
   simp only [List.getElem?_cons_zero,osi] at ht
   subst ht
   rw [← Qfu a env n p]
   exact h
  | succ j=>exact h.elim
 | a::b::l,.inr y,env,n,j,env2,n2,h=>by
  cases j with
  | zero=>exact h.elim
  | succ j=>
   obtain ⟨env',h1,h2,h3⟩:=Qz9 (b::l) y env n j env2 n2 h
   exact ⟨env',h1,h2,fun ts ht=>h3 ts (by simpa using ht)⟩
end
end Go.Sy
end
