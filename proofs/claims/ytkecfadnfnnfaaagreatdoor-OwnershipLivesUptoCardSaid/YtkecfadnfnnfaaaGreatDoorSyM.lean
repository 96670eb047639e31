/- Symbolic runs: calls, operations, steps. -/
import Derived.Test.YtkecfadnfnnfaaaGreatDoorSyL
set_option linter.unusedVariables false
set_option linter.unusedSimpArgs false
namespace Go.Sy
open Go Go.Ev
def env0 (ps:List Ty)(x:Pr ps):Env:=Env.setP ps Env.none 0 x
theorem QwY (ts:List Ty)(env:Env)(n:Nat)(x:Pr ts)(i:Nat)(h:i<n)(t:Ty):Env.setP ts env n x i t=env i t:=(QdF ts env n x i h t).symm
theorem QtM (env:Env):∀ (ts:List Ty) (θ:List Ex) (base:Env) (k i:Nat) (t:Ty),ts[i]?=some t→Env.setP ts base k (mkPr env ts θ) (k+i) t=(θ.getD i .un).den env t
 | [],θ,base,k,i,t,h=>by simp at h
 | [a],θ,base,k,i,t,h=>by
  cases i with
  | zero=>
   simp only [List.getElem?_cons_zero,osi] at h
   subst h
   show (base.set k a (mkPr env [a] θ)) k a=_
   rw [Qe1]
   cases θ<;>rfl
  | succ i=>simp at h
 | a::b::l,θ,base,k,i,t,h=>by
  cases i with
  | zero=>
   simp only [List.getElem?_cons_zero,osi] at h
   subst h
   show Env.setP (b::l) (base.set k a (mkPr env (a::b::l) θ).1) (k+1) (mkPr env (a::b::l) θ).2 k a=_
   rw [QwY (b::l) _ _ _ k (Nat.lt_succ_self k),Qe1]
   cases θ<;>rfl
  | succ i=>
   simp only [List.getElem?_cons_succ] at h
   show Env.setP (b::l) (base.set k a (mkPr env (a::b::l) θ).1) (k+1) (mkPr env (a::b::l) θ).2 (k+(i+1)) t=_
   have:(mkPr env (a::b::l) θ).2=mkPr env (b::l) θ.tail:=by cases θ<;>rfl
   rw [this,show k+(i+1)=k+1+i by omega,QtM env (b::l) θ.tail _ (k+1) i t h]
   cases θ with
   | nil=>rfl
   | cons e es=>rfl
section
variable (c:Ctx) (rec:Task→Option Res) (tb:Tab)
def Qhr (q:Fam)(e0:Env)(ex:Go.Ev.Ex)(fr:Fr)(H:Heap):Prop:=match q.kind with
 | 1=>rec (.fn q.f ((embF e0 q.fr).map (·.2)) (embH e0 q.H))=some (.val (Fr.get fr 0) H)
 | 2=>∀ F b lb,c.fn q.f=some F→F.body=some b→Qkg (QaI b 0) q.id=some lb→rec (.loop q.f q.id q.m lb ⟨embF e0 q.fr,embH e0 q.H⟩)=some (.code ex ⟨fr,H⟩)
 | _=>match c.prim q.f with
  | .pure p=>p ((embF e0 q.fr).map (·.2))=some (Fr.get fr 0)
  | _=>∃ H',rec (.pfn q.f ((embF e0 q.fr).map (·.2)))=some (.val (Fr.get fr 0) H')
def Sound (m:(f:Nat)→Pr (tb.P f)→Option (Sm (tb.O f))):Prop:=∀ i x z,m i x=some z→∀ (env:Env) (θ:List Ex) (n j:Nat) (o:Out),mkPr env (tb.P i) θ=x→Qg4 env (tb.O i) z j n→
 (tb.fam i).outs[j]?=some o→Qhr c rec (tb.fam i) (env0 (tb.P i) x) o.ex (embF env (o.state θ n).1) (embH env (o.state θ n).2)
end
section
variable {c:Ctx} {rec:Task→Option Res} {tb:Tab} {m:(f:Nat)→Pr (tb.P f)→Option (Sm (tb.O f))} {α:Type}
variable {env:Env} {s:SS} {Q:Env→α→Prop}
theorem Qpt {f:Nat}{θ:List Ex}{j n:Nat}:∀ {fs:List Fact},(∀ g∈fs,Fact.holds m env g)→QuR f θ fs=some (j,n)→∃ z,m f (mkPr env (tb.P f) θ)=some z∧Qg4 env (tb.O f) z j n
 | [],_,h=>by simp [QuR] at h
 | .call g xs i k len::r,hf,h=>by
  simp only [QuR] at h
  split at h
  ·rename_i hx
   obtain ⟨h1,h2⟩:=Qan hx
   have e1:=Qcl h1
   have e2:=Qx0 h2
   subst e1 e2
   simp only [osi,Prod.mk.injEq] at h
   obtain ⟨rfl,rfl⟩:=h
   obtain ⟨z,h1,h2,_⟩:=hf (.call g xs i k len) (by simp)
   exact ⟨z,h1,h2⟩
  ·exact Qpt (fun f hm=>hf f (by simp [hm])) h
 | .cond ..::r,hf,h=>by simp only [QuR] at h; exact Qpt (fun f hm=>hf f (by simp [hm])) h
 | .idx ..::r,hf,h=>by simp only [QuR] at h; exact Qpt (fun f hm=>hf f (by simp [hm])) h
theorem QBC {f:Nat}{θ:List Ex}{K:Out→Nat→SS→T α}:∀ (l:List Out) (j:Nat) (z:Sm (l.map Out.ts)),
  (∀ k o env',l[k]?=some o→Qg4 env' (l.map Out.ts) z k s.nx→Agree s.nx env env'→
   Ok m (K o s.nx { s with nx:=s.nx+o.ts.length,fs:=.call f θ (j+k) s.nx o.ts.length::s.fs }) env' Q)→OkA m (alts f θ s K l j) (l.map Out.ts) z s.nx env Q
 | [],j,z,h=>z.elim
 | [o],j,z,h=>by
  simp only [List.map_cons,List.map_nil,alts,OkA]
  exact h 0 o _ rfl (Qe4 o.ts env s.nx z) (QdF o.ts env s.nx z)
 | o::o2::l,j,.inl p,h=>by
  simp only [List.map_cons,alts,OkA]
  exact h 0 o _ rfl (Qe4 o.ts env s.nx p) (QdF o.ts env s.nx p)
 | o::o2::l,j,.inr y,h=>by
  have:=QBC (o2::l) (j+1) y fun k o' env' hk ha hg=>by
   have:=h (k+1) o' env' (by simpa using hk) ha hg
   rw [show j+(k+1)=j+1+k by omega] at this
   exact this
  simp only [List.map_cons,alts,OkA] at this ⊢
  exact this
theorem Qpu {f:Nat}{θ:List Ex}{pend:List SV}{K:Out→Nat→SS→T α}(hi:Inv m env s)
  (hk:∀ env' o n j s' z,m f (mkPr env' (tb.P f) θ)=some z→Qg4 env' (tb.O f) z j n→(tb.fam f).outs[j]?=some o→ExtH m env s env' s'→SV.embL env' pend=SV.embL env pend→
   (∀ e∈θ,∀ t,e.den env' t=e.den env t)→Ok m (K o n s') env' Q):Ok m (QrK tb f θ pend s K) env Q:=by
 unfold QrK
 split
 ·rename_i j n hl
  obtain ⟨z,h1,h2⟩:=Qpt hi hl
  split
  ·rename_i o ho
   exact hk env o n j s z h1 h2 ho (.refl hi) rfl (fun _ _ _=>rfl)
  ·simp only [Ok]
 ·split
  ·rename_i hb
   obtain ⟨h1,h2⟩:=Qan hb
   obtain ⟨h2,h3⟩:=Qan h2
   simp only [Ok]
   intro z hz
   refine QBC (tb.fam f).outs 0 z fun k o env' hk' ha hg=>?_
   have hpr:mkPr env' (tb.P f) θ=mkPr env (tb.P f) θ:=(QiG hg _ _ h3).symm
   refine hk env' o s.nx k _ z (by rw [hpr]; exact hz) ha hk' ⟨⟨?_,by simp,hg,rfl,(QtC hg h1).1⟩,rfl,(QtC hg h1).2⟩ (QdH hg h2).symm fun e he t=>(QaB hg (List.all_eq_true.mp h3 e he) t).symm
   refine Inv.add (s:={ s with nx:=s.nx+o.ts.length }) (fun g hg'=>Qqx hg h1 hi g hg') ?_
   refine ⟨z,by rw [hpr]; exact hz,by rw [Nat.zero_add]; exact ha,o.ts,?_,rfl⟩
   show ((tb.fam f).outs.map Out.ts)[0+k]?=some o.ts
   rw [Nat.zero_add,List.getElem?_map,hk']
   rfl
  ·simp only [Ok]
theorem QiK:∀ {l:List Nat} {fr:SF} {H:SH} {θ:List (Ty×Ex)} {i:Nat},QkM tb l fr H θ=some i→(tb.fam i).fr=fr∧(tb.fam i).H=H∧(tb.fam i).ps=θ.map (·.1)
 | [],_,_,_,_,h=>by simp [QkM] at h
 | j::l,fr,H,θ,i,h=>by
  simp only [QkM] at h
  split at h
  ·rename_i hb
   simp only [osi] at h
   subst h
   obtain ⟨h1,h2⟩:=Qan hb
   obtain ⟨h2,h3⟩:=Qan h2
   exact ⟨Qmf h1,QnY h2,Qx1 h3⟩
  ·exact QiK h
theorem QkT {i:Nat}{fr fr':SF}{H H':SH}{θ:List (Ty×Ex)}(h:absS fr H=some (fr',H',θ))(h1:(tb.fam i).fr=fr')(h2:(tb.fam i).H=H')(h3:(tb.fam i).ps=θ.map (·.1))(env:Env):
  embF (env0 (tb.P i) (mkPr env (tb.P i) (θ.map (·.2)))) (tb.fam i).fr=embF env fr∧embH (env0 (tb.P i) (mkPr env (tb.P i) (θ.map (·.2)))) (tb.fam i).H=embH env H:=by
 rw [h1,h2]
 refine QtL h fun k t e hk=>?_
 have hp:(tb.P i)[k]?=some t:=by
  show (tb.fam i).ps[k]?=some t
  rw [h3,List.getElem?_map,hk]
  rfl
 have:=QtM env (tb.P i) (θ.map (·.2)) Env.none 0 k t hp
 rw [Nat.zero_add] at this
 rw [show env0 (tb.P i) (mkPr env (tb.P i) (θ.map (·.2))) k t=_ from this]
 congr 1
 rw [List.getD_eq_getElem?_getD,List.getElem?_map,hk]
 rfl
theorem Qju:∀ {ts:List Ty} {vs:List SV} {θ:List Ex} {k:Nat} {e:Env},Qf1 ts vs=some θ→(∀ i t,ts[i]?=some t→e (k+i) t=(θ.getD i .un).den env t)→SV.embL e (Qwm ts k)=SV.embL env vs
 | [],[],θ,k,e,h,he=>rfl
 | t::ts,v::vs,θ,k,e,h,he=>by
  simp only [Qf1] at h
  split at h
  ·rename_i x es h1 h2
   simp only [osi] at h
   subst h
   have e1:e k t=x.den env t:=he 0 t rfl
   show (sval t (.v k)).emb e::SV.embL e (Qwm ts (k+1))=v.emb env::SV.embL env vs
   rw [QtA,QmY env h1,Qju h2 fun i u hu=>by
    have:=he (i+1) u (by simpa using hu)
    rw [show k+1+i=k+(i+1) by omega]
    exact this]
   show valT t (e k t)::_=_
   rw [e1]
  ·cases h
 | [],_::_,θ,k,e,h,he=>by simp [Qf1] at h
 | _::_,[],θ,k,e,h,he=>by simp [Qf1] at h
theorem Qsw (p:List AV→Option AV)(args:List AV)(H:Heap):Qjh p args H=
  (mapM' (Qaj H 12) args).bind fun fs=>(p fs).bind fun v=>if Qhp 8 v=true then some (v,H) else (QbT (args.flatMap (frozenIn 12)) H).bind fun H=>some (v,H):=by
 unfold Qjh
 cases mapM' (Qaj H 12) args with
 | none=>rfl
 | some fs=>
  simp only [Option.bind_some]
  cases p fs with
  | none=>rfl
  | some v=>
   simp only [Option.bind_some]
   cases Qhp 8 v with
   | true=>rfl
   | false=>
    simp only
    cases QbT (args.flatMap (frozenIn 12)) H<;>rfl
theorem Qjv (env:Env)(l:List SV):(SV.embL env l).flatMap (frozenIn 12)=l.flatMap (QfZ 12):=by
 rw [Qa9,List.flatMap_map]
 congr 1
 funext v
 exact QhE env 12 v
variable {K:SV→SS→T α}
noncomputable def Qn5 (c:Ctx)(rec:Task→Option Res)(f:FuncId)(args:List AV)(H:Heap):Option (AV×Heap):=match c.prim f with
 | .pure p=>Qjh p args H
 | _=>Qhv rec f args H
theorem QqF (env:Env):∀ (k:Nat) (l:List SV),(embF env (argF k l)).map (·.2)=SV.embL env l
 | _,[]=>rfl
 | k,v::l=>by
  show v.emb env::(embF env (argF (k+1) l)).map (·.2)=v.emb env::SV.embL env l
  rw [QqF env (k+1) l]
theorem Qzl {f:FuncId}{fs:List SV}{fam:Nat}{θ:List Ex}(h:Qwn tb f fs=some (fam,θ)){env':Env}(hp:SV.embL env' fs=SV.embL env fs)(hθ':∀ e∈θ,∀ t,e.den env' t=e.den env t):
  (embF (env0 (tb.P fam) (mkPr env' (tb.P fam) θ)) (tb.fam fam).fr).map (·.2)=SV.embL env fs:=by
 unfold Qwn at h
 split at h
 ·rename_i fam' hfam
  split at h
  ·rename_i θ2 hθ
   split at h
   ·rename_i b3
    simp only [osi,Prod.mk.injEq] at h
    obtain ⟨rfl,rfl⟩:=h
    rw [Qqu,Qe0 b3]
    refine Qju hθ fun i t ht=>?_
    have:=QtM env' (tb.P fam') θ2 Env.none 0 i t ht
    rw [show (0+i)=i by omega] at this ⊢
    rw [show env0 (tb.P fam') (mkPr env' (tb.P fam') θ2) i t=_ from this]
    cases hg:θ2[i]? with
    | none=>rw [List.getD_eq_getElem?_getD,hg]; rfl
    | some x=>
     rw [List.getD_eq_getElem?_getD,hg]
     exact hθ' x (List.mem_of_getElem? hg) t
   ·cases h
  ·cases h
 ·split at h
  ·rename_i fr H θ2 ha
   split at h
   ·rename_i fam' hfam
    simp only [osi,Prod.mk.injEq] at h
    obtain ⟨rfl,rfl⟩:=h
    obtain ⟨f1,f2,f3⟩:=QiK hfam
    obtain ⟨g1,_⟩:=QkT (tb:=tb) (i:=fam') ha f1 f2 f3 env'
    rw [g1,QqF,hp]
   ·cases h
  ·cases h
theorem Qyd (hs:Sound c rec tb m){f:FuncId}{args fs:List SV}(hi:Inv m env s)(hf:mapM' (Qaj (embH env s.H) 12) (SV.embL env args)=some (SV.embL env fs))
  (hk:Next m (Qn5 c rec f (SV.embL env args) (embH env s.H)) env s K Q):Ok m (QAy tb f args fs s K) env Q:=by
 unfold QAy
 refine Qau fun q hq=>QbR fun hb=>?_
 obtain ⟨fam,θ⟩:=q
 obtain ⟨b1,b2⟩:=Qan hb
 refine Qpu hi fun env' o n j s1 z hz ha ho e1 hp hθ'=>?_
 have hm:=hs fam _ z hz env' θ n j o rfl ha ho
 have hp2:SV.embL env' fs=SV.embL env fs:=by
  rw [QmX,QmX] at hp
  exact (List.append_inj hp (by simp [Qa9])).2
 have hargs:=Qzl (env:=env) hq hp2 hθ'
 have hkind:(tb.fam fam).kind=0∨(tb.fam fam).kind=3:=by
  rcases Bool.or_eq_true _ _ |>.mp b1 with h |h
  ·exact .inl (Qcl h)
  ·exact .inr (Qcl h)
 have hm':match c.prim (tb.fam fam).f with
  | .pure p=>p (SV.embL env fs)=some ((getZ (o.state θ n).1).emb env')
  | _=>∃ H',rec (.pfn (tb.fam fam).f (SV.embL env fs))=some (.val ((getZ (o.state θ n).1).emb env') H'):=by
  unfold Qhr at hm
  have hz':Fr.get (embF env' (o.state θ n).1) 0=(getZ (o.state θ n).1).emb env':=(Qgw env' _ 0).symm
  rw [hz'] at hm
  rcases hkind with h |h<;>(rw [h] at hm; simp only [hargs] at hm; exact hm)
 rw [Qcl b2] at hm'
 have res:Qn5 c rec f (SV.embL env args) (embH env s.H)=if QuS 8 (getZ (o.state θ n).1)=true then some ((getZ (o.state θ n).1).emb env',embH env s.H) else (QbT (args.flatMap (QfZ 12)) (embH env s.H)).bind fun H=>some ((getZ (o.state θ n).1).emb env',H):=by
  unfold Qn5
  cases hpr:c.prim f with
  | pure p=>
   rw [hpr] at hm'
   simp only at hm' ⊢
   rw [Qsw,hf,Option.bind_some,hm',Option.bind_some,QiI,Qjv]
  | no=>
   rw [hpr] at hm'
   obtain ⟨H',hm'⟩:=hm'
   simp only
   rw [Qsq,hf,Option.bind_some,hm',Option.bind_some,QAX,QiI,Qjv]
  | clone e=>
   rw [hpr] at hm'
   obtain ⟨H',hm'⟩:=hm'
   simp only
   rw [Qsq,hf,Option.bind_some,hm',Option.bind_some,QAX,QiI,Qjv]
 simp only
 split
 ·rename_i hfl
  rw [if_pos hfl] at res
  exact hk.same e1 res
 ·rename_i hfl
  rw [if_neg (by rw [hfl]; simp)] at res
  refine Qau fun H hH=>hk env' _ _ ?_ (e1.toExt.setH _)
  rw [res,← e1.emH,← e1.H,Qmh hH]
  rfl
theorem QkU (env:Env)(τ:Nat→Nat):∀ (l:List Nat) (H' H:SH),((embH env H').drop l.length,laid τ l (embH env H') (embH env H))=(embH env (Qg0 τ l H' H).1,embH env (Qg0 τ l H' H).2)
 | [],H',H=>rfl
 | b::l,[],H=>by
  have:=QkU env τ l [] H
  simp only [Prod.mk.injEq] at this
  show (([]:Heap).drop (l.length+1),laid τ l [] (embH env H))=(embH env (Qg0 τ l [] H).1,embH env (Qg0 τ l [] H).2)
  rw [← this.2,← this.1]
  simp [embH]
 | b::l,x::H',H=>by
  have:=QkU env τ l H' (H.set b (x.ren τ))
  rw [QhC,← QlA] at this
  exact this
theorem QBD (hs:Sound c rec tb m){f:FuncId}{args:List SV}(hi:Inv m env s)(hk:Next m (Qjg rec f (SV.embL env args) (embH env s.H)) env s K Q):Ok m (rawT tb f args s K) env Q:=by
 unfold rawT
 refine Qau fun seen hseen=>?_
 simp only
 refine Qau fun p hp=>?_
 obtain ⟨fr,H,θ⟩:=p
 simp only
 refine Qau fun fam hfam=>QbR fun hb=>?_
 obtain ⟨b1,b2⟩:=Qan hb
 obtain ⟨f1,f2,f3⟩:=QiK hfam
 refine Qpu hi fun env' o n j s1 z hz ha ho e1 hpend hθ'=>?_
 have hm:=hs fam _ z hz env' _ n j o rfl ha ho
 obtain ⟨g1,g2⟩:=QkT (tb:=tb) (i:=fam) hp f1 f2 f3 env'
 unfold Qhr at hm
 rw [Qcl b1] at hm
 simp only [g1,g2,Qcl b2,QqF] at hm
 have hz':Fr.get (embF env' (o.state (θ.map (·.2)) n).1) 0=(getZ (o.state (θ.map (·.2)) n).1).emb env':=(Qgw env' _ 0).symm
 rw [hz'] at hm
 refine hk env' _ _ ?_ (e1.toExt.setH _)
 rw [← e1.emH,← hpend,QA1,Qu9,hseen,Option.bind_some,QeF,Qx8,Qx7,hm,Option.bind_some,QAX,Qjl,Qsa]
 have hbk:=QkU env' (Qd2 seen seen.length s.H.length) seen (o.state (θ.map (·.2)) n).2 s.H
 simp only [Prod.mk.injEq] at hbk
 rw [Qba,hbk.1,hbk.2,show Ev.ren (Qd2 seen seen.length s.H.length) ((getZ (o.state (θ.map (·.2)) n).1).emb env')=_ from Qm2 env' _ 8 _,e1.H,QdI]
 congr 2
 congr 1
 simp only [embH,List.map_map,Function.comp_def]
 exact List.map_congr_left fun b _=>QlA env' _ b
theorem Qvg {H:Heap}:∀ {l:List AV} {r:List AV},mapM' (Qaj H 12) l=some r→(l.all fun v=>(Qaj H 12 v).isSome)=true
 | [],r,h=>rfl
 | v::l,r,h=>by
  rw [mapM'_cons,Qjp] at h
  cases h1:Qaj H 12 v with
  | none=>rw [h1] at h; simp at h
  | some x=>
   rw [h1,Option.bind_some] at h
   cases h2:mapM' (Qaj H 12) l with
   | none=>rw [h2] at h; simp at h
   | some y=>simp only [List.all_cons,h1,Option.isSome_some,Bool.true_and]; exact Qvg h2
theorem Qvh {H:Heap}:∀ {l:List AV},mapM' (Qaj H 12) l=none→(l.all fun v=>(Qaj H 12 v).isSome)=false
 | [],h=>by simp [mapM'_nil] at h
 | v::l,h=>by
  rw [mapM'_cons,Qjp] at h
  cases h1:Qaj H 12 v with
  | none=>simp only [List.all_cons,h1,Option.isSome_none,Bool.false_and]
  | some x=>
   rw [h1,Option.bind_some] at h
   cases h2:mapM' (Qaj H 12) l with
   | none=>simp only [List.all_cons,Qvh h2,Bool.and_false]
   | some y=>rw [h2] at h; simp at h
theorem Qpv (hs:Sound c rec tb m){f:FuncId}{args:List SV}(hi:Inv m env s)(hk:Next m (QjT c rec f (SV.embL env args) (embH env s.H)) env s K Q):Ok m (Qii c tb f args s K) env Q:=by
 have pure:∀ {fs:List SV} {g:List Ex},QnN s.H args=some (fs,g)→QjT c rec f (SV.embL env args) (embH env s.H)=Qn5 c rec f (SV.embL env args) (embH env s.H)→Ok m (guards g s fun s=>QAy tb f args fs s K) env Q:=fun {fs g} h he=>by
  refine QcQ hi fun s1 hg e1=>?_
  have hf:=Qlz (env:=env) 12 h hg
  refine Qyd hs e1.inv (by rw [e1.H]; exact hf) ?_
  intro env' v s' hr e2
  refine hk env' v s' ?_ (e1.toExt.trans e2)
  rw [he,← e1.H]
  exact hr
 unfold Qii
 split
 ·rename_i e he
  rw [QwD c rec f _ _ e he] at hk
  exact QBu hi hk
 ·rename_i p hp
  refine Qau fun q hq=>?_
  obtain ⟨fs,g⟩:=q
  refine pure hq ?_
  unfold QjT Qn5
  rw [hp]
 ·rename_i hno
  split
  ·rename_i hr
   rw [Qty c rec f _ _ hno,hr,Bool.true_or,if_pos rfl] at hk
   exact QBD hs hi hk
  ·rename_i hr
   split
   ·rename_i hn
    have:((SV.embL env args).all fun v=>(Qaj (embH env s.H) 12 v).isSome)=false:=Qvh (QkR 12 hn)
    rw [Qty c rec f _ _ hno,hr,this,Bool.not_false,Bool.or_true,if_pos rfl] at hk
    exact QBD hs hi hk
   ·rename_i fs g hq
    refine QcQ hi fun s1 hg e1=>?_
    have hf:=Qlz (env:=env) 12 hq hg
    refine Qyd hs e1.inv (by rw [e1.H]; exact hf) ?_
    intro env' v s' hr' e2
    refine hk env' v s' ?_ (e1.toExt.trans e2)
    rw [Qty c rec f _ _ hno,hr,Qvg hf,← e1.H,← hr']
    unfold Qn5
    rw [hno]
    rfl
theorem Qvi (env:Env)(fr:SF)(l:List (Nat×Operand)):(l.map fun p=>(p.1,opvS fr p.2)).map (fun p=>(p.1,p.2.emb env))=l.map fun p=>(p.1,opv (embF env fr) p.2):=by
 rw [List.map_map]
 exact List.map_congr_left fun p _=>by simp only [Function.comp_apply,QaC]
theorem QtN (env:Env)(fr:SF)(l:List Operand):SV.embL env (l.map (opvS fr))=l.map (opv (embF env fr)):=by
 rw [Qa9,List.map_map]
 exact List.map_congr_left fun p _=>QaC env fr p
theorem Qye (env:Env)(fr:SF)(l:Option Operand):(l.map (opvS fr)).map (SV.emb env)=l.map (opv (embF env fr)):=by
 cases l with
 | none=>rfl
 | some x=>simp only [Option.map_some,QaC]
theorem QBE (hs:Sound c rec tb m){cl:Call}(hi:Inv m env s)(hk:Next m (Qjj c rec cl (embF env s.fr) (embH env s.H)) env s K Q):Ok m (QAK c tb cl s K) env Q:=by
 unfold QAK
 unfold Qjj at hk
 split
 ·rename_i f hf
  rw [hf] at hk
  simp only at hk
  split
  ·rename_i g caps hg
   rw [← QaC,hg] at hk
   refine Qpv hs hi ?_
   rw [QmX,QtN]
   exact hk
  ·simp only [Ok]
 ·rename_i b hb
  rw [hb] at hk
  simp only at hk
  refine QwS hi ?_
  rw [QtN]
  exact hk
 ·simp only [Ok]
theorem QtO {d:TD}{tk:Ty}(h:keyT d tk=true)(a b:tk.D):Qfo d (valT tk a) (valT tk b)=some (keyD tk a b):=by
 cases tk with
 | int k=>
  cases d<;>simp only [keyT,reduceCtorEq] at h
  show (match decide (k=k) with |true=>some (eqI a b) |false=>none)=_
  rw [decide_eq_true rfl]
  rfl
 | bool=>
  cases d<;>simp only [keyT,reduceCtorEq] at h
  rfl
 | str=>
  cases d<;>simp only [keyT,reduceCtorEq] at h
  show some ((a:List UInt8)==b)=some (decide (a=b))
  congr 1
  by_cases hab:a=b
  ·subst hab
   rw [decide_eq_true rfl]
   exact beq_self_eq_true _
  ·rw [decide_eq_false hab]
   exact beq_eq_false_iff_ne.mpr hab
 | _=>cases d<;>simp [keyT] at h
def QkV (tk tv:Ty)(l:List (tk.D×tv.D)):List (AV×AV):=l.map fun p=>(valT tk p.1,valT tv p.2)
theorem Qvj {d:TD}{tk:Ty}(h:keyT d tk=true)(tv:Ty)(x:tk.D)(z:tv.D):∀ l:List (tk.D×tv.D),QoC d (valT tk x) (QkV tk tv l)=some (match hasD tk tv l x with |true=>some (valT tv (findD tk tv l x z)) |false=>none)
 | []=>rfl
 | p::l=>by
  have ih:=Qvj h tv x z l
  show (match Qfo d (valT tk x) (valT tk p.1) with |none=>none |some true=>some (some (valT tv p.2)) |some false=>QoC d (valT tk x) (QkV tk tv l))=_
  rw [QtO h,hasD,findD]
  cases keyD tk x p.1 with
  | true=>rfl
  | false=>
   simp only [Bool.false_or]
   exact ih
theorem Qvk {tk tv:Ty}{x:tk.D}{z:tv.D}:∀ {l:List (tk.D×tv.D)},hasD tk tv l x=false→findD tk tv l x z=z
 | [],_=>rfl
 | p::l,h=>by
  rw [hasD] at h
  cases hk:keyD tk x p.1 with
  | true=>rw [hk] at h; cases h
  | false=>
   rw [hk] at h
   rw [findD,hk]
   exact Qvk h
theorem Qyf {d:TD}{tk:Ty}(h:keyT d tk=true)(tv:Ty)(x:tk.D)(y:tv.D):∀ l:List (tk.D×tv.D),Quw d (valT tk x) (valT tv y) (QkV tk tv l)=some (QkV tk tv (putD tk tv l x y))
 | []=>rfl
 | p::l=>by
  have ih:=Qyf h tv x y l
  show (match Qfo d (valT tk x) (valT tk p.1) with |none=>none |some true=>some ((valT tk p.1,valT tv y)::QkV tk tv l) |some false=>match Quw d (valT tk x) (valT tv y) (QkV tk tv l) with |none=>none |some r=>some ((valT tk p.1,valT tv p.2)::r))=_
  rw [QtO h,putD]
  cases keyD tk x p.1 with
  | true=>rfl
  | false=>
   simp only [ih]
   rfl
theorem Qyg {d:TD}{tk:Ty}(h:keyT d tk=true)(x:tk.D):Qs0 d (valT tk x)=true:=by
 unfold Qs0
 rw [QtO h]
theorem QDw (env:Env){i:TI}{t:Ty}{e:Ex}(h:zeroV i t=some e):pack i i.zero=some (valT t (e.den env t)):=by
 unfold zeroV at h
 split at h
 ·rename_i b hk ha hz
  split at h
  ·simp only [osi] at h
   subst h
   unfold pack
   rw [hk,ha,hz]
   rfl
  ·cases h
 ·rename_i j n hk ha hz
  split at h
  ·rename_i k
   split at h
   ·rename_i hj
    simp only [osi] at h
    subst h
    unfold pack
    rw [hk,ha,hz,QjV hj]
    rfl
   ·cases h
  ·cases h
 ·rename_i x hk ha hz
  split at h
  ·simp only [osi] at h
   subst h
   unfold pack
   rw [hk,ha,hz]
   rfl
  ·cases h
 ·cases h
theorem Qzm (env:Env){i:TI}{H:SH}{x ix:SV}{ok:Bool}{v:SV}(h:Qwr c i H x ix ok=some v):Qln c i (x.emb env) (ix.emb env) ok (embH env H)=some (v.emb env):=by
 unfold Qwr at h
 split at h
 ·rename_i kt e b hd
  split at h
  ·rename_i tk tv m hb
   split at h
   ·rename_i hkt
    split at h
    ·rename_i k z hk hz
     unfold Qln
     rw [hd]
     have he:entriesOf (embH env H) ((SV.map b).emb env)=some (QkV tk tv (m.den env (.lst (.pair tk tv)))):=by
      show (match (embH env H)[b]? with |some (.map es)=>some es |_=>none)=_
      rw [Qck,hb]
      rfl
     simp only
     rw [he,QmY env hk,Qyg hkt]
     simp only
     rw [Qvj hkt tv (k.den env tk) (z.den env tv)]
     simp only
     have e2:(Ex.o3 (.mget tk) m k z).den env tv=findD tk tv (m.den env (.lst (.pair tk tv))) (k.den env tk) (z.den env tv):=rfl
     have e3:(Ex.o2 (.has tk tv) m k).den env .bool=hasD tk tv (m.den env (.lst (.pair tk tv))) (k.den env tk):=rfl
     have e4:(sval tv (.o3 (.mget tk) m k z)).emb env=valT tv (findD tk tv (m.den env (.lst (.pair tk tv))) (k.den env tk) (z.den env tv)):=by rw [QtA,e2]
     cases hh:hasD tk tv (m.den env (.lst (.pair tk tv))) (k.den env tk) with
     | true=>
      simp only
      cases ok with
      | true=>
       simp only [osi] at h
       subst h
       show some (AV.tup [_,_])=some (AV.tup [(sval tv (.o3 (.mget tk) m k z)).emb env,AV.bool ((Ex.o2 (.has tk tv) m k).den env .bool)])
       rw [e3,hh,e4]
       rfl
      | false=>
       simp only [osi] at h
       subst h
       rw [e4]
     | false=>
      simp only
      rw [Qvk hh] at e4
      rw [QDw env hz]
      simp only
      cases ok with
      | true=>
       simp only [osi] at h
       subst h
       show some (AV.tup [_,_])=some (AV.tup [(sval tv (.o3 (.mget tk) m k z)).emb env,AV.bool ((Ex.o2 (.has tk tv) m k).den env .bool)])
       rw [e3,hh,e4]
       rfl
      | false=>
       simp only [osi] at h
       subst h
       rw [e4]
    ·cases h
   ·cases h
  ·cases h
 ·cases h
theorem QtP {t:Ty}(h:QAJ t=true)(x:t.D)(H:Heap):QeU H (valT t x)=some (valT t x,H):=by
 cases t<;>first |rfl |(simp [QAJ] at h)
theorem QsC (env:Env){i:TI}{H H':SH}{x k v:SV}(h:Qts c i H x k v=some H'):QmF c i (x.emb env) (k.emb env) (v.emb env) (embH env H)=some (.tup [],embH env H'):=by
 unfold Qts at h
 split at h
 ·rename_i kt e b hd
  split at h
  ·rename_i tk tv m hb
   split at h
   ·rename_i hkt
    obtain ⟨h1,h2⟩:=Qan hkt
    split at h
    ·rename_i ke ve hk hv
     simp only [osi] at h
     subst h
     have hg:(embH env H)[b]?=some (.map (QkV tk tv (m.den env (.lst (.pair tk tv))))):=by rw [Qck,hb]; rfl
     unfold QmF
     rw [hd]
     show (match QeU (embH env H) (v.emb env) with |none=>none |some (v,H)=>match H[b]? with
      | some (.map es)=>match Qs0 (c.ty kt).d (k.emb env) with
       | true=>match Quw (c.ty kt).d (k.emb env) v es with |some es=>fSp es fun es=>fSp (H.set b (.map es)) fun H=>some (AV.tup [],H) |none=>none
       | false=>none
      | _=>none)=_
     rw [QmY env hk,QmY env hv,QtP h2]
     simp only
     rw [hg]
     simp only
     rw [Qyg h1]
     simp only
     rw [Qyf h1]
     simp only [Qat]
     rw [QhC]
     rfl
    ·cases h
   ·cases h
  ·cases h
 ·cases h
theorem QGg (hs:Sound c rec tb m){o:Oper}(hi:Inv m env s)(hk:Next m (evOp c rec o (embF env s.fr) (embH env s.H)) env s K Q):Ok m (opS c tb o s K) env Q:=by
 unfold opS
 unfold evOp at hk
 cases ho:o.op<;>simp only [ho] at hk ⊢<;>try (simp only [Ok]; done)
 case lookup t x ix ok=>
  refine Qau fun v hv=>hk.pure hi ?_
  rw [← QaC,← QaC]
  exact Qzm env hv
 case mapUpdate t m k v=>
  refine Qau fun H hH=>hk env _ _ ?_ ((ExtH.refl hi).toExt.setH _)
  rw [← QaC,← QaC,← QaC]
  exact QsC env hH
 case insert t m k v=>
  refine Qau fun H hH=>hk env _ _ ?_ ((ExtH.refl hi).toExt.setH _)
  rw [← QaC,← QaC,← QaC]
  exact QsC env hH
 ·rename_i x
  exact hk.same (.refl hi) (by rw [QaC])
 ·rename_i x
  exact hk.same (.refl hi) (by rw [QaC])
 ·exact QDt hi (by simp only [QaC]; exact hk)
 ·exact QBw hi hk
 ·exact QEY hi (by simp only [QaC]; exact hk)
 ·refine Qau fun v hv=>hk.pure hi ?_
  rw [← Qvi]
  exact QBq env hv
 ·refine QrN hi ?_
  rw [Qvi]
  exact hk
 ·exact Qya hi (by simp only [QaC]; exact hk)
 ·rename_i t a v
  refine QBr hi fun env' s' h e=>hk env' _ s' ?_ e
  simp only [QaC] at h
  rw [QA6,h]
  rfl
 ·refine Qau fun v hv=>hk.pure hi ?_
  rw [← QaC]
  exact Qvb env hv
 ·refine Qau fun p hp=>?_
  obtain ⟨v,g⟩:=p
  refine Qlx hi fun s1 hg e1=>hk.same e1 ?_
  rw [← QaC,← QaC,QBo env hp hg]
  rfl
 ·refine Qau fun v hv=>hk.pure hi ?_
  rw [← QaC]
  exact QDq env hv
 ·refine Qau fun v hv=>hk.pure hi ?_
  rw [← QaC]
  exact QwN env hv
 ·refine Qau fun v hv=>hk.pure hi ?_
  rw [← QaC]
  exact QBx env hv
 ·refine Qau fun v hv=>hk.pure hi ?_
  rw [← QtN]
  exact Qvc env hv
 ·refine QwT hi ?_
  rw [Qye]
  exact hk
 ·exact QtH hi (by simp only [QaC]; exact hk)
 ·refine QBt hi ?_
  simp only [Qye,QaC]
  exact hk
 ·refine Qau fun v hv=>hk.pure hi ?_
  rw [← QaC]
  exact QtI env hv
 ·refine Qau fun v hv=>hk.pure hi ?_
  rw [← QaC]
  exact QBy env hv
 ·exact QtJ hi (by simp only [QaC]; exact hk)
 ·exact QBz hi (by simp only [QaC]; exact hk)
 ·refine Qau fun v hv=>hk.pure hi ?_
  rw [← QaC]
  exact QwV env hv
 ·exact QBE hs hi hk
theorem Qzn {ops:Array Oper}{o:Oper}{K:Bool→SS→T α}(hi:Inv m env s)
  (hk:∀ w s',Qa4 ops o (embF env s.fr)=some w→ExtH m env s env s'→Ok m (K w s') env Q):Ok m (Qws ops o s K) env Q:=by
 unfold Qws
 unfold Qa4 at hk
 split
 ·rename_i hg
  exact hk true s (by rw [hg]) (.refl hi)
 ·rename_i j want hg
  split
  ·rename_i d hd
   simp only [hg,hd] at hk
   split
   ·rename_i e he
    rw [← Qgw,he] at hk
    refine Qm0 hi fun b s1 hb e1=>hk _ s1 ?_ e1
    simp only [SV.emb,hb]
    cases b<;>cases want<;>rfl
   ·rename_i vs he
    rw [← Qgw,he] at hk
    exact hk false s rfl (.refl hi)
   ·simp only [Ok]
  ·simp only [Ok]
structure Qe5 (m:(f:Nat)→Pr (tb.P f)→Option (Sm (tb.O f)))(env:Env)(s:SS)(env':Env)(s':SS):Prop where
 inv:Inv m env' s'
 nx:s.nx≤s'.nx
 agr:Agree s.nx env env'
theorem Qe5.trans {e1 e2 e3:Env}{s1 s2 s3:SS}(h:Qe5 m e1 s1 e2 s2)(k:Qe5 m e2 s2 e3 s3):Qe5 m e1 s1 e3 s3:=⟨k.inv,Nat.le_trans h.nx k.nx,h.agr.trans k.agr h.nx⟩
theorem Ext.later {e1 e2:Env}{s1 s2:SS}(h:Ext m e1 s1 e2 s2):Qe5 m e1 s1 e2 s2:=⟨h.inv,h.nx,h.agr⟩
theorem Qe5.refl (hi:Inv m env s):Qe5 m env s env s:=⟨hi,Nat.le_refl _,Agree.refl⟩
theorem QtQ (hs:Sound c rec tb m){n:Nat}{ops:Array Oper}{o:Oper}{K:Bool→SS→T α}(hi:Inv m env s)
  (hk:∀ env' w s',Qa4 ops o (embF env s.fr)=some w→Qce c rec n ops o (s.emb env)=some (s'.emb env')→Qe5 m env s env' s'→Ok m (K w s') env' Q):Ok m (stepT c tb n ops o s K) env Q:=by
 unfold stepT
 split
 ·simp only [Ok]
 ·rename_i hd
  refine Qzn hi fun w s1 hw e1=>?_
  have hst:s.emb env=⟨embF env s.fr,embH env s.H⟩:=rfl
  split
  ·refine hk env false _ hw ?_ ⟨e1.inv,e1.nx,e1.agr⟩
   rw [QxX,if_pos hd,hst]
   simp only [hw,Option.bind_some]
   rw [if_neg (by simp)]
   simp only [SS.emb,Qx5,e1.fr,e1.H]
   rfl
  ·refine QGg hs e1.inv fun env' v s2 h2 e2=>?_
   refine hk env' true _ hw ?_ ((e1.toExt.later).trans ⟨e2.inv,e2.nx,e2.agr⟩)
   rw [QxX,if_pos hd,hst]
   simp only [hw,Option.bind_some,if_true]
   rw [e1.fr,e1.H] at h2
   rw [h2,Option.bind_some]
   have hF:=e2.emF
   rw [e1.fr] at hF
   simp only [SS.emb,Qx5,e2.fr,e1.fr,hF]
theorem Qpw (hs:Sound c rec tb m){n:Nat}{ops:Array Oper}{K:SS→T α}:∀ {l:List Oper} {env:Env} {s:SS},Inv m env s→
  (∀ env' s',QbU c rec n ops l (s.emb env)=some (s'.emb env')→Qe5 m env s env' s'→Ok m (K s') env' Q)→Ok m (QyW c tb n ops l s K) env Q
 | [],env,s,hi,hk=>hk env s rfl (.refl hi)
 | o::l,env,s,hi,hk=>by
  unfold QyW
  refine QtQ hs hi fun env1 w s1 hw h1 e1=>?_
  refine Qpw hs e1.inv fun env2 s2 h2 e2=>hk env2 s2 ?_ (e1.trans e2)
  rw [QC9,h1,Option.bind_some,h2]
end
end Go.Sy
