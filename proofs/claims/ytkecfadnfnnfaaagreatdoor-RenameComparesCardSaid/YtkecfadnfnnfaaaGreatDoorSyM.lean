/- Symbolic runs: calls, operations, steps. -/
import Derived.Test.YtkecfadnfnnfaaaGreatDoorSyL
set_option linter.unusedVariables false
set_option linter.unusedSimpArgs false
namespace Go.Sy
open Go Go.Ev
def env0 (ps:List Ty)(x:Pr ps):Env:=Env.setP ps Env.none 0 x
theorem Qwq (ts:List Ty)(env:Env)(n:Nat)(x:Pr ts)(i:Nat)(h:i<n)(t:Ty):Env.setP ts env n x i t=env i t:=(Qdp ts env n x i h t).symm
theorem QtB (env:Env):∀ (ts:List Ty) (θ:List Ex) (base:Env) (k i:Nat) (t:Ty),ts[i]?=some t→Env.setP ts base k (mkPr env ts θ) (k+i) t=(θ.getD i .un).den env t
 | [],θ,base,k,i,t,h=>by simp at h
 | [a],θ,base,k,i,t,h=>by
  cases i with
  | zero=>
   simp only [List.getElem?_cons_zero,Option.some.injEq] at h
   subst h
   show (base.set k a (mkPr env [a] θ)) k a=_
   rw [QeK]
   cases θ<;>rfl
  | succ i=>simp at h
 | a::b::l,θ,base,k,i,t,h=>by
  cases i with
  | zero=>
   simp only [List.getElem?_cons_zero,Option.some.injEq] at h
   subst h
   show Env.setP (b::l) (base.set k a (mkPr env (a::b::l) θ).1) (k+1) (mkPr env (a::b::l) θ).2 k a=_
   rw [Qwq (b::l) _ _ _ k (Nat.lt_succ_self k),QeK]
   cases θ<;>rfl
  | succ i=>
   simp only [List.getElem?_cons_succ] at h
   show Env.setP (b::l) (base.set k a (mkPr env (a::b::l) θ).1) (k+1) (mkPr env (a::b::l) θ).2 (k+(i+1)) t=_
   have:(mkPr env (a::b::l) θ).2=mkPr env (b::l) θ.tail:=by cases θ<;>rfl
   rw [this,show k+(i+1)=k+1+i by omega,QtB env (b::l) θ.tail _ (k+1) i t h]
   cases θ with
   | nil=>rfl
   | cons e es=>rfl
section
variable (c:Ctx) (rec:Task→Option Res) (tb:Tab)
def Qhl (q:Fam)(e0:Env)(ex:Go.Ev.Ex)(fr:Fr)(H:Heap):Prop:=match q.kind with
 | 1=>rec (.fn q.f ((embF e0 q.fr).map (·.2)) (embH e0 q.H))=some (.val (Fr.get fr 0) H)
 | 2=>∀ F b lb,c.fn q.f=some F→F.body=some b→QjT (QaI b 0) q.id=some lb→rec (.loop q.f q.id q.m lb ⟨embF e0 q.fr,embH e0 q.H⟩)=some (.code ex ⟨fr,H⟩)
 | _=>match c.prim q.f with
  | .pure p=>p ((embF e0 q.fr).map (·.2))=some (Fr.get fr 0)
  | _=>∃ H',rec (.pfn q.f ((embF e0 q.fr).map (·.2)))=some (.val (Fr.get fr 0) H')
def Sound (m:(f:Nat)→Pr (tb.P f)→Option (Sm (tb.O f))):Prop:=∀ i x z,m i x=some z→∀ (env:Env) (θ:List Ex) (n j:Nat) (o:Out),mkPr env (tb.P i) θ=x→QgO env (tb.O i) z j n→
 (tb.fam i).outs[j]?=some o→Qhl c rec (tb.fam i) (env0 (tb.P i) x) o.ex (embF env (o.state θ n).1) (embH env (o.state θ n).2)
end
section
variable {c:Ctx} {rec:Task→Option Res} {tb:Tab} {m:(f:Nat)→Pr (tb.P f)→Option (Sm (tb.O f))} {α:Type}
variable {env:Env} {s:SS} {Q:Env→α→Prop}
theorem Qpn {f:Nat}{θ:List Ex}{j n:Nat}:∀ {fs:List Fact},(∀ g∈fs,Fact.holds m env g)→Quz f θ fs=some (j,n)→∃ z,m f (mkPr env (tb.P f) θ)=some z∧QgO env (tb.O f) z j n
 | [],_,h=>by simp [Quz] at h
 | .call g xs i k len::r,hf,h=>by
  simp only [Quz] at h
  split at h
  ·rename_i hx
   obtain ⟨h1,h2⟩:=Qao hx
   have e1:=QbY h1
   have e2:=Qxy h2
   subst e1 e2
   simp only [Option.some.injEq,Prod.mk.injEq] at h
   obtain ⟨rfl,rfl⟩:=h
   obtain ⟨z,h1,h2,_⟩:=hf (.call g xs i k len) (by simp)
   exact ⟨z,h1,h2⟩
  ·exact Qpn (fun f hm=>hf f (by simp [hm])) h
 | .cond ..::r,hf,h=>by simp only [Quz] at h; exact Qpn (fun f hm=>hf f (by simp [hm])) h
 | .idx ..::r,hf,h=>by simp only [Quz] at h; exact Qpn (fun f hm=>hf f (by simp [hm])) h
theorem QAT {f:Nat}{θ:List Ex}{K:Out→Nat→SS→T α}:∀ (l:List Out) (j:Nat) (z:Sm (l.map Out.ts)),
  (∀ k o env',l[k]?=some o→QgO env' (l.map Out.ts) z k s.nx→Agree s.nx env env'→
   Ok m (K o s.nx { s with nx:=s.nx+o.ts.length,fs:=.call f θ (j+k) s.nx o.ts.length::s.fs }) env' Q)→OkA m (alts f θ s K l j) (l.map Out.ts) z s.nx env Q
 | [],j,z,h=>z.elim
 | [o],j,z,h=>by
  simp only [List.map_cons,List.map_nil,alts,OkA]
  exact h 0 o _ rfl (QeN o.ts env s.nx z) (Qdp o.ts env s.nx z)
 | o::o2::l,j,.inl p,h=>by
  simp only [List.map_cons,alts,OkA]
  exact h 0 o _ rfl (QeN o.ts env s.nx p) (Qdp o.ts env s.nx p)
 | o::o2::l,j,.inr y,h=>by
  have:=QAT (o2::l) (j+1) y fun k o' env' hk ha hg=>by
   have:=h (k+1) o' env' (by simpa using hk) ha hg
   rw [show j+(k+1)=j+1+k by omega] at this
   exact this
  simp only [List.map_cons,alts,OkA] at this ⊢
  exact this
theorem Qpo {f:Nat}{θ:List Ex}{pend:List SV}{K:Out→Nat→SS→T α}(hi:Inv m env s)
  (hk:∀ env' o n j s' z,m f (mkPr env' (tb.P f) θ)=some z→QgO env' (tb.O f) z j n→(tb.fam f).outs[j]?=some o→ExtH m env s env' s'→SV.embL env' pend=SV.embL env pend→
   (∀ e∈θ,∀ t,e.den env' t=e.den env t)→Ok m (K o n s') env' Q):Ok m (QrA tb f θ pend s K) env Q:=by
 unfold QrA
 split
 ·rename_i j n hl
  obtain ⟨z,h1,h2⟩:=Qpn hi hl
  split
  ·rename_i o ho
   exact hk env o n j s z h1 h2 ho (.refl hi) rfl (fun _ _ _=>rfl)
  ·simp only [Ok]
 ·split
  ·rename_i hb
   obtain ⟨h1,h2⟩:=Qao hb
   obtain ⟨h2,h3⟩:=Qao h2
   simp only [Ok]
   intro z hz
   refine QAT (tb.fam f).outs 0 z fun k o env' hk' ha hg=>?_
   have hpr:mkPr env' (tb.P f) θ=mkPr env (tb.P f) θ:=(Qim hg _ _ h3).symm
   refine hk env' o s.nx k _ z (by rw [hpr]; exact hz) ha hk' ⟨⟨?_,by simp,hg,rfl,(Qts hg h1).1⟩,rfl,(Qts hg h1).2⟩ (Qdr hg h2).symm fun e he t=>(QaA hg (List.all_eq_true.mp h3 e he) t).symm
   refine Inv.add (s:={ s with nx:=s.nx+o.ts.length }) (fun g hg'=>Qqr hg h1 hi g hg') ?_
   refine ⟨z,by rw [hpr]; exact hz,by rw [Nat.zero_add]; exact ha,o.ts,?_,rfl⟩
   show ((tb.fam f).outs.map Out.ts)[0+k]?=some o.ts
   rw [Nat.zero_add,List.getElem?_map,hk']
   rfl
  ·simp only [Ok]
theorem Qiq:∀ {l:List Nat} {fr:SF} {H:SH} {θ:List (Ty×Ex)} {i:Nat},Qkn tb l fr H θ=some i→(tb.fam i).fr=fr∧(tb.fam i).H=H∧(tb.fam i).ps=θ.map (·.1)
 | [],_,_,_,_,h=>by simp [Qkn] at h
 | j::l,fr,H,θ,i,h=>by
  simp only [Qkn] at h
  split at h
  ·rename_i hb
   simp only [Option.some.injEq] at h
   subst h
   obtain ⟨h1,h2⟩:=Qao hb
   obtain ⟨h2,h3⟩:=Qao h2
   exact ⟨Ql3 h1,QnV h2,Qxz h3⟩
  ·exact Qiq h
theorem Qkv {i:Nat}{fr fr':SF}{H H':SH}{θ:List (Ty×Ex)}(h:absS fr H=some (fr',H',θ))(h1:(tb.fam i).fr=fr')(h2:(tb.fam i).H=H')(h3:(tb.fam i).ps=θ.map (·.1))(env:Env):
  embF (env0 (tb.P i) (mkPr env (tb.P i) (θ.map (·.2)))) (tb.fam i).fr=embF env fr∧embH (env0 (tb.P i) (mkPr env (tb.P i) (θ.map (·.2)))) (tb.fam i).H=embH env H:=by
 rw [h1,h2]
 refine QtA h fun k t e hk=>?_
 have hp:(tb.P i)[k]?=some t:=by
  show (tb.fam i).ps[k]?=some t
  rw [h3,List.getElem?_map,hk]
  rfl
 have:=QtB env (tb.P i) (θ.map (·.2)) Env.none 0 k t hp
 rw [Nat.zero_add] at this
 rw [show env0 (tb.P i) (mkPr env (tb.P i) (θ.map (·.2))) k t=_ from this]
 congr 1
 rw [List.getD_eq_getElem?_getD,List.getElem?_map,hk]
 rfl
theorem Qi9:∀ {ts:List Ty} {vs:List SV} {θ:List Ex} {k:Nat} {e:Env},QfB ts vs=some θ→(∀ i t,ts[i]?=some t→e (k+i) t=(θ.getD i .un).den env t)→SV.embL e (QvQ ts k)=SV.embL env vs
 | [],[],θ,k,e,h,he=>rfl
 | t::ts,v::vs,θ,k,e,h,he=>by
  simp only [QfB] at h
  split at h
  ·rename_i x es h1 h2
   simp only [Option.some.injEq] at h
   subst h
   have e1:e k t=x.den env t:=he 0 t rfl
   show (sval t (.v k)).emb e::SV.embL e (QvQ ts (k+1))=v.emb env::SV.embL env vs
   rw [Qtq,QmH env h1,Qi9 h2 fun i u hu=>by
    have:=he (i+1) u (by simpa using hu)
    rw [show k+1+i=k+(i+1) by omega]
    exact this]
   show valT t (e k t)::_=_
   rw [e1]
  ·cases h
 | [],_::_,θ,k,e,h,he=>by simp [QfB] at h
 | _::_,[],θ,k,e,h,he=>by simp [QfB] at h
theorem Qsl (p:List AV→Option AV)(args:List AV)(H:Heap):QiX p args H=
  (mapM' (Qal H 12) args).bind fun fs=>(p fs).bind fun v=>if Qhj 8 v=true then some (v,H) else (Qbt (args.flatMap (frozenIn 12)) H).bind fun H=>some (v,H):=by
 unfold QiX
 cases mapM' (Qal H 12) args with
 | none=>rfl
 | some fs=>
  simp only [Option.bind_some]
  cases p fs with
  | none=>rfl
  | some v=>
   simp only [Option.bind_some]
   cases Qhj 8 v with
   | true=>rfl
   | false=>
    simp only
    cases Qbt (args.flatMap (frozenIn 12)) H<;>rfl
theorem Qja (env:Env)(l:List SV):(SV.embL env l).flatMap (frozenIn 12)=l.flatMap (Qfz 12):=by
 rw [Qa0,List.flatMap_map]
 congr 1
 funext v
 exact Qhw env 12 v
variable {K:SV→SS→T α}
noncomputable def Qn2 (c:Ctx)(rec:Task→Option Res)(f:FuncId)(args:List AV)(H:Heap):Option (AV×Heap):=match c.prim f with
 | .pure p=>QiX p args H
 | _=>Qhn rec f args H
theorem Qqz (env:Env):∀ (k:Nat) (l:List SV),(embF env (argF k l)).map (·.2)=SV.embL env l
 | _,[]=>rfl
 | k,v::l=>by
  show v.emb env::(embF env (argF (k+1) l)).map (·.2)=v.emb env::SV.embL env l
  rw [Qqz env (k+1) l]
theorem QyR {f:FuncId}{fs:List SV}{fam:Nat}{θ:List Ex}(h:QvR tb f fs=some (fam,θ)){env':Env}(hp:SV.embL env' fs=SV.embL env fs)(hθ':∀ e∈θ,∀ t,e.den env' t=e.den env t):
  (embF (env0 (tb.P fam) (mkPr env' (tb.P fam) θ)) (tb.fam fam).fr).map (·.2)=SV.embL env fs:=by
 unfold QvR at h
 split at h
 ·rename_i fam' hfam
  split at h
  ·rename_i θ2 hθ
   split at h
   ·rename_i b3
    simp only [Option.some.injEq,Prod.mk.injEq] at h
    obtain ⟨rfl,rfl⟩:=h
    rw [Qqo,QeJ b3]
    refine Qi9 hθ fun i t ht=>?_
    have:=QtB env' (tb.P fam') θ2 Env.none 0 i t ht
    rw [show (0+i)=i by omega] at this ⊢
    rw [show env0 (tb.P fam') (mkPr env' (tb.P fam') θ2) i t=_ from this]
    cases hg:θ2[i]? with
    | none=>rw [List.getD_eq_getElem?_getD,hg]; rfl
    | some x=>
     rw [List.getD_eq_getElem?_getD,hg]
     exact hθ' x (List.mem_of_getElem? hg) t
   ·cases h
  ·cases h
 ·split at h
  ·rename_i fr H θ2 ha
   split at h
   ·rename_i fam' hfam
    simp only [Option.some.injEq,Prod.mk.injEq] at h
    obtain ⟨rfl,rfl⟩:=h
    obtain ⟨f1,f2,f3⟩:=Qiq hfam
    obtain ⟨g1,_⟩:=Qkv (tb:=tb) (i:=fam') ha f1 f2 f3 env'
    rw [g1,Qqz,hp]
   ·cases h
  ·cases h
theorem QxM (hs:Sound c rec tb m){f:FuncId}{args fs:List SV}(hi:Inv m env s)(hf:mapM' (Qal (embH env s.H) 12) (SV.embL env args)=some (SV.embL env fs))
  (hk:Next m (Qn2 c rec f (SV.embL env args) (embH env s.H)) env s K Q):Ok m (QzR tb f args fs s K) env Q:=by
 unfold QzR
 refine Qax fun q hq=>Qbw fun hb=>?_
 obtain ⟨fam,θ⟩:=q
 obtain ⟨b1,b2⟩:=Qao hb
 refine Qpo hi fun env' o n j s1 z hz ha ho e1 hp hθ'=>?_
 have hm:=hs fam _ z hz env' θ n j o rfl ha ho
 have hp2:SV.embL env' fs=SV.embL env fs:=by
  rw [QmG,QmG] at hp
  exact (List.append_inj hp (by simp [Qa0])).2
 have hargs:=QyR (env:=env) hq hp2 hθ'
 have hkind:(tb.fam fam).kind=0∨(tb.fam fam).kind=3:=by
  rcases Bool.or_eq_true _ _ |>.mp b1 with h |h
  ·exact .inl (QbY h)
  ·exact .inr (QbY h)
 have hm':match c.prim (tb.fam fam).f with
  | .pure p=>p (SV.embL env fs)=some ((getZ (o.state θ n).1).emb env')
  | _=>∃ H',rec (.pfn (tb.fam fam).f (SV.embL env fs))=some (.val ((getZ (o.state θ n).1).emb env') H'):=by
  unfold Qhl at hm
  have hz':Fr.get (embF env' (o.state θ n).1) 0=(getZ (o.state θ n).1).emb env':=(Qgg env' _ 0).symm
  rw [hz'] at hm
  rcases hkind with h |h<;>(rw [h] at hm; simp only [hargs] at hm; exact hm)
 rw [QbY b2] at hm'
 have res:Qn2 c rec f (SV.embL env args) (embH env s.H)=if QuA 8 (getZ (o.state θ n).1)=true then some ((getZ (o.state θ n).1).emb env',embH env s.H) else (Qbt (args.flatMap (Qfz 12)) (embH env s.H)).bind fun H=>some ((getZ (o.state θ n).1).emb env',H):=by
  unfold Qn2
  cases hpr:c.prim f with
  | pure p=>
   rw [hpr] at hm'
   simp only at hm' ⊢
   rw [Qsl,hf,Option.bind_some,hm',Option.bind_some,Qio,Qja]
  | no=>
   rw [hpr] at hm'
   obtain ⟨H',hm'⟩:=hm'
   simp only
   rw [Qsf,hf,Option.bind_some,hm',Option.bind_some,QAf,Qio,Qja]
  | clone e=>
   rw [hpr] at hm'
   obtain ⟨H',hm'⟩:=hm'
   simp only
   rw [Qsf,hf,Option.bind_some,hm',Option.bind_some,QAf,Qio,Qja]
 simp only
 split
 ·rename_i hfl
  rw [if_pos hfl] at res
  exact hk.same e1 res
 ·rename_i hfl
  rw [if_neg (by rw [hfl]; simp)] at res
  refine Qax fun H hH=>hk env' _ _ ?_ (e1.toExt.setH _)
  rw [res,← e1.emH,← e1.H,Ql4 hH]
  rfl
theorem Qkw (env:Env)(τ:Nat→Nat):∀ (l:List Nat) (H' H:SH),((embH env H').drop l.length,laid τ l (embH env H') (embH env H))=(embH env (QgK τ l H' H).1,embH env (QgK τ l H' H).2)
 | [],H',H=>rfl
 | b::l,[],H=>by
  have:=Qkw env τ l [] H
  simp only [Prod.mk.injEq] at this
  show (([]:Heap).drop (l.length+1),laid τ l [] (embH env H))=(embH env (QgK τ l [] H).1,embH env (QgK τ l [] H).2)
  rw [← this.2,← this.1]
  simp [embH]
 | b::l,x::H',H=>by
  have:=Qkw env τ l H' (H.set b (x.ren τ))
  rw [Qhu,← Qlh] at this
  exact this
theorem QAU (hs:Sound c rec tb m){f:FuncId}{args:List SV}(hi:Inv m env s)(hk:Next m (QiW rec f (SV.embL env args) (embH env s.H)) env s K Q):Ok m (rawT tb f args s K) env Q:=by
 unfold rawT
 refine Qax fun seen hseen=>?_
 simp only
 refine Qax fun p hp=>?_
 obtain ⟨fr,H,θ⟩:=p
 simp only
 refine Qax fun fam hfam=>Qbw fun hb=>?_
 obtain ⟨b1,b2⟩:=Qao hb
 obtain ⟨f1,f2,f3⟩:=Qiq hfam
 refine Qpo hi fun env' o n j s1 z hz ha ho e1 hpend hθ'=>?_
 have hm:=hs fam _ z hz env' _ n j o rfl ha ho
 obtain ⟨g1,g2⟩:=Qkv (tb:=tb) (i:=fam) hp f1 f2 f3 env'
 unfold Qhl at hm
 rw [QbY b1] at hm
 simp only [g1,g2,QbY b2,Qqz] at hm
 have hz':Fr.get (embF env' (o.state (θ.map (·.2)) n).1) 0=(getZ (o.state (θ.map (·.2)) n).1).emb env':=(Qgg env' _ 0).symm
 rw [hz'] at hm
 refine hk env' _ _ ?_ (e1.toExt.setH _)
 rw [← e1.emH,← hpend,QAj,QuR,hseen,Option.bind_some,Qep,QxG,QxF,hm,Option.bind_some,QAf,Qi1,QrZ]
 have hbk:=Qkw env' (QdA seen seen.length s.H.length) seen (o.state (θ.map (·.2)) n).2 s.H
 simp only [Prod.mk.injEq] at hbk
 rw [Qba,hbk.1,hbk.2,show Ev.ren (QdA seen seen.length s.H.length) ((getZ (o.state (θ.map (·.2)) n).1).emb env')=_ from QmL env' _ 8 _,e1.H,Qd5]
 congr 2
 congr 1
 simp only [embH,List.map_map,Function.comp_def]
 exact List.map_congr_left fun b _=>Qlh env' _ b
theorem QuY {H:Heap}:∀ {l:List AV} {r:List AV},mapM' (Qal H 12) l=some r→(l.all fun v=>(Qal H 12 v).isSome)=true
 | [],r,h=>rfl
 | v::l,r,h=>by
  rw [mapM'_cons,Qi5] at h
  cases h1:Qal H 12 v with
  | none=>rw [h1] at h; simp at h
  | some x=>
   rw [h1,Option.bind_some] at h
   cases h2:mapM' (Qal H 12) l with
   | none=>rw [h2] at h; simp at h
   | some y=>simp only [List.all_cons,h1,Option.isSome_some,Bool.true_and]; exact QuY h2
theorem QuZ {H:Heap}:∀ {l:List AV},mapM' (Qal H 12) l=none→(l.all fun v=>(Qal H 12 v).isSome)=false
 | [],h=>by simp [mapM'_nil] at h
 | v::l,h=>by
  rw [mapM'_cons,Qi5] at h
  cases h1:Qal H 12 v with
  | none=>simp only [List.all_cons,h1,Option.isSome_none,Bool.false_and]
  | some x=>
   rw [h1,Option.bind_some] at h
   cases h2:mapM' (Qal H 12) l with
   | none=>simp only [List.all_cons,QuZ h2,Bool.and_false]
   | some y=>rw [h2] at h; simp at h
theorem QCY (hs:Sound c rec tb m){f:FuncId}{args:List SV}(hi:Inv m env s)(hk:Next m (Qjz c rec f (SV.embL env args) (embH env s.H)) env s K Q):Ok m (Qko c tb f args s K) env Q:=by
 have pure:∀ {fs:List SV} {g:List Ex},QnK s.H args=some (fs,g)→Qjz c rec f (SV.embL env args) (embH env s.H)=Qn2 c rec f (SV.embL env args) (embH env s.H)→Ok m (guards g s fun s=>QzR tb f args fs s K) env Q:=fun {fs g} h he=>by
  refine Qc0 hi fun s1 hg e1=>?_
  have hf:=Qlg (env:=env) 12 h hg
  refine QxM hs e1.inv (by rw [e1.H]; exact hf) ?_
  intro env' v s' hr e2
  refine hk env' v s' ?_ (e1.toExt.trans e2)
  rw [he,← e1.H]
  exact hr
 unfold Qko
 split
 ·rename_i e he
  rw [Qv7 c rec f _ _ e he] at hk
  exact QAM hi hk
 ·rename_i p hp
  refine Qax fun q hq=>?_
  obtain ⟨fs,g⟩:=q
  refine pure hq ?_
  unfold Qjz Qn2
  rw [hp]
 ·rename_i hno
  split
  ·rename_i hr
   rw [Qtn c rec f _ _ hno,hr,Bool.true_or,if_pos rfl] at hk
   exact QAU hs hi hk
  ·rename_i hr
   split
   ·rename_i hn
    have:((SV.embL env args).all fun v=>(Qal (embH env s.H) 12 v).isSome)=false:=QuZ (Qku 12 hn)
    rw [Qtn c rec f _ _ hno,hr,this,Bool.not_false,Bool.or_true,if_pos rfl] at hk
    exact QAU hs hi hk
   ·rename_i fs g hq
    refine Qc0 hi fun s1 hg e1=>?_
    have hf:=Qlg (env:=env) 12 hq hg
    refine QxM hs e1.inv (by rw [e1.H]; exact hf) ?_
    intro env' v s' hr' e2
    refine hk env' v s' ?_ (e1.toExt.trans e2)
    rw [Qtn c rec f _ _ hno,hr,QuY hf,← e1.H,← hr']
    unfold Qn2
    rw [hno]
    rfl
theorem Qu0 (env:Env)(fr:SF)(l:List (Nat×Operand)):(l.map fun p=>(p.1,opvS fr p.2)).map (fun p=>(p.1,p.2.emb env))=l.map fun p=>(p.1,opv (embF env fr) p.2):=by
 rw [List.map_map]
 exact List.map_congr_left fun p _=>by simp only [Function.comp_apply,QaB]
theorem QtC (env:Env)(fr:SF)(l:List Operand):SV.embL env (l.map (opvS fr))=l.map (opv (embF env fr)):=by
 rw [Qa0,List.map_map]
 exact List.map_congr_left fun p _=>QaB env fr p
theorem QxN (env:Env)(fr:SF)(l:Option Operand):(l.map (opvS fr)).map (SV.emb env)=l.map (opv (embF env fr)):=by
 cases l with
 | none=>rfl
 | some x=>simp only [Option.map_some,QaB]
theorem QAV (hs:Sound c rec tb m){cl:Call}(hi:Inv m env s)(hk:Next m (QiZ c rec cl (embF env s.fr) (embH env s.H)) env s K Q):Ok m (Qz2 c tb cl s K) env Q:=by
 unfold Qz2
 unfold QiZ at hk
 split
 ·rename_i f hf
  rw [hf] at hk
  simp only at hk
  split
  ·rename_i g caps hg
   rw [← QaB,hg] at hk
   refine QCY hs hi ?_
   rw [QmG,QtC]
   exact hk
  ·simp only [Ok]
 ·rename_i b hb
  rw [hb] at hk
  simp only at hk
  refine Qwk hi ?_
  rw [QtC]
  exact hk
 ·simp only [Ok]
theorem QtD {d:TD}{tk:Ty}(h:keyT d tk=true)(a b:tk.D):Qe7 d (valT tk a) (valT tk b)=some (keyD tk a b):=by
 cases tk with
 | int k=>
  cases d<;>simp only [keyT,reduceCtorEq] at h
  show (match decide (k=k) with |true=>some (eqI a b) |false=>none)=_
  rw [decide_eq_true rfl]
  rfl
 | bool=>
  cases d<;>simp only [keyT,reduceCtorEq] at h
  rfl
 | str=>
  cases d<;>simp only [keyT,reduceCtorEq] at h
  show some ((a:List UInt8)==b)=some (decide (a=b))
  congr 1
  by_cases hab:a=b
  ·subst hab
   rw [decide_eq_true rfl]
   exact beq_self_eq_true _
  ·rw [decide_eq_false hab]
   exact beq_eq_false_iff_ne.mpr hab
 | _=>cases d<;>simp [keyT] at h
def Qkx (tk tv:Ty)(l:List (tk.D×tv.D)):List (AV×AV):=l.map fun p=>(valT tk p.1,valT tv p.2)
theorem Qu1 {d:TD}{tk:Ty}(h:keyT d tk=true)(tv:Ty)(x:tk.D)(z:tv.D):∀ l:List (tk.D×tv.D),Qov d (valT tk x) (Qkx tk tv l)=some (match hasD tk tv l x with |true=>some (valT tv (findD tk tv l x z)) |false=>none)
 | []=>rfl
 | p::l=>by
  have ih:=Qu1 h tv x z l
  show (match Qe7 d (valT tk x) (valT tk p.1) with |none=>none |some true=>some (some (valT tv p.2)) |some false=>Qov d (valT tk x) (Qkx tk tv l))=_
  rw [QtD h,hasD,findD]
  cases keyD tk x p.1 with
  | true=>rfl
  | false=>
   simp only [Bool.false_or]
   exact ih
theorem Qu2 {tk tv:Ty}{x:tk.D}{z:tv.D}:∀ {l:List (tk.D×tv.D)},hasD tk tv l x=false→findD tk tv l x z=z
 | [],_=>rfl
 | p::l,h=>by
  rw [hasD] at h
  cases hk:keyD tk x p.1 with
  | true=>rw [hk] at h; cases h
  | false=>
   rw [hk] at h
   rw [findD,hk]
   exact Qu2 h
theorem QxO {d:TD}{tk:Ty}(h:keyT d tk=true)(tv:Ty)(x:tk.D)(y:tv.D):∀ l:List (tk.D×tv.D),Qud d (valT tk x) (valT tv y) (Qkx tk tv l)=some (Qkx tk tv (putD tk tv l x y))
 | []=>rfl
 | p::l=>by
  have ih:=QxO h tv x y l
  show (match Qe7 d (valT tk x) (valT tk p.1) with |none=>none |some true=>some ((valT tk p.1,valT tv y)::Qkx tk tv l) |some false=>match Qud d (valT tk x) (valT tv y) (Qkx tk tv l) with |none=>none |some r=>some ((valT tk p.1,valT tv p.2)::r))=_
  rw [QtD h,putD]
  cases keyD tk x p.1 with
  | true=>rfl
  | false=>
   simp only [ih]
   rfl
theorem QxP {d:TD}{tk:Ty}(h:keyT d tk=true)(x:tk.D):QsR d (valT tk x)=true:=by
 unfold QsR
 rw [QtD h]
theorem QCZ (env:Env){i:TI}{t:Ty}{e:Ex}(h:zeroV i t=some e):pack i i.zero=some (valT t (e.den env t)):=by
 unfold zeroV at h
 split at h
 ·rename_i b hk ha hz
  split at h
  ·simp only [Option.some.injEq] at h
   subst h
   unfold pack
   rw [hk,ha,hz]
   rfl
  ·cases h
 ·rename_i j n hk ha hz
  split at h
  ·rename_i k
   split at h
   ·rename_i hj
    simp only [Option.some.injEq] at h
    subst h
    unfold pack
    rw [hk,ha,hz,QjB hj]
    rfl
   ·cases h
  ·cases h
 ·rename_i x hk ha hz
  split at h
  ·simp only [Option.some.injEq] at h
   subst h
   unfold pack
   rw [hk,ha,hz]
   rfl
  ·cases h
 ·cases h
theorem QyS (env:Env){i:TI}{H:SH}{x ix:SV}{ok:Bool}{v:SV}(h:QvV c i H x ix ok=some v):Qk4 c i (x.emb env) (ix.emb env) ok (embH env H)=some (v.emb env):=by
 unfold QvV at h
 split at h
 ·rename_i kt e b hd
  split at h
  ·rename_i tk tv m hb
   split at h
   ·rename_i hkt
    split at h
    ·rename_i k z hk hz
     unfold Qk4
     rw [hd]
     have he:entriesOf (embH env H) ((SV.map b).emb env)=some (Qkx tk tv (m.den env (.lst (.pair tk tv)))):=by
      show (match (embH env H)[b]? with |some (.map es)=>some es |_=>none)=_
      rw [QbX,hb]
      rfl
     simp only
     rw [he,QmH env hk,QxP hkt]
     simp only
     rw [Qu1 hkt tv (k.den env tk) (z.den env tv)]
     simp only
     have e2:(Ex.o3 (.mget tk) m k z).den env tv=findD tk tv (m.den env (.lst (.pair tk tv))) (k.den env tk) (z.den env tv):=rfl
     have e3:(Ex.o2 (.has tk tv) m k).den env .bool=hasD tk tv (m.den env (.lst (.pair tk tv))) (k.den env tk):=rfl
     have e4:(sval tv (.o3 (.mget tk) m k z)).emb env=valT tv (findD tk tv (m.den env (.lst (.pair tk tv))) (k.den env tk) (z.den env tv)):=by rw [Qtq,e2]
     cases hh:hasD tk tv (m.den env (.lst (.pair tk tv))) (k.den env tk) with
     | true=>
      simp only
      cases ok with
      | true=>
       simp only [Option.some.injEq] at h
       subst h
       show some (AV.tup [_,_])=some (AV.tup [(sval tv (.o3 (.mget tk) m k z)).emb env,AV.bool ((Ex.o2 (.has tk tv) m k).den env .bool)])
       rw [e3,hh,e4]
       rfl
      | false=>
       simp only [Option.some.injEq] at h
       subst h
       rw [e4]
     | false=>
      simp only
      rw [Qu2 hh] at e4
      rw [QCZ env hz]
      simp only
      cases ok with
      | true=>
       simp only [Option.some.injEq] at h
       subst h
       show some (AV.tup [_,_])=some (AV.tup [(sval tv (.o3 (.mget tk) m k z)).emb env,AV.bool ((Ex.o2 (.has tk tv) m k).den env .bool)])
       rw [e3,hh,e4]
       rfl
      | false=>
       simp only [Option.some.injEq] at h
       subst h
       rw [e4]
    ·cases h
   ·cases h
  ·cases h
 ·cases h
theorem QtE {t:Ty}(h:Qz1 t=true)(x:t.D)(H:Heap):QeD H (valT t x)=some (valT t x,H):=by
 cases t<;>first |rfl |(simp [Qz1] at h)
theorem Qsr (env:Env){i:TI}{H H':SH}{x k v:SV}(h:Qth c i H x k v=some H'):Qmn c i (x.emb env) (k.emb env) (v.emb env) (embH env H)=some (.tup [],embH env H'):=by
 unfold Qth at h
 split at h
 ·rename_i kt e b hd
  split at h
  ·rename_i tk tv m hb
   split at h
   ·rename_i hkt
    obtain ⟨h1,h2⟩:=Qao hkt
    split at h
    ·rename_i ke ve hk hv
     simp only [Option.some.injEq] at h
     subst h
     have hg:(embH env H)[b]?=some (.map (Qkx tk tv (m.den env (.lst (.pair tk tv))))):=by rw [QbX,hb]; rfl
     unfold Qmn
     rw [hd]
     show (match QeD (embH env H) (v.emb env) with |none=>none |some (v,H)=>match H[b]? with
      | some (.map es)=>match QsR (c.ty kt).d (k.emb env) with
       | true=>match Qud (c.ty kt).d (k.emb env) v es with |some es=>fSp es fun es=>fSp (H.set b (.map es)) fun H=>some (AV.tup [],H) |none=>none
       | false=>none
      | _=>none)=_
     rw [QmH env hk,QmH env hv,QtE h2]
     simp only
     rw [hg]
     simp only
     rw [QxP h1]
     simp only
     rw [QxO h1]
     simp only [Qat]
     rw [Qhu]
     rfl
    ·cases h
   ·cases h
  ·cases h
 ·cases h
theorem QFE (hs:Sound c rec tb m){o:Oper}(hi:Inv m env s)(hk:Next m (evOp c rec o (embF env s.fr) (embH env s.H)) env s K Q):Ok m (opS c tb o s K) env Q:=by
 unfold opS
 unfold evOp at hk
 cases ho:o.op<;>simp only [ho] at hk ⊢<;>try (simp only [Ok]; done)
 case lookup t x ix ok=>
  refine Qax fun v hv=>hk.pure hi ?_
  rw [← QaB,← QaB]
  exact QyS env hv
 case mapUpdate t m k v=>
  refine Qax fun H hH=>hk env _ _ ?_ ((ExtH.refl hi).toExt.setH _)
  rw [← QaB,← QaB,← QaB]
  exact Qsr env hH
 case insert t m k v=>
  refine Qax fun H hH=>hk env _ _ ?_ ((ExtH.refl hi).toExt.setH _)
  rw [← QaB,← QaB,← QaB]
  exact Qsr env hH
 ·rename_i x
  exact hk.same (.refl hi) (by rw [QaB])
 ·rename_i x
  exact hk.same (.refl hi) (by rw [QaB])
 ·exact QCV hi (by simp only [QaB]; exact hk)
 ·exact QAN hi hk
 ·exact QEu hi (by simp only [QaB]; exact hk)
 ·refine Qax fun v hv=>hk.pure hi ?_
  rw [← Qu0]
  exact QAI env hv
 ·refine QrD hi ?_
  rw [Qu0]
  exact hk
 ·exact QxJ hi (by simp only [QaB]; exact hk)
 ·rename_i t a v
  refine QAJ hi fun env' s' h e=>hk env' _ s' ?_ e
  simp only [QaB] at h
  rw [QAo,h]
  rfl
 ·refine Qax fun v hv=>hk.pure hi ?_
  rw [← QaB]
  exact QuT env hv
 ·refine Qax fun p hp=>?_
  obtain ⟨v,g⟩:=p
  refine Qle hi fun s1 hg e1=>hk.same e1 ?_
  rw [← QaB,← QaB,QAG env hp hg]
  rfl
 ·refine Qax fun v hv=>hk.pure hi ?_
  rw [← QaB]
  exact QCS env hv
 ·refine Qax fun v hv=>hk.pure hi ?_
  rw [← QaB]
  exact Qwh env hv
 ·refine Qax fun v hv=>hk.pure hi ?_
  rw [← QaB]
  exact QAO env hv
 ·refine Qax fun v hv=>hk.pure hi ?_
  rw [← QtC]
  exact QuU env hv
 ·refine Qwl hi ?_
  rw [QxN]
  exact hk
 ·exact Qtw hi (by simp only [QaB]; exact hk)
 ·refine QAL hi ?_
  simp only [QxN,QaB]
  exact hk
 ·refine Qax fun v hv=>hk.pure hi ?_
  rw [← QaB]
  exact Qtx env hv
 ·refine Qax fun v hv=>hk.pure hi ?_
  rw [← QaB]
  exact QAP env hv
 ·exact Qty hi (by simp only [QaB]; exact hk)
 ·exact QAQ hi (by simp only [QaB]; exact hk)
 ·refine Qax fun v hv=>hk.pure hi ?_
  rw [← QaB]
  exact Qwn env hv
 ·exact QAV hs hi hk
theorem QyT {ops:Array Oper}{o:Oper}{K:Bool→SS→T α}(hi:Inv m env s)
  (hk:∀ w s',QaV ops o (embF env s.fr)=some w→ExtH m env s env s'→Ok m (K w s') env Q):Ok m (QvW ops o s K) env Q:=by
 unfold QvW
 unfold QaV at hk
 split
 ·rename_i hg
  exact hk true s (by rw [hg]) (.refl hi)
 ·rename_i j want hg
  split
  ·rename_i d hd
   simp only [hg,hd] at hk
   split
   ·rename_i e he
    rw [← Qgg,he] at hk
    refine QmJ hi fun b s1 hb e1=>hk _ s1 ?_ e1
    simp only [SV.emb,hb]
    cases b<;>cases want<;>rfl
   ·rename_i vs he
    rw [← Qgg,he] at hk
    exact hk false s rfl (.refl hi)
   ·simp only [Ok]
  ·simp only [Ok]
structure QeO (m:(f:Nat)→Pr (tb.P f)→Option (Sm (tb.O f)))(env:Env)(s:SS)(env':Env)(s':SS):Prop where
 inv:Inv m env' s'
 nx:s.nx≤s'.nx
 agr:Agree s.nx env env'
theorem QeO.trans {e1 e2 e3:Env}{s1 s2 s3:SS}(h:QeO m e1 s1 e2 s2)(k:QeO m e2 s2 e3 s3):QeO m e1 s1 e3 s3:=⟨k.inv,Nat.le_trans h.nx k.nx,h.agr.trans k.agr h.nx⟩
theorem Ext.later {e1 e2:Env}{s1 s2:SS}(h:Ext m e1 s1 e2 s2):QeO m e1 s1 e2 s2:=⟨h.inv,h.nx,h.agr⟩
theorem QeO.refl (hi:Inv m env s):QeO m env s env s:=⟨hi,Nat.le_refl _,Agree.refl⟩
theorem QtF (hs:Sound c rec tb m){n:Nat}{ops:Array Oper}{o:Oper}{K:Bool→SS→T α}(hi:Inv m env s)
  (hk:∀ env' w s',QaV ops o (embF env s.fr)=some w→QbQ c rec n ops o (s.emb env)=some (s'.emb env')→QeO m env s env' s'→Ok m (K w s') env' Q):Ok m (stepT c tb n ops o s K) env Q:=by
 unfold stepT
 split
 ·simp only [Ok]
 ·rename_i hd
  refine QyT hi fun w s1 hw e1=>?_
  have hst:s.emb env=⟨embF env s.fr,embH env s.H⟩:=rfl
  split
  ·refine hk env false _ hw ?_ ⟨e1.inv,e1.nx,e1.agr⟩
   rw [Qxv,if_pos hd,hst]
   simp only [hw,Option.bind_some]
   rw [if_neg (by simp)]
   simp only [SS.emb,QxD,e1.fr,e1.H]
   rfl
  ·refine QFE hs e1.inv fun env' v s2 h2 e2=>?_
   refine hk env' true _ hw ?_ ((e1.toExt.later).trans ⟨e2.inv,e2.nx,e2.agr⟩)
   rw [Qxv,if_pos hd,hst]
   simp only [hw,Option.bind_some,if_true]
   rw [e1.fr,e1.H] at h2
   rw [h2,Option.bind_some]
   have hF:=e2.emF
   rw [e1.fr] at hF
   simp only [SS.emb,QxD,e2.fr,e1.fr,hF]
theorem Qpp (hs:Sound c rec tb m){n:Nat}{ops:Array Oper}{K:SS→T α}:∀ {l:List Oper} {env:Env} {s:SS},Inv m env s→
  (∀ env' s',Qbu c rec n ops l (s.emb env)=some (s'.emb env')→QeO m env s env' s'→Ok m (K s') env' Q)→Ok m (Qys c tb n ops l s K) env Q
 | [],env,s,hi,hk=>hk env s rfl (.refl hi)
 | o::l,env,s,hi,hk=>by
  unfold Qys
  refine QtF hs hi fun env1 w s1 hw h1 e1=>?_
  refine Qpp hs e1.inv fun env2 s2 h2 e2=>hk env2 s2 ?_ (e1.trans e2)
  rw [QCB,h1,Option.bind_some,h2]
end
end Go.Sy
