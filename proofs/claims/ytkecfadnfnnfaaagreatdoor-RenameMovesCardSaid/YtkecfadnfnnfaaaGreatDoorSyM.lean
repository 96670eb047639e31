/- Symbolic runs: calls, operations, steps. -/
import Derived.Test.YtkecfadnfnnfaaaGreatDoorSyL
set_option linter.unusedVariables false
set_option linter.unusedSimpArgs false
namespace Go.Sy
open Go Go.Ev
def env0 (ps:List Ty)(x:Pr ps):Env:=Env.setP ps Env.none 0 x
theorem Qvu (ts:List Ty)(env:Env)(n:Nat)(x:Pr ts)(i:Nat)(h:i<n)(t:Ty):Env.setP ts env n x i t=env i t:=(QcS ts env n x i h t).symm
theorem Qsp (env:Env):∀ (ts:List Ty) (θ:List Ex) (base:Env) (k i:Nat) (t:Ty),ts[i]?=some t→Env.setP ts base k (mkPr env ts θ) (k+i) t=(θ.getD i .un).den env t
 | [],θ,base,k,i,t,h=>by simp at h
 | [a],θ,base,k,i,t,h=>by
  cases i with
  | zero=>
   simp only [List.getElem?_cons_zero,Option.some.injEq] at h
   subst h
   show (base.set k a (mkPr env [a] θ)) k a=_
   rw [QfE]
   cases θ<;>rfl
  | succ i=>simp at h
 | a::b::l,θ,base,k,i,t,h=>by
  cases i with
  | zero=>
   simp only [List.getElem?_cons_zero,Option.some.injEq] at h
   subst h
   show Env.setP (b::l) (base.set k a (mkPr env (a::b::l) θ).1) (k+1) (mkPr env (a::b::l) θ).2 k a=_
   rw [Qvu (b::l) _ _ _ k (Nat.lt_succ_self k),QfE]
   cases θ<;>rfl
  | succ i=>
   simp only [List.getElem?_cons_succ] at h
   show Env.setP (b::l) (base.set k a (mkPr env (a::b::l) θ).1) (k+1) (mkPr env (a::b::l) θ).2 (k+(i+1)) t=_
   have:(mkPr env (a::b::l) θ).2=mkPr env (b::l) θ.tail:=by cases θ<;>rfl
   rw [this,show k+(i+1)=k+1+i by omega,Qsp env (b::l) θ.tail _ (k+1) i t h]
   cases θ with
   | nil=>rfl
   | cons e es=>rfl
section
variable (c:Ctx) (rec:Task→Option Res) (tb:Tab)
def QgN (q:Fam)(e0:Env)(ex:Go.Ev.Ex)(fr:Fr)(H:Heap):Prop:=match q.kind with
 | 1=>rec (.fn q.f ((embF e0 q.fr).map (·.2)) (embH e0 q.H))=some (.val (Fr.get fr 0) H)
 | 2=>∀ F b lb,c.fn q.f=some F→F.body=some b→QiY (QaD b 0) q.id=some lb→rec (.loop q.f q.id q.m lb ⟨embF e0 q.fr,embH e0 q.H⟩)=some (.code ex ⟨fr,H⟩)
 | _=>match c.prim q.f with
  | .pure p=>p ((embF e0 q.fr).map (·.2))=some (Fr.get fr 0)
  | _=>∃ H',rec (.pfn q.f ((embF e0 q.fr).map (·.2)))=some (.val (Fr.get fr 0) H')
def Sound (m:(f:Nat)→Pr (tb.P f)→Option (Sm (tb.O f))):Prop:=∀ i x z,m i x=some z→∀ (env:Env) (θ:List Ex) (n j:Nat) (o:Out),mkPr env (tb.P i) θ=x→Qgb env (tb.O i) z j n→
 (tb.fam i).outs[j]?=some o→QgN c rec (tb.fam i) (env0 (tb.P i) x) o.ex (embF env (o.state θ n).1) (embH env (o.state θ n).2)
end
section
variable {c:Ctx} {rec:Task→Option Res} {tb:Tab} {m:(f:Nat)→Pr (tb.P f)→Option (Sm (tb.O f))} {α:Type}
variable {env:Env} {s:SS} {Q:Env→α→Prop}
theorem Qoi {f:Nat}{θ:List Ex}{j n:Nat}:∀ {fs:List Fact},(∀ g∈fs,Fact.holds m env g)→Qto f θ fs=some (j,n)→∃ z,m f (mkPr env (tb.P f) θ)=some z∧Qgb env (tb.O f) z j n
 | [],_,h=>by simp [Qto] at h
 | .call g xs i k len::r,hf,h=>by
  simp only [Qto] at h
  split at h
  ·rename_i hx
   obtain ⟨h1,h2⟩:=Qal hx
   have e1:=QbQ h1
   have e2:=Qwy h2
   subst e1 e2
   simp only [Option.some.injEq,Prod.mk.injEq] at h
   obtain ⟨rfl,rfl⟩:=h
   obtain ⟨z,h1,h2,_⟩:=hf (.call g xs i k len) (by simp)
   exact ⟨z,h1,h2⟩
  ·exact Qoi (fun f hm=>hf f (by simp [hm])) h
 | .cond ..::r,hf,h=>by simp only [Qto] at h; exact Qoi (fun f hm=>hf f (by simp [hm])) h
 | .idx ..::r,hf,h=>by simp only [Qto] at h; exact Qoi (fun f hm=>hf f (by simp [hm])) h
theorem QAu {f:Nat}{θ:List Ex}{K:Out→Nat→SS→T α}:∀ (l:List Out) (j:Nat) (z:Sm (l.map Out.ts)),
  (∀ k o env',l[k]?=some o→Qgb env' (l.map Out.ts) z k s.nx→Agree s.nx env env'→
   Ok m (K o s.nx { s with nx:=s.nx+o.ts.length,fs:=.call f θ (j+k) s.nx o.ts.length::s.fs }) env' Q)→OkA m (alts f θ s K l j) (l.map Out.ts) z s.nx env Q
 | [],j,z,h=>z.elim
 | [o],j,z,h=>by
  simp only [List.map_cons,List.map_nil,alts,OkA]
  exact h 0 o _ rfl (Qee o.ts env s.nx z) (QcS o.ts env s.nx z)
 | o::o2::l,j,.inl p,h=>by
  simp only [List.map_cons,alts,OkA]
  exact h 0 o _ rfl (Qee o.ts env s.nx p) (QcS o.ts env s.nx p)
 | o::o2::l,j,.inr y,h=>by
  have:=QAu (o2::l) (j+1) y fun k o' env' hk ha hg=>by
   have:=h (k+1) o' env' (by simpa using hk) ha hg
   rw [show j+(k+1)=j+1+k by omega] at this
   exact this
  simp only [List.map_cons,alts,OkA] at this ⊢
  exact this
theorem Qoj {f:Nat}{θ:List Ex}{pend:List SV}{K:Out→Nat→SS→T α}(hi:Inv m env s)
  (hk:∀ env' o n j s' z,m f (mkPr env' (tb.P f) θ)=some z→Qgb env' (tb.O f) z j n→(tb.fam f).outs[j]?=some o→ExtH m env s env' s'→SV.embL env' pend=SV.embL env pend→
   (∀ e∈θ,∀ t,e.den env' t=e.den env t)→Ok m (K o n s') env' Q):Ok m (Qqr tb f θ pend s K) env Q:=by
 unfold Qqr
 split
 ·rename_i j n hl
  obtain ⟨z,h1,h2⟩:=Qoi hi hl
  split
  ·rename_i o ho
   exact hk env o n j s z h1 h2 ho (.refl hi) rfl (fun _ _ _=>rfl)
  ·simp only [Ok]
 ·split
  ·rename_i hb
   obtain ⟨h1,h2⟩:=Qal hb
   obtain ⟨h2,h3⟩:=Qal h2
   simp only [Ok]
   intro z hz
   refine QAu (tb.fam f).outs 0 z fun k o env' hk' ha hg=>?_
   have hpr:mkPr env' (tb.P f) θ=mkPr env (tb.P f) θ:=(QhD hg _ _ h3).symm
   refine hk env' o s.nx k _ z (by rw [hpr]; exact hz) ha hk' ⟨⟨?_,by simp,hg,rfl,(Qsg hg h1).1⟩,rfl,(Qsg hg h1).2⟩ (QcU hg h2).symm fun e he t=>(Qaw hg (List.all_eq_true.mp h3 e he) t).symm
   refine Inv.add (s:={ s with nx:=s.nx+o.ts.length }) (fun g hg'=>Qpn hg h1 hi g hg') ?_
   refine ⟨z,by rw [hpr]; exact hz,by rw [Nat.zero_add]; exact ha,o.ts,?_,rfl⟩
   show ((tb.fam f).outs.map Out.ts)[0+k]?=some o.ts
   rw [Nat.zero_add,List.getElem?_map,hk']
   rfl
  ·simp only [Ok]
theorem QhH:∀ {l:List Nat} {fr:SF} {H:SH} {θ:List (Ty×Ex)} {i:Nat},Qjr tb l fr H θ=some i→(tb.fam i).fr=fr∧(tb.fam i).H=H∧(tb.fam i).ps=θ.map (·.1)
 | [],_,_,_,_,h=>by simp [Qjr] at h
 | j::l,fr,H,θ,i,h=>by
  simp only [Qjr] at h
  split at h
  ·rename_i hb
   simp only [Option.some.injEq] at h
   subst h
   obtain ⟨h1,h2⟩:=Qal hb
   obtain ⟨h2,h3⟩:=Qal h2
   exact ⟨Qk9 h1,QmS h2,Qwz h3⟩
  ·exact QhH h
theorem Qjy {i:Nat}{fr fr':SF}{H H':SH}{θ:List (Ty×Ex)}(h:absS fr H=some (fr',H',θ))(h1:(tb.fam i).fr=fr')(h2:(tb.fam i).H=H')(h3:(tb.fam i).ps=θ.map (·.1))(env:Env):
  embF (env0 (tb.P i) (mkPr env (tb.P i) (θ.map (·.2)))) (tb.fam i).fr=embF env fr∧embH (env0 (tb.P i) (mkPr env (tb.P i) (θ.map (·.2)))) (tb.fam i).H=embH env H:=by
 rw [h1,h2]
 refine Qso h fun k t e hk=>?_
 have hp:(tb.P i)[k]?=some t:=by
  show (tb.fam i).ps[k]?=some t
  rw [h3,List.getElem?_map,hk]
  rfl
 have:=Qsp env (tb.P i) (θ.map (·.2)) Env.none 0 k t hp
 rw [Nat.zero_add] at this
 rw [show env0 (tb.P i) (mkPr env (tb.P i) (θ.map (·.2))) k t=_ from this]
 congr 1
 rw [List.getD_eq_getElem?_getD,List.getElem?_map,hk]
 rfl
theorem Qig:∀ {ts:List Ty} {vs:List SV} {θ:List Ex} {k:Nat} {e:Env},Qfb ts vs=some θ→(∀ i t,ts[i]?=some t→e (k+i) t=(θ.getD i .un).den env t)→SV.embL e (QuU ts k)=SV.embL env vs
 | [],[],θ,k,e,h,he=>rfl
 | t::ts,v::vs,θ,k,e,h,he=>by
  simp only [Qfb] at h
  split at h
  ·rename_i x es h1 h2
   simp only [Option.some.injEq] at h
   subst h
   have e1:e k t=x.den env t:=he 0 t rfl
   show (sval t (.v k)).emb e::SV.embL e (QuU ts (k+1))=v.emb env::SV.embL env vs
   rw [Qse,QlP env h1,Qig h2 fun i u hu=>by
    have:=he (i+1) u (by simpa using hu)
    rw [show k+1+i=k+(i+1) by omega]
    exact this]
   show valT t (e k t)::_=_
   rw [e1]
  ·cases h
 | [],_::_,θ,k,e,h,he=>by simp [Qfb] at h
 | _::_,[],θ,k,e,h,he=>by simp [Qfb] at h
theorem Qq6 (p:List AV→Option AV)(args:List AV)(H:Heap):Qh3 p args H=
  (mapM' (Qah H 12) args).bind fun fs=>(p fs).bind fun v=>if QgL 8 v=true then some (v,H) else (Qbr (args.flatMap (frozenIn 12)) H).bind fun H=>some (v,H):=by
 unfold Qh3
 cases mapM' (Qah H 12) args with
 | none=>rfl
 | some fs=>
  simp only [Option.bind_some]
  cases p fs with
  | none=>rfl
  | some v=>
   simp only [Option.bind_some]
   cases QgL 8 v with
   | true=>rfl
   | false=>
    simp only
    cases Qbr (args.flatMap (frozenIn 12)) H<;>rfl
theorem Qih (env:Env)(l:List SV):(SV.embL env l).flatMap (frozenIn 12)=l.flatMap (Qe9 12):=by
 rw [QaX,List.flatMap_map]
 congr 1
 funext v
 exact QgY env 12 v
variable {K:SV→SS→T α}
noncomputable def QmZ (c:Ctx)(rec:Task→Option Res)(f:FuncId)(args:List AV)(H:Heap):Option (AV×Heap):=match c.prim f with
 | .pure p=>Qh3 p args H
 | _=>QgP rec f args H
theorem Qpv (env:Env):∀ (k:Nat) (l:List SV),(embF env (argF k l)).map (·.2)=SV.embL env l
 | _,[]=>rfl
 | k,v::l=>by
  show v.emb env::(embF env (argF (k+1) l)).map (·.2)=v.emb env::SV.embL env l
  rw [Qpv env (k+1) l]
theorem Qyb {f:FuncId}{fs:List SV}{fam:Nat}{θ:List Ex}(h:QuV tb f fs=some (fam,θ)){env':Env}(hp:SV.embL env' fs=SV.embL env fs)(hθ':∀ e∈θ,∀ t,e.den env' t=e.den env t):
  (embF (env0 (tb.P fam) (mkPr env' (tb.P fam) θ)) (tb.fam fam).fr).map (·.2)=SV.embL env fs:=by
 unfold QuV at h
 split at h
 ·rename_i fam' hfam
  split at h
  ·rename_i θ2 hθ
   split at h
   ·rename_i b3
    simp only [Option.some.injEq,Prod.mk.injEq] at h
    obtain ⟨rfl,rfl⟩:=h
    rw [Qpk,Qea b3]
    refine Qig hθ fun i t ht=>?_
    have:=Qsp env' (tb.P fam') θ2 Env.none 0 i t ht
    rw [show (0+i)=i by omega] at this ⊢
    rw [show env0 (tb.P fam') (mkPr env' (tb.P fam') θ2) i t=_ from this]
    cases hg:θ2[i]? with
    | none=>rw [List.getD_eq_getElem?_getD,hg]; rfl
    | some x=>
     rw [List.getD_eq_getElem?_getD,hg]
     exact hθ' x (List.mem_of_getElem? hg) t
   ·cases h
  ·cases h
 ·split at h
  ·rename_i fr H θ2 ha
   split at h
   ·rename_i fam' hfam
    simp only [Option.some.injEq,Prod.mk.injEq] at h
    obtain ⟨rfl,rfl⟩:=h
    obtain ⟨f1,f2,f3⟩:=QhH hfam
    obtain ⟨g1,_⟩:=Qjy (tb:=tb) (i:=fam') ha f1 f2 f3 env'
    rw [g1,Qpv,hp]
   ·cases h
  ·cases h
theorem QwM (hs:Sound c rec tb m){f:FuncId}{args fs:List SV}(hi:Inv m env s)(hf:mapM' (Qah (embH env s.H) 12) (SV.embL env args)=some (SV.embL env fs))
  (hk:Next m (QmZ c rec f (SV.embL env args) (embH env s.H)) env s K Q):Ok m (Qzs tb f args fs s K) env Q:=by
 unfold Qzs
 refine Qas fun q hq=>Qbu fun hb=>?_
 obtain ⟨fam,θ⟩:=q
 obtain ⟨b1,b2⟩:=Qal hb
 refine Qoj hi fun env' o n j s1 z hz ha ho e1 hp hθ'=>?_
 have hm:=hs fam _ z hz env' θ n j o rfl ha ho
 have hp2:SV.embL env' fs=SV.embL env fs:=by
  rw [QlO,QlO] at hp
  exact (List.append_inj hp (by simp [QaX])).2
 have hargs:=Qyb (env:=env) hq hp2 hθ'
 have hkind:(tb.fam fam).kind=0∨(tb.fam fam).kind=3:=by
  rcases Bool.or_eq_true _ _ |>.mp b1 with h |h
  ·exact .inl (QbQ h)
  ·exact .inr (QbQ h)
 have hm':match c.prim (tb.fam fam).f with
  | .pure p=>p (SV.embL env fs)=some ((getZ (o.state θ n).1).emb env')
  | _=>∃ H',rec (.pfn (tb.fam fam).f (SV.embL env fs))=some (.val ((getZ (o.state θ n).1).emb env') H'):=by
  unfold QgN at hm
  have hz':Fr.get (embF env' (o.state θ n).1) 0=(getZ (o.state θ n).1).emb env':=(QfG env' _ 0).symm
  rw [hz'] at hm
  rcases hkind with h |h<;>(rw [h] at hm; simp only [hargs] at hm; exact hm)
 rw [QbQ b2] at hm'
 have res:QmZ c rec f (SV.embL env args) (embH env s.H)=if Qtp 8 (getZ (o.state θ n).1)=true then some ((getZ (o.state θ n).1).emb env',embH env s.H) else (Qbr (args.flatMap (Qe9 12)) (embH env s.H)).bind fun H=>some ((getZ (o.state θ n).1).emb env',H):=by
  unfold QmZ
  cases hpr:c.prim f with
  | pure p=>
   rw [hpr] at hm'
   simp only at hm' ⊢
   rw [Qq6,hf,Option.bind_some,hm',Option.bind_some,QhF,Qih]
  | no=>
   rw [hpr] at hm'
   obtain ⟨H',hm'⟩:=hm'
   simp only
   rw [Qq0,hf,Option.bind_some,hm',Option.bind_some,QzQ,QhF,Qih]
  | clone e=>
   rw [hpr] at hm'
   obtain ⟨H',hm'⟩:=hm'
   simp only
   rw [Qq0,hf,Option.bind_some,hm',Option.bind_some,QzQ,QhF,Qih]
 simp only
 split
 ·rename_i hfl
  rw [if_pos hfl] at res
  exact hk.same e1 res
 ·rename_i hfl
  rw [if_neg (by rw [hfl]; simp)] at res
  refine Qas fun H hH=>hk env' _ _ ?_ (e1.toExt.setH _)
  rw [res,← e1.emH,← e1.H,Qla hH]
  rfl
theorem Qjz (env:Env)(τ:Nat→Nat):∀ (l:List Nat) (H' H:SH),((embH env H').drop l.length,laid τ l (embH env H') (embH env H))=(embH env (Qf7 τ l H' H).1,embH env (Qf7 τ l H' H).2)
 | [],H',H=>rfl
 | b::l,[],H=>by
  have:=Qjz env τ l [] H
  simp only [Prod.mk.injEq] at this
  show (([]:Heap).drop (l.length+1),laid τ l [] (embH env H))=(embH env (Qf7 τ l [] H).1,embH env (Qf7 τ l [] H).2)
  rw [← this.2,← this.1]
  simp [embH]
 | b::l,x::H',H=>by
  have:=Qjz env τ l H' (H.set b (x.ren τ))
  rw [QgW,← Qkm] at this
  exact this
theorem QAv (hs:Sound c rec tb m){f:FuncId}{args:List SV}(hi:Inv m env s)(hk:Next m (Qh2 rec f (SV.embL env args) (embH env s.H)) env s K Q):Ok m (rawT tb f args s K) env Q:=by
 unfold rawT
 refine Qas fun seen hseen=>?_
 simp only
 refine Qas fun p hp=>?_
 obtain ⟨fr,H,θ⟩:=p
 simp only
 refine Qas fun fam hfam=>Qbu fun hb=>?_
 obtain ⟨b1,b2⟩:=Qal hb
 obtain ⟨f1,f2,f3⟩:=QhH hfam
 refine Qoj hi fun env' o n j s1 z hz ha ho e1 hpend hθ'=>?_
 have hm:=hs fam _ z hz env' _ n j o rfl ha ho
 obtain ⟨g1,g2⟩:=Qjy (tb:=tb) (i:=fam) hp f1 f2 f3 env'
 unfold QgN at hm
 rw [QbQ b1] at hm
 simp only [g1,g2,QbQ b2,Qpv] at hm
 have hz':Fr.get (embF env' (o.state (θ.map (·.2)) n).1) 0=(getZ (o.state (θ.map (·.2)) n).1).emb env':=(QfG env' _ 0).symm
 rw [hz'] at hm
 refine hk env' _ _ ?_ (e1.toExt.setH _)
 rw [← e1.emH,← hpend,QzU,QtG,hseen,Option.bind_some,QdP,QwG,QwF,hm,Option.bind_some,QzQ,Qh7,QqK]
 have hbk:=Qjz env' (Qc5 seen seen.length s.H.length) seen (o.state (θ.map (·.2)) n).2 s.H
 simp only [Prod.mk.injEq] at hbk
 rw [Qa6,hbk.1,hbk.2,show Ev.ren (Qc5 seen seen.length s.H.length) ((getZ (o.state (θ.map (·.2)) n).1).emb env')=_ from QlT env' _ 8 _,e1.H,Qdw]
 congr 2
 congr 1
 simp only [embH,List.map_map,Function.comp_def]
 exact List.map_congr_left fun b _=>Qkm env' _ b
theorem QtN {H:Heap}:∀ {l:List AV} {r:List AV},mapM' (Qah H 12) l=some r→(l.all fun v=>(Qah H 12 v).isSome)=true
 | [],r,h=>rfl
 | v::l,r,h=>by
  rw [mapM'_cons,Qic] at h
  cases h1:Qah H 12 v with
  | none=>rw [h1] at h; simp at h
  | some x=>
   rw [h1,Option.bind_some] at h
   cases h2:mapM' (Qah H 12) l with
   | none=>rw [h2] at h; simp at h
   | some y=>simp only [List.all_cons,h1,Option.isSome_some,Bool.true_and]; exact QtN h2
theorem QtO {H:Heap}:∀ {l:List AV},mapM' (Qah H 12) l=none→(l.all fun v=>(Qah H 12 v).isSome)=false
 | [],h=>by simp [mapM'_nil] at h
 | v::l,h=>by
  rw [mapM'_cons,Qic] at h
  cases h1:Qah H 12 v with
  | none=>simp only [List.all_cons,h1,Option.isSome_none,Bool.false_and]
  | some x=>
   rw [h1,Option.bind_some] at h
   cases h2:mapM' (Qah H 12) l with
   | none=>simp only [List.all_cons,QtO h2,Bool.and_false]
   | some y=>rw [h2] at h; simp at h
theorem QCL (hs:Sound c rec tb m){f:FuncId}{args:List SV}(hi:Inv m env s)(hk:Next m (QiJ c rec f (SV.embL env args) (embH env s.H)) env s K Q):Ok m (Qib c tb f args s K) env Q:=by
 have pure:∀ {fs:List SV} {g:List Ex},QmH s.H args=some (fs,g)→QiJ c rec f (SV.embL env args) (embH env s.H)=QmZ c rec f (SV.embL env args) (embH env s.H)→Ok m (guards g s fun s=>Qzs tb f args fs s K) env Q:=fun {fs g} h he=>by
  refine QcK hi fun s1 hg e1=>?_
  have hf:=Qkl (env:=env) 12 h hg
  refine QwM hs e1.inv (by rw [e1.H]; exact hf) ?_
  intro env' v s' hr e2
  refine hk env' v s' ?_ (e1.toExt.trans e2)
  rw [he,← e1.H]
  exact hr
 unfold Qib
 split
 ·rename_i e he
  rw [Qvb c rec f _ _ e he] at hk
  exact QAn hi hk
 ·rename_i p hp
  refine Qas fun q hq=>?_
  obtain ⟨fs,g⟩:=q
  refine pure hq ?_
  unfold QiJ QmZ
  rw [hp]
 ·rename_i hno
  split
  ·rename_i hr
   rw [Qsb c rec f _ _ hno,hr,Bool.true_or,if_pos rfl] at hk
   exact QAv hs hi hk
  ·rename_i hr
   split
   ·rename_i hn
    have:((SV.embL env args).all fun v=>(Qah (embH env s.H) 12 v).isSome)=false:=QtO (Qjx 12 hn)
    rw [Qsb c rec f _ _ hno,hr,this,Bool.not_false,Bool.or_true,if_pos rfl] at hk
    exact QAv hs hi hk
   ·rename_i fs g hq
    refine QcK hi fun s1 hg e1=>?_
    have hf:=Qkl (env:=env) 12 hq hg
    refine QwM hs e1.inv (by rw [e1.H]; exact hf) ?_
    intro env' v s' hr' e2
    refine hk env' v s' ?_ (e1.toExt.trans e2)
    rw [Qsb c rec f _ _ hno,hr,QtN hf,← e1.H,← hr']
    unfold QmZ
    rw [hno]
    rfl
theorem QtP (env:Env)(fr:SF)(l:List (Nat×Operand)):(l.map fun p=>(p.1,opvS fr p.2)).map (fun p=>(p.1,p.2.emb env))=l.map fun p=>(p.1,opv (embF env fr) p.2):=by
 rw [List.map_map]
 exact List.map_congr_left fun p _=>by simp only [Function.comp_apply,Qax]
theorem Qsq (env:Env)(fr:SF)(l:List Operand):SV.embL env (l.map (opvS fr))=l.map (opv (embF env fr)):=by
 rw [QaX,List.map_map]
 exact List.map_congr_left fun p _=>Qax env fr p
theorem QwN (env:Env)(fr:SF)(l:Option Operand):(l.map (opvS fr)).map (SV.emb env)=l.map (opv (embF env fr)):=by
 cases l with
 | none=>rfl
 | some x=>simp only [Option.map_some,Qax]
theorem QAw (hs:Sound c rec tb m){cl:Call}(hi:Inv m env s)(hk:Next m (Qh5 c rec cl (embF env s.fr) (embH env s.H)) env s K Q):Ok m (QzD c tb cl s K) env Q:=by
 unfold QzD
 unfold Qh5 at hk
 split
 ·rename_i f hf
  rw [hf] at hk
  simp only at hk
  split
  ·rename_i g caps hg
   rw [← Qax,hg] at hk
   refine QCL hs hi ?_
   rw [QlO,Qsq]
   exact hk
  ·simp only [Ok]
 ·rename_i b hb
  rw [hb] at hk
  simp only at hk
  refine Qvo hi ?_
  rw [Qsq]
  exact hk
 ·simp only [Ok]
theorem Qsr {d:TD}{tk:Ty}(h:keyT d tk=true)(a b:tk.D):QeC d (valT tk a) (valT tk b)=some (keyD tk a b):=by
 cases tk with
 | int k=>
  cases d<;>simp only [keyT,reduceCtorEq] at h
  show (match decide (k=k) with |true=>some (eqI a b) |false=>none)=_
  rw [decide_eq_true rfl]
  rfl
 | bool=>
  cases d<;>simp only [keyT,reduceCtorEq] at h
  rfl
 | str=>
  cases d<;>simp only [keyT,reduceCtorEq] at h
  show some ((a:List UInt8)==b)=some (decide (a=b))
  congr 1
  by_cases hab:a=b
  ·subst hab
   rw [decide_eq_true rfl]
   exact beq_self_eq_true _
  ·rw [decide_eq_false hab]
   exact beq_eq_false_iff_ne.mpr hab
 | _=>cases d<;>simp [keyT] at h
def QjA (tk tv:Ty)(l:List (tk.D×tv.D)):List (AV×AV):=l.map fun p=>(valT tk p.1,valT tv p.2)
theorem QtQ {d:TD}{tk:Ty}(h:keyT d tk=true)(tv:Ty)(x:tk.D)(z:tv.D):∀ l:List (tk.D×tv.D),Qnm d (valT tk x) (QjA tk tv l)=some (match hasD tk tv l x with |true=>some (valT tv (findD tk tv l x z)) |false=>none)
 | []=>rfl
 | p::l=>by
  have ih:=QtQ h tv x z l
  show (match QeC d (valT tk x) (valT tk p.1) with |none=>none |some true=>some (some (valT tv p.2)) |some false=>Qnm d (valT tk x) (QjA tk tv l))=_
  rw [Qsr h,hasD,findD]
  cases keyD tk x p.1 with
  | true=>rfl
  | false=>
   simp only [Bool.false_or]
   exact ih
theorem QtR {tk tv:Ty}{x:tk.D}{z:tv.D}:∀ {l:List (tk.D×tv.D)},hasD tk tv l x=false→findD tk tv l x z=z
 | [],_=>rfl
 | p::l,h=>by
  rw [hasD] at h
  cases hk:keyD tk x p.1 with
  | true=>rw [hk] at h; cases h
  | false=>
   rw [hk] at h
   rw [findD,hk]
   exact QtR h
theorem QwO {d:TD}{tk:Ty}(h:keyT d tk=true)(tv:Ty)(x:tk.D)(y:tv.D):∀ l:List (tk.D×tv.D),Qs2 d (valT tk x) (valT tv y) (QjA tk tv l)=some (QjA tk tv (putD tk tv l x y))
 | []=>rfl
 | p::l=>by
  have ih:=QwO h tv x y l
  show (match QeC d (valT tk x) (valT tk p.1) with |none=>none |some true=>some ((valT tk p.1,valT tv y)::QjA tk tv l) |some false=>match Qs2 d (valT tk x) (valT tv y) (QjA tk tv l) with |none=>none |some r=>some ((valT tk p.1,valT tv p.2)::r))=_
  rw [Qsr h,putD]
  cases keyD tk x p.1 with
  | true=>rfl
  | false=>
   simp only [ih]
   rfl
theorem QwP {d:TD}{tk:Ty}(h:keyT d tk=true)(x:tk.D):QrF d (valT tk x)=true:=by
 unfold QrF
 rw [Qsr h]
theorem QCM (env:Env){i:TI}{t:Ty}{e:Ex}(h:zeroV i t=some e):pack i i.zero=some (valT t (e.den env t)):=by
 unfold zeroV at h
 split at h
 ·rename_i b hk ha hz
  split at h
  ·simp only [Option.some.injEq] at h
   subst h
   unfold pack
   rw [hk,ha,hz]
   rfl
  ·cases h
 ·rename_i j n hk ha hz
  split at h
  ·rename_i k
   split at h
   ·rename_i hj
    simp only [Option.some.injEq] at h
    subst h
    unfold pack
    rw [hk,ha,hz,QiL hj]
    rfl
   ·cases h
  ·cases h
 ·rename_i x hk ha hz
  split at h
  ·simp only [Option.some.injEq] at h
   subst h
   unfold pack
   rw [hk,ha,hz]
   rfl
  ·cases h
 ·cases h
theorem Qyc (env:Env){i:TI}{H:SH}{x ix:SV}{ok:Bool}{v:SV}(h:QuZ c i H x ix ok=some v):Qj9 c i (x.emb env) (ix.emb env) ok (embH env H)=some (v.emb env):=by
 unfold QuZ at h
 split at h
 ·rename_i kt e b hd
  split at h
  ·rename_i tk tv m hb
   split at h
   ·rename_i hkt
    split at h
    ·rename_i k z hk hz
     unfold Qj9
     rw [hd]
     have he:entriesOf (embH env H) ((SV.map b).emb env)=some (QjA tk tv (m.den env (.lst (.pair tk tv)))):=by
      show (match (embH env H)[b]? with |some (.map es)=>some es |_=>none)=_
      rw [QbP,hb]
      rfl
     simp only
     rw [he,QlP env hk,QwP hkt]
     simp only
     rw [QtQ hkt tv (k.den env tk) (z.den env tv)]
     simp only
     have e2:(Ex.o3 (.mget tk) m k z).den env tv=findD tk tv (m.den env (.lst (.pair tk tv))) (k.den env tk) (z.den env tv):=rfl
     have e3:(Ex.o2 (.has tk tv) m k).den env .bool=hasD tk tv (m.den env (.lst (.pair tk tv))) (k.den env tk):=rfl
     have e4:(sval tv (.o3 (.mget tk) m k z)).emb env=valT tv (findD tk tv (m.den env (.lst (.pair tk tv))) (k.den env tk) (z.den env tv)):=by rw [Qse,e2]
     cases hh:hasD tk tv (m.den env (.lst (.pair tk tv))) (k.den env tk) with
     | true=>
      simp only
      cases ok with
      | true=>
       simp only [Option.some.injEq] at h
       subst h
       show some (AV.tup [_,_])=some (AV.tup [(sval tv (.o3 (.mget tk) m k z)).emb env,AV.bool ((Ex.o2 (.has tk tv) m k).den env .bool)])
       rw [e3,hh,e4]
       rfl
      | false=>
       simp only [Option.some.injEq] at h
       subst h
       rw [e4]
     | false=>
      simp only
      rw [QtR hh] at e4
      rw [QCM env hz]
      simp only
      cases ok with
      | true=>
       simp only [Option.some.injEq] at h
       subst h
       show some (AV.tup [_,_])=some (AV.tup [(sval tv (.o3 (.mget tk) m k z)).emb env,AV.bool ((Ex.o2 (.has tk tv) m k).den env .bool)])
       rw [e3,hh,e4]
       rfl
      | false=>
       simp only [Option.some.injEq] at h
       subst h
       rw [e4]
    ·cases h
   ·cases h
  ·cases h
 ·cases h
theorem Qss {t:Ty}(h:QzC t=true)(x:t.D)(H:Heap):Qd4 H (valT t x)=some (valT t x,H):=by
 cases t<;>first |rfl |(simp [QzC] at h)
theorem Qrc (env:Env){i:TI}{H H':SH}{x k v:SV}(h:Qr5 c i H x k v=some H'):Qlv c i (x.emb env) (k.emb env) (v.emb env) (embH env H)=some (.tup [],embH env H'):=by
 unfold Qr5 at h
 split at h
 ·rename_i kt e b hd
  split at h
  ·rename_i tk tv m hb
   split at h
   ·rename_i hkt
    obtain ⟨h1,h2⟩:=Qal hkt
    split at h
    ·rename_i ke ve hk hv
     simp only [Option.some.injEq] at h
     subst h
     have hg:(embH env H)[b]?=some (.map (QjA tk tv (m.den env (.lst (.pair tk tv))))):=by rw [QbP,hb]; rfl
     unfold Qlv
     rw [hd]
     show (match Qd4 (embH env H) (v.emb env) with |none=>none |some (v,H)=>match H[b]? with
      | some (.map es)=>match QrF (c.ty kt).d (k.emb env) with
       | true=>match Qs2 (c.ty kt).d (k.emb env) v es with |some es=>fSp es fun es=>fSp (H.set b (.map es)) fun H=>some (AV.tup [],H) |none=>none
       | false=>none
      | _=>none)=_
     rw [QlP env hk,QlP env hv,Qss h2]
     simp only
     rw [hg]
     simp only
     rw [QwP h1]
     simp only
     rw [QwO h1]
     simp only [Qap]
     rw [QgW]
     rfl
    ·cases h
   ·cases h
  ·cases h
 ·cases h
theorem QFF (hs:Sound c rec tb m){o:Oper}(hi:Inv m env s)(hk:Next m (evOp c rec o (embF env s.fr) (embH env s.H)) env s K Q):Ok m (opS c tb o s K) env Q:=by
 unfold opS
 unfold evOp at hk
 cases ho:o.op<;>simp only [ho] at hk ⊢<;>try (simp only [Ok]; done)
 case lookup t x ix ok=>
  refine Qas fun v hv=>hk.pure hi ?_
  rw [← Qax,← Qax]
  exact Qyc env hv
 case mapUpdate t m k v=>
  refine Qas fun H hH=>hk env _ _ ?_ ((ExtH.refl hi).toExt.setH _)
  rw [← Qax,← Qax,← Qax]
  exact Qrc env hH
 case insert t m k v=>
  refine Qas fun H hH=>hk env _ _ ?_ ((ExtH.refl hi).toExt.setH _)
  rw [← Qax,← Qax,← Qax]
  exact Qrc env hH
 ·rename_i x
  exact hk.same (.refl hi) (by rw [Qax])
 ·rename_i x
  exact hk.same (.refl hi) (by rw [Qax])
 ·exact QCI hi (by simp only [Qax]; exact hk)
 ·exact QAo hi hk
 ·exact QEs hi (by simp only [Qax]; exact hk)
 ·refine Qas fun v hv=>hk.pure hi ?_
  rw [← QtP]
  exact QAj env hv
 ·refine Qqu hi ?_
  rw [QtP]
  exact hk
 ·exact QwJ hi (by simp only [Qax]; exact hk)
 ·rename_i t a v
  refine QAk hi fun env' s' h e=>hk env' _ s' ?_ e
  simp only [Qax] at h
  rw [QzZ,h]
  rfl
 ·refine Qas fun v hv=>hk.pure hi ?_
  rw [← Qax]
  exact QtI env hv
 ·refine Qas fun p hp=>?_
  obtain ⟨v,g⟩:=p
  refine Qkj hi fun s1 hg e1=>hk.same e1 ?_
  rw [← Qax,← Qax,QAh env hp hg]
  rfl
 ·refine Qas fun v hv=>hk.pure hi ?_
  rw [← Qax]
  exact QCF env hv
 ·refine Qas fun v hv=>hk.pure hi ?_
  rw [← Qax]
  exact Qvl env hv
 ·refine Qas fun v hv=>hk.pure hi ?_
  rw [← Qax]
  exact QAp env hv
 ·refine Qas fun v hv=>hk.pure hi ?_
  rw [← Qsq]
  exact QtJ env hv
 ·refine Qvp hi ?_
  rw [QwN]
  exact hk
 ·exact Qsk hi (by simp only [Qax]; exact hk)
 ·refine QAm hi ?_
  simp only [QwN,Qax]
  exact hk
 ·refine Qas fun v hv=>hk.pure hi ?_
  rw [← Qax]
  exact Qsl env hv
 ·refine Qas fun v hv=>hk.pure hi ?_
  rw [← Qax]
  exact QAq env hv
 ·exact Qsm hi (by simp only [Qax]; exact hk)
 ·exact QAr hi (by simp only [Qax]; exact hk)
 ·refine Qas fun v hv=>hk.pure hi ?_
  rw [← Qax]
  exact Qvr env hv
 ·exact QAw hs hi hk
theorem Qyd {ops:Array Oper}{o:Oper}{K:Bool→SS→T α}(hi:Inv m env s)
  (hk:∀ w s',QaT ops o (embF env s.fr)=some w→ExtH m env s env s'→Ok m (K w s') env Q):Ok m (Qu0 ops o s K) env Q:=by
 unfold Qu0
 unfold QaT at hk
 split
 ·rename_i hg
  exact hk true s (by rw [hg]) (.refl hi)
 ·rename_i j want hg
  split
  ·rename_i d hd
   simp only [hg,hd] at hk
   split
   ·rename_i e he
    rw [← QfG,he] at hk
    refine QlR hi fun b s1 hb e1=>hk _ s1 ?_ e1
    simp only [SV.emb,hb]
    cases b<;>cases want<;>rfl
   ·rename_i vs he
    rw [← QfG,he] at hk
    exact hk false s rfl (.refl hi)
   ·simp only [Ok]
  ·simp only [Ok]
structure Qef (m:(f:Nat)→Pr (tb.P f)→Option (Sm (tb.O f)))(env:Env)(s:SS)(env':Env)(s':SS):Prop where
 inv:Inv m env' s'
 nx:s.nx≤s'.nx
 agr:Agree s.nx env env'
theorem Qef.trans {e1 e2 e3:Env}{s1 s2 s3:SS}(h:Qef m e1 s1 e2 s2)(k:Qef m e2 s2 e3 s3):Qef m e1 s1 e3 s3:=⟨k.inv,Nat.le_trans h.nx k.nx,h.agr.trans k.agr h.nx⟩
theorem Ext.later {e1 e2:Env}{s1 s2:SS}(h:Ext m e1 s1 e2 s2):Qef m e1 s1 e2 s2:=⟨h.inv,h.nx,h.agr⟩
theorem Qef.refl (hi:Inv m env s):Qef m env s env s:=⟨hi,Nat.le_refl _,Agree.refl⟩
theorem Qst (hs:Sound c rec tb m){n:Nat}{ops:Array Oper}{o:Oper}{K:Bool→SS→T α}(hi:Inv m env s)
  (hk:∀ env' w s',QaT ops o (embF env s.fr)=some w→QbL c rec n ops o (s.emb env)=some (s'.emb env')→Qef m env s env' s'→Ok m (K w s') env' Q):Ok m (stepT c tb n ops o s K) env Q:=by
 unfold stepT
 split
 ·simp only [Ok]
 ·rename_i hd
  refine Qyd hi fun w s1 hw e1=>?_
  have hst:s.emb env=⟨embF env s.fr,embH env s.H⟩:=rfl
  split
  ·refine hk env false _ hw ?_ ⟨e1.inv,e1.nx,e1.agr⟩
   rw [Qwv,if_pos hd,hst]
   simp only [hw,Option.bind_some]
   rw [if_neg (by simp)]
   simp only [SS.emb,QwD,e1.fr,e1.H]
   rfl
  ·refine QFF hs e1.inv fun env' v s2 h2 e2=>?_
   refine hk env' true _ hw ?_ ((e1.toExt.later).trans ⟨e2.inv,e2.nx,e2.agr⟩)
   rw [Qwv,if_pos hd,hst]
   simp only [hw,Option.bind_some,if_true]
   rw [e1.fr,e1.H] at h2
   rw [h2,Option.bind_some]
   have hF:=e2.emF
   rw [e1.fr] at hF
   simp only [SS.emb,QwD,e2.fr,e1.fr,hF]
theorem Qok (hs:Sound c rec tb m){n:Nat}{ops:Array Oper}{K:SS→T α}:∀ {l:List Oper} {env:Env} {s:SS},Inv m env s→
  (∀ env' s',Qbs c rec n ops l (s.emb env)=some (s'.emb env')→Qef m env s env' s'→Ok m (K s') env' Q)→Ok m (QxM c tb n ops l s K) env Q
 | [],env,s,hi,hk=>hk env s rfl (.refl hi)
 | o::l,env,s,hi,hk=>by
  unfold QxM
  refine Qst hs hi fun env1 w s1 hw h1 e1=>?_
  refine Qok hs e1.inv fun env2 s2 h2 e2=>hk env2 s2 ?_ (e1.trans e2)
  rw [QCo,h1,Option.bind_some,h2]
end
end Go.Sy
