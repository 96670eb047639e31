/- Symbolic runs: the models of a program's functions and loops, and that they are true. -/
import Derived.Test.YtkecfadnfnnfaaaGreatDoorSyP
set_option linter.unusedVariables false
set_option linter.unusedSimpArgs false
noncomputable section
namespace Go.Sy
open Go Go.Ev
section
variable {c:Ctx} {rec:Task→Option Res} {tb:Tab} {m:(f:Nat)→Pr (tb.P f)→Option (Sm (tb.O f))}
theorem Qhr.two {q:Fam}(hq:q.kind=2){e0:Env}{ex:Go.Ev.Ex}{fr:Fr}{H:Heap}:Qhr c rec q e0 ex fr H↔∀ F b lb,c.fn q.f=some F→F.body=some b→Qkg (QaI b 0) q.id=some lb→rec (.loop q.f q.id q.m lb ⟨embF e0 q.fr,embH e0 q.H⟩)=some (.code ex ⟨fr,H⟩):=by
 unfold Qhr
 rw [hq]
 exact Iff.rfl
theorem QBN (hs:Sound c rec tb m){i:Nat}{F:Func}{bF lb:Code}(hF:c.fn (tb.fam i).f=some F)(hb:F.body=some bF)(hlb:Qkg (QaI bF 0) (tb.fam i).id=some lb)
  {env1:Env} {s:SS} {x:Pr (tb.P i)} (hi:Inv m env1 s) (hag:Agree (tb.P i).length (env0 (tb.P i) x) env1) (hnx:(tb.P i).length≤s.nx) {z:Sm (tb.O i)}
  (hz:(QAP c tb i (tb.fam i).f (tb.fam i).id (tb.fam i).m s).den tb.P tb.O m (tb.O i) env1=some z)
  {envC:Env} {θ:List Ex} {n j:Nat} {o:Out} (hx:mkPr envC (tb.P i) θ=x) (hal:Qg4 envC (tb.O i) z j n) (ho:(tb.fam i).outs[j]?=some o):
  ((s.emb env1).norm c (c.nilz (tb.fam i).f) (c.live (tb.fam i).f (tb.fam i).id) (tb.fam i).m fun st=>rec (.loop (tb.fam i).f (tb.fam i).id (tb.fam i).m lb st))=some (.code o.ex ⟨embF envC (o.state θ n).1,embH envC (o.state θ n).2⟩):=by
 unfold QAP Qqo at hz
 obtain ⟨s1,hs1,hz⟩:=QkW hz
 obtain ⟨hn1,hn2,hn3⟩:=Qm5 (env:=env1) hs1 (fun st=>rec (.loop (tb.fam i).f (tb.fam i).id (tb.fam i).m lb st))
 rw [hn1]
 obtain ⟨q,hq,hz⟩:=QkW hz
 obtain ⟨fr,H,θ'⟩:=q
 simp only at hz
 obtain ⟨g,hg,hz⟩:=QkW hz
 obtain ⟨hk,hz⟩:=QqN hz
 obtain ⟨k1,k2⟩:=Qan hk
 obtain ⟨k2,k3⟩:=Qan k2
 obtain ⟨k3,k4⟩:=Qan k3
 obtain ⟨f1,f2,f3⟩:=QiK hg
 have hi1:Inv m env1 s1:=fun f hf=>hi f (by rw [← hn3]; exact hf)
 split at hz
 ·rename_i hself
  obtain ⟨w1,w2⟩:=Qan hself
  have hgi:=Qcl w1
  subst hgi
  simp only [T.den] at hz
  rw [dif_pos trivial] at hz
  have hbound:∃ N,∀ e∈θ'.map (·.2),e.bnd N=true:=QGh (θ'.map (·.2))
  obtain ⟨N0,hN0⟩:=hbound
  let N:=max N0 (tb.P g).length
  have hN:∀ e∈θ'.map (·.2),e.bnd N=true:=fun e he=>QhH (Nat.le_max_left _ _) (hN0 e he)
  obtain ⟨env2,a1,a2,a3⟩:=QBM (tb.O g) z env1 N j envC n hal
  have hpr:mkPr env2 (tb.P g) (θ'.map (·.2))=mkPr env1 (tb.P g) (θ'.map (·.2)):=(QiG a1 _ _ (List.all_eq_true.mpr hN)).symm
  have hm:=hs g _ z hz env2 (θ'.map (·.2)) N j o hpr a2 ho
  rw [Qhr.two (Qcl k1)] at hm
  have hr:=hm F bF lb hF hb hlb
  obtain ⟨g1,g2⟩:=QkT (tb:=tb) (i:=g) hq f1 f2 f3 env1
  rw [g1,g2] at hr
  rw [show s1.emb env1=⟨embF env1 s1.fr,embH env1 s1.H⟩ from rfl,hr]
  have hoo:=List.all_eq_true.mp w2 o (List.mem_of_getElem? ho)
  obtain ⟨t1,t2⟩:=Qan hoo
  have hts:(tb.O g)[j]?=some o.ts:=by
   show ((tb.fam g).outs.map Out.ts)[j]?=_
   rw [List.getElem?_map,ho]
   rfl
  have hag2:Agree (tb.P g).length (env0 (tb.P g) x) env2:=hag.trans (a1.le (Nat.le_max_right _ _)) (Nat.le_refl _)
  have hh:=QlD (e1:=env2) (e2:=envC) (θ2:=θ) t2 (QBK hx hag2) (a3 _ hts)
  obtain ⟨r1,r2⟩:=QDB t1 (e1:=fun i u=>((o.σ (List.map (fun (p:Ty×Ex)=>p.2) θ') N) i).den env2 u) (e2:=fun i u=>((o.σ θ n) i).den envC u) (fun i t h=>hh i t h)
  congr 2
  show (⟨embF env2 (QrJ (o.σ (θ'.map (·.2)) N) o.fr),embH env2 (Qtk (o.σ (θ'.map (·.2)) N) o.H)⟩:St)=⟨embF envC (QrJ (o.σ θ n) o.fr),embH envC (Qtk (o.σ θ n) o.H)⟩
  rw [QkQ,QkQ,QmZ,QmZ,r1,r2]
 ·
  have hcall:Ok m (QrK tb g (θ'.map (·.2)) [] s1 fun o n s=>.ret ((o.ex,(o.state (θ'.map (·.2)) n).1),(o.state (θ'.map (·.2)) n).2)) env1 (fun env' p=>rec (.loop (tb.fam i).f (tb.fam i).id (tb.fam i).m lb (s1.emb env1))=some (.code p.1.1 ⟨embF env' p.1.2,embH env' p.2⟩)∧Agree s1.nx env1 env'):=by
   refine Qpu hi1 fun env' o' k j' s2 z' hz' ha' ho' e2 hp hθ=>?_
   simp only [Ok]
   have hm:=hs g _ z' hz' env' _ k j' o' rfl ha' ho'
   rw [Qhr.two (Qcl k1)] at hm
   have hr:=hm F bF lb (by rw [Qcl k2]; exact hF) hb (by rw [Qcl k3]; exact hlb)
   obtain ⟨g1,g2⟩:=QkT (tb:=tb) (i:=g) hq f1 f2 f3 env'
   rw [g1,g2,Qcl k2,Qcl k3,Qcl k4,e2.emF,e2.emH] at hr
   exact ⟨hr,e2.agr⟩
  have hbind:(QrK tb g (θ'.map (·.2)) [] s1 fun o n s=>(let q:=o.state (θ'.map (·.2)) n; outT (QlW (tb.fam i).ps (tb.fam i).outs o.ex q.1 q.2):T Unit))=
    (QrK tb g (θ'.map (·.2)) [] s1 fun o n s=>.ret ((o.ex,(o.state (θ'.map (·.2)) n).1),(o.state (θ'.map (·.2)) n).2)).bind fun p=>outT (QlW (tb.fam i).ps (tb.fam i).outs p.1.1 p.1.2 p.2):=by
   unfold QrK
   split
   ·split
    ·rfl
    ·rfl
   ·split
    ·simp only [T.bind]
     congr 1
     exact QsL _ _ _ _ _
    ·rfl
  rw [hbind] at hz
  obtain ⟨env2,p,⟨hr,hag2⟩,hz⟩:=Qe3 m _ env1 hz hcall
  rw [hr]
  obtain ⟨j',es,hl,hmk⟩:=Qnd hz
  have hlen:(tb.P i).length≤s1.nx:=by rw [hn2]; exact hnx
  obtain ⟨e1,e2,e3⟩:=QqO hl hmk hx (hag.trans (hag2.le hlen) (Nat.le_refl _)) hal ho
  rw [e1,e2,e3]
where
 QhH {a b:Nat} (h:a≤b):∀ {e:Ex},e.bnd a=true→e.bnd b=true
  | .v n,hb=>by
   simp only [Ex.bnd,Nat.blt_eq] at *
   omega
  | .il _,_=>rfl
  | .nn _,_=>rfl
  | .bl _,_=>rfl
  | .st _,_=>rfl
  | .nl,_=>rfl
  | .un,_=>rfl
  | .o1 o a,hb=>QhH h (e:=a) hb
  | .o2 o a b,hb=>by
   simp only [Ex.bnd] at *
   obtain ⟨h1,h2⟩:=Qan hb
   rw [QhH h h1,QhH h h2]
   rfl
  | .o3 o a b c,hb=>by
   simp only [Ex.bnd] at *
   obtain ⟨h1,h2⟩:=Qan hb
   obtain ⟨h2,h3⟩:=Qan h2
   rw [QhH h h1,QhH h h2,QhH h h3]
   rfl
 QqQ:∀ e:Ex,∃ N,e.bnd N=true
  | .v n=>⟨n+1,by simp [Ex.bnd,Nat.blt_eq]⟩
  | .il _=>⟨0,rfl⟩
  | .nn _=>⟨0,rfl⟩
  | .bl _=>⟨0,rfl⟩
  | .st _=>⟨0,rfl⟩
  | .nl=>⟨0,rfl⟩
  | .un=>⟨0,rfl⟩
  | .o1 o a=>QqQ a
  | .o2 o a b=>by
   obtain ⟨n,hn⟩:=QqQ a
   obtain ⟨k,hk⟩:=QqQ b
   refine ⟨max n k,?_⟩
   simp only [Ex.bnd]
   rw [QhH (Nat.le_max_left n k) hn,QhH (Nat.le_max_right n k) hk]
   rfl
  | .o3 o a b c=>by
   obtain ⟨n,hn⟩:=QqQ a
   obtain ⟨k,hk⟩:=QqQ b
   obtain ⟨l,hl⟩:=QqQ c
   refine ⟨max n (max k l),?_⟩
   simp only [Ex.bnd]
   rw [QhH (by omega) hn,QhH (by omega) hk,QhH (by omega) hl]
   rfl
 QGh:∀ l:List Ex,∃ N,∀ e∈l,e.bnd N=true
  | []=>⟨0,fun e h=>by simp at h⟩
  | a::l=>by
   obtain ⟨n,hn⟩:=QqQ a
   obtain ⟨k,hk⟩:=QGh l
   refine ⟨max n k,fun e he=>?_⟩
   simp only [List.mem_cons] at he
   rcases he with rfl |he
   ·exact QhH (Nat.le_max_left n k) hn
   ·exact QhH (Nat.le_max_right n k) (hk e he)
 QsL (f:Nat) (θ:List Ex) (s:SS) (ps:List Ty) (outs:List Out):∀ {l:List Out} {j:Nat},alts f θ s (fun o n s=>(let q:=o.state θ n; outT (QlW ps outs o.ex q.1 q.2):T Unit)) l j=
   (alts f θ s (fun o n s=>(.ret ((o.ex,(o.state θ n).1),(o.state θ n).2):T ((Go.Ev.Ex×SF)×SH))) l j).bind fun p=>outT (QlW ps outs p.1.1 p.1.2 p.2)
  | [],j=>rfl
  | o::l,j=>by
   simp only [alts,T.bind]
   rw [QsL f θ s ps outs]
end
end Go.Sy
end
noncomputable section
namespace Go.Sy
open Go Go.Ev
section
variable {c:Ctx} {rec:Task→Option Res} {tb:Tab} {m:(f:Nat)→Pr (tb.P f)→Option (Sm (tb.O f))}
theorem QBO {F:Func}{p:Go.Ev.Ex×SS}{env:Env}{α:Type}{K:List SV→SS→T α}{Q:Env→α→Prop}(hi:Inv m env p.2)
  (hk:∀ env' vs s',(∃ e,p.1=e∧∀ k,e≠.exit k)→mapM' (Qb5 c (p.2.emb env)) F.results.toList=some (SV.embL env' vs)→s'.emb env'=p.2.emb env→Qe5 m env p.2 env' s'→Ok m (K vs s') env' Q):Ok m (endT c F p K) env Q:=by
 unfold endT
 have go:(∀ k,p.1≠.exit k)→Ok m (QmT c F.results.toList [] p.2 K) env Q:=fun hne=>QqM hi fun env' ws rs s' h1 h2 h3 h4=>by
  refine hk env' ws s' ⟨p.1,rfl,hne⟩ ?_ h3 h4
  rw [h1,h2]
  rfl
 split
 ·simp only [Ok]
 ·rename_i hne
  exact go fun k hk'=>hne k hk'
theorem QE1 {rs:List ResultVar}{e:Go.Ev.Ex}{st:St}(h:∀ k,e≠.exit k):finP c rs (e,st)=(mapM' (Qb5 c st) rs).bind fun vs=>(Qge st.H (tupA vs)).bind fun v=>some (.val v []):=by
 cases e with
 | exit k=>exact absurd rfl (h k)
 | norm=>rfl
 | ret=>rfl
theorem QE2 {rs:List ResultVar}{k:Nat}{e:Go.Ev.Ex}{st:St}(h:∀ k,e≠.exit k):finF c rs k (e,st)=(mapM' (Qb5 c st) rs).bind fun vs=>({ fr:=[(0,tupA vs)],H:=st.H }:St).canon k fun st1=>some (.val (st1.fr.get 0) st1.H):=by
 cases e with
 | exit k=>exact absurd rfl (h k)
 | norm=>rfl
 | ret=>rfl
theorem QBP {p:Prim}(h:isNo p=true):p=.no:=by
 cases p<;>first |rfl |(cases h)
theorem Qhr.pure {q:Fam}(hq:q.kind=0∨q.kind=3)(hp:c.prim q.f=.no){e0:Env}{ex:Go.Ev.Ex}{fr:Fr}{H H':Heap}(h:rec (.pfn q.f ((embF e0 q.fr).map (·.2)))=some (.val (Fr.get fr 0) H')):Qhr c rec q e0 ex fr H:=by
 unfold Qhr
 rcases hq with hq |hq<;>(rw [hq]; simp only [hp]; exact ⟨H',h⟩)
theorem Qhr.fn {q:Fam}(hq:q.kind=1){e0:Env}{ex:Go.Ev.Ex}{fr:Fr}{H:Heap}(h:rec (.fn q.f ((embF e0 q.fr).map (·.2)) (embH e0 q.H))=some (.val (Fr.get fr 0) H)):Qhr c rec q e0 ex fr H:=by
 unfold Qhr
 rw [hq]
 exact h
theorem Qvv {env env1:Env}:∀ {ts:List Ty} {n:Nat} {es:List Ex},getP env ts n=mkPr env1 ts es→∀ i t,ts[i]?=some t→env (n+i) t=(es.getD i .un).den env1 t
 | [],_,_,_,i,t,h=>by simp at h
 | [a],n,es,hg,i,t,h=>by
  cases i with
  | zero=>
   simp only [List.getElem?_cons_zero,osi] at h
   subst h
   have:env n a=mkPr env1 [a] es:=hg
   rw [Nat.add_zero,this]
   cases es<;>rfl
  | succ i=>simp at h
 | a::b::l,n,es,hg,i,t,h=>by
  have hg':(env n a,getP env (b::l) (n+1))=((es.getD 0 .un).den env1 a,mkPr env1 (b::l) es.tail):=by
   cases es<;>exact hg
  simp only [Prod.mk.injEq] at hg'
  cases i with
  | zero=>
   simp only [List.getElem?_cons_zero,osi] at h
   subst h
   exact hg'.1
  | succ i=>
   simp only [List.getElem?_cons_succ] at h
   have:=Qvv hg'.2 i t h
   rw [show n+(i+1)=n+1+i by omega,this]
   cases es<;>rfl
theorem QEe:∀ {hs:List (Hk×Ty)},(Qf0 hs).length=hs.length→∀ (θ:List Ex) (n i:Nat),i<hs.length→(QlV θ hs n)[i]?=some (.v (n+i))
 | [],_,_,_,i,h=>by simp at h
 | (.new,t)::l,hl,θ,n,i,h=>by
  cases i with
  | zero=>rfl
  | succ i=>
   have:=QEe (hs:=l) (by simpa [Qf0] using hl) θ (n+1) i (by simpa using h)
   show (QlV θ l (n+1))[i]?=_
   rw [this]
   congr 2
   omega
 | (.par k,t)::l,hl,θ,n,i,h=>by
  exfalso
  have:=QkX l
  simp only [Qf0,List.length_cons] at hl
  omega
 | (.con e,t)::l,hl,θ,n,i,h=>by
  exfalso
  have:=QkX l
  simp only [Qf0,List.length_cons] at hl
  omega
where
 QkX:∀ l:List (Hk×Ty),(Qf0 l).length≤l.length
  | []=>Nat.le_refl _
  | (.new,t)::l=>Nat.succ_le_succ (QkX l)
  | (.par _,t)::l=>Nat.le_succ_of_le (QkX l)
  | (.con _,t)::l=>Nat.le_succ_of_le (QkX l)
theorem QBQ (hs:Sound c rec tb m){i:Nat}{F:Func}{bF:Code}{x:Pr (tb.P i)}(hF:c.fn (tb.fam i).f=some F)(hbF:F.body=some bF)(hnd:Qso ((QaI bF 0).map (·.1))=true)
  (hle:Nat.ble (tb.fam i).fr.length F.ntmps=true) (hkeys:QoN (tb.fam i).fr 0=true):Ok m (pfnT c tb (tb.fam i) F bF) (env0 (tb.P i) x)
  (fun env' r=>Qa6 c rec (.pfn (tb.fam i).f ((embF (env0 (tb.P i) x) (tb.fam i).fr).map (·.2)))=some (.val (tupA (SV.embL env' r.1)) [])∧Agree (tb.P i).length (env0 (tb.P i) x) env'):=by
 have hlen:Nat.ble ((embF (env0 (tb.P i) x) (tb.fam i).fr).map (·.2)).length F.ntmps=true:=by
  have:((embF (env0 (tb.P i) x) (tb.fam i).fr).map (·.2)).length=(tb.fam i).fr.length:=by simp [embF]
  rw [this]
  exact hle
 unfold pfnT
 refine Ok.bind m (fun e1 p hp=>?_) _ _ (QtU hs hF hbF bF 0 false _ _ (fun f hf=>by simp at hf) (Qjx hnd))
 obtain ⟨h1,h2⟩:=hp
 rw [QbW] at h1
 refine QBO h2.inv fun e2 vs s2 hex hres hst e12=>Qnc e12.inv fun xs s3 hfr e23=>?_
 simp only [Ok,List.nil_append]
 obtain ⟨e,he,hne⟩:=hex
 refine ⟨?_,h2.agr.trans e12.agr h2.nx⟩
 rw [QHg c rec _ _ F bF hF hbF hlen,← QqP _ hkeys]
 have h1':Qaw c rec (tb.fam i).f 0 F.ntmps 0 bF ⟨embF (env0 (tb.P i) x) (tb.fam i).fr,[]⟩=some (p.1,p.2.emb e1):=h1
 rw [h1',Option.bind_some]
 have hH:(p.2.emb e1).H=embH e2 s2.H:=by rw [← hst]; rfl
 rw [QE1 (by rw [he]; exact hne),hres,Option.bind_some,hH,Qvt hfr]
 rfl
theorem QGi (hs:Sound c rec tb m){i:Nat}{F:Func}{bF:Code}{x:Pr (tb.P i)}(hF:c.fn (tb.fam i).f=some F)(hbF:F.body=some bF)(hnd:Qso ((QaI bF 0).map (·.1))=true)
  (hle:Nat.ble (tb.fam i).fr.length F.ntmps=true) (hkeys:QoN (tb.fam i).fr 0=true):Ok m (fnT c tb (tb.fam i) F bF) (env0 (tb.P i) x)
  (fun env' r=>Qa6 c rec (.fn (tb.fam i).f ((embF (env0 (tb.P i) x) (tb.fam i).fr).map (·.2)) (embH (env0 (tb.P i) x) (tb.fam i).H))=
   (({ r.2 with fr:=[(0,Qwz r.1)] }:SS).emb env').canon (tb.fam i).H.length (fun st1=>some (.val (st1.fr.get 0) st1.H))∧Agree (tb.P i).length (env0 (tb.P i) x) env'):=by
 have hlen:Nat.ble ((embF (env0 (tb.P i) x) (tb.fam i).fr).map (·.2)).length F.ntmps=true:=by
  have:((embF (env0 (tb.P i) x) (tb.fam i).fr).map (·.2)).length=(tb.fam i).fr.length:=by simp [embF]
  rw [this]
  exact hle
 unfold fnT
 refine Ok.bind m (fun e1 p hp=>?_) _ _ (QtU hs hF hbF bF 0 false _ _ (fun f hf=>by simp at hf) (Qjx hnd))
 obtain ⟨h1,h2⟩:=hp
 rw [QbW] at h1
 refine QBO h2.inv fun e2 vs s2 hex hres hst e12=>?_
 simp only [Ok]
 obtain ⟨e,he,hne⟩:=hex
 refine ⟨?_,h2.agr.trans e12.agr h2.nx⟩
 rw [s_fn c rec _ _ _ F bF hF hbF hlen,← QqP _ hkeys,Qba]
 have hmv:(mvIf c (tb.fam i).f ((embF (env0 (tb.P i) x) (tb.fam i).fr).map (·.2)) (embH (env0 (tb.P i) x) (tb.fam i).H) fun H1=>Qaw c rec (tb.fam i).f (tb.fam i).H.length F.ntmps 0 bF ⟨embF (env0 (tb.P i) x) (tb.fam i).fr,H1⟩)=some (p.1,p.2.emb e1):=by
  rw [← h1]
  unfold mvIf
  cases c.stay (tb.fam i).f with
  | true=>rfl
  | false=>
   show Quv ((embF (env0 (tb.P i) x) (tb.fam i).fr).map (·.2)) (embH (env0 (tb.P i) x) (tb.fam i).H) _=_
   rw [Qqu,Qzg]
   rfl
 rw [hmv,Option.bind_some,QE2 (by rw [he]; exact hne),hres,Option.bind_some]
 have hH:(p.2.emb e1).H=embH e2 s2.H:=by rw [← hst]; rfl
 rw [hH,← QqL]
 rfl
theorem QE3 (hs:Sound c rec tb m){i:Nat}{x:Pr (tb.P i)}{z:Sm (tb.O i)}(hz:(body c tb i).den tb.P tb.O m (tb.O i) (env0 (tb.P i) x)=some z)
  {envC:Env} {θ:List Ex} {n j:Nat} {o:Out} (hx:mkPr envC (tb.P i) θ=x) (hal:Qg4 envC (tb.O i) z j n) (ho:(tb.fam i).outs[j]?=some o):
  Qhr c (Qa6 c rec) (tb.fam i) (env0 (tb.P i) x) o.ex (embF envC (o.state θ n).1) (embH envC (o.state θ n).2):=by
 unfold body at hz
 simp only at hz
 obtain ⟨F,hF,hz⟩:=QkW hz
 obtain ⟨bF,hbF,hz⟩:=QkW hz
 obtain ⟨hnd,hz⟩:=QqN hz
 split at hz
 ·rename_i hk
  obtain ⟨hb,hz⟩:=QqN hz
  obtain ⟨b1,b2⟩:=Qan hb
  obtain ⟨b2,b3⟩:=Qan b2
  obtain ⟨b3,b4⟩:=Qan b3
  obtain ⟨env1,r,⟨hr,hag⟩,hz⟩:=Qe3 m _ _ hz (QBQ hs (x:=x) hF hbF hnd b1 b4)
  obtain ⟨es,hes,hz⟩:=QkW hz
  simp only [T.den] at hz
  refine Qhr.pure (H':=[]) (.inl hk) (QBP b3) (hr.trans ?_)
  congr 2
  unfold QAR at b2
  split at b2
  ·rename_i o' houts
   obtain ⟨t1,t2⟩:=Qan b2
   obtain ⟨t2,t3⟩:=Qan t2
   obtain ⟨hj,hget⟩:=QlC hz hal
   subst hj
   rw [houts] at ho hes
   simp only [List.getElem?_cons_zero,osi] at ho
   subst ho
   have hts:(tb.O i)[0]?=some o'.ts:=by
    show ((tb.fam i).outs.map Out.ts)[0]?=_
    rw [houts]
    rfl
   have hg:=hget _ hts
   have hes':Qf1 o'.ts r.1=some es:=by simpa using hes
   show tupA (SV.embL env1 r.1)=Fr.get (embF envC (QrJ (o'.σ θ n) o'.fr)) 0
   rw [QkQ,Qmf t1,← Qgw]
   show _=(Qwz (Qwm o'.ts 0)).emb _
   rw [QqL]
   congr 1
   refine (Qju hes' fun k t hkt=>?_).symm
   have hk':k<o'.hs.length:=by
    rw [← Qcl t3]
    rw [List.getElem?_eq_some_iff] at hkt
    exact hkt.1
   rw [Nat.zero_add]
   show ((QlV θ o'.hs n).getD k .un).den envC t=_
   rw [List.getD_eq_getElem?_getD,QEe (Qcl t3) θ n k hk']
   show envC (n+k) t=_
   exact Qvv hg k t hkt
  ·cases b2
 ·rename_i hk
  obtain ⟨hb,hz⟩:=QqN hz
  obtain ⟨b1,b2⟩:=Qan hb
  obtain ⟨b3,b4⟩:=Qan b2
  obtain ⟨env1,r,⟨hr,hag⟩,hz⟩:=Qe3 m _ _ hz (QBQ hs (x:=x) hF hbF hnd b1 b4)
  obtain ⟨j',es,hl,hmk⟩:=Qnd hz
  obtain ⟨e1,e2,e3⟩:=QqO hl hmk hx hag hal ho
  refine Qhr.pure (H':=[]) (.inr hk) (QBP b3) (hr.trans ?_)
  rw [e2,← QqL]
  rfl
 ·rename_i hk
  obtain ⟨hb,hz⟩:=QqN hz
  obtain ⟨b1,b4⟩:=Qan hb
  obtain ⟨env1,r,⟨hr,hag⟩,hz⟩:=Qe3 m _ _ hz (QGi hs (x:=x) hF hbF hnd b1 b4)
  obtain ⟨s1,hs1,hz⟩:=QkW hz
  obtain ⟨j',es,hl,hmk⟩:=Qnd hz
  obtain ⟨e1,e2,e3⟩:=QqO hl hmk hx hag hal ho
  refine Qhr.fn hk (hr.trans ?_)
  rw [(Qm4 (env:=env1) hs1 _).1,e2,e3]
  rfl
 ·rename_i hk
  obtain ⟨lb,hlb,hz⟩:=QkW hz
  have hsub:∀ p∈QaI lb (tb.fam i).id,Qkg (QaI bF 0) p.1=some p.2:=fun p hp=>Qjx hnd p (QDA (Qvu hlb) p hp)
  obtain ⟨env1,p,⟨hr,hL⟩,hz⟩:=Qe3 m _ _ hz (QtU hs hF hbF lb (tb.fam i).id false _ _ (fun f hf=>by simp at hf) hsub)
  rw [QbW] at hr
  rw [Qhr.two hk]
  intro F' b' lb' hF' hb' hlb'
  rw [hF] at hF'
  simp only [osi] at hF'
  subst hF'
  rw [hbF] at hb'
  simp only [osi] at hb'
  subst hb'
  rw [hlb] at hlb'
  simp only [osi] at hlb'
  subst hlb'
  rw [QF9 c rec _ _ _ _ _ F hF]
  have hr':Qaw c rec (tb.fam i).f (tb.fam i).m F.ntmps (tb.fam i).id lb ⟨embF (env0 (tb.P i) x) (tb.fam i).fr,embH (env0 (tb.P i) x) (tb.fam i).H⟩=some (p.1,p.2.emb env1):=hr
  rw [hr',Option.bind_some]
  obtain ⟨ex,sp⟩:=p
  cases ex with
  | norm=>
   simp only at hz
   rw [Qy3]
   exact QBN hs hF hbF hlb hL.inv hL.agr hL.nx hz hx hal ho
  | exit k=>
   simp only at hz
   obtain ⟨j',es,hl,hmk⟩:=Qnd hz
   obtain ⟨e1,e2,e3⟩:=QqO hl hmk hx hL.agr hal ho
   rw [Qy4,e1,e2,e3]
   rfl
  | ret=>
   simp only at hz
   obtain ⟨j',es,hl,hmk⟩:=Qnd hz
   obtain ⟨e1,e2,e3⟩:=QqO hl hmk hx hL.agr hal ho
   rw [QAZ,e1,e2,e3]
   rfl
 ·simp only [T.den,reduceCtorEq] at hz
end
end Go.Sy
end
noncomputable section
namespace Go.Sy
open Go Go.Ev
abbrev Mod (tb:Tab):=(i:Nat)→Pr (tb.P i)→Option (Sm (tb.O i))
def Mod.le {tb:Tab}(m m':Mod tb):Prop:=∀ i x z,m i x=some z→m' i x=some z
section
variable {c:Ctx} {tb:Tab} {α:Type}
mutual
theorem QhI {m m':Mod tb}(h:m.le m'):∀ (x:T α) (os:List (List Ty)) (env:Env) (z:Sm os),x.den tb.P tb.O m os env=some z→x.den tb.P tb.O m' os env=some z
 | .ret _,os,env,z,hz=>by simp only [T.den,reduceCtorEq] at hz
 | .fail,os,env,z,hz=>by simp only [T.den,reduceCtorEq] at hz
 | .out j es,os,env,z,hz=>by simp only [T.den] at *; exact hz
 | .tail f args,os,env,z,hz=>by
  simp only [T.den] at *
  split at hz
  ·rename_i ho
   subst ho
   rw [dif_pos rfl]
   exact h _ _ _ hz
  ·cases hz
 | .ite c x y,os,env,z,hz=>by
  simp only [T.den] at *
  cases hc:c.den env .bool with
  | true=>rw [hc] at hz; exact QhI h x os env z hz
  | false=>rw [hc] at hz; exact QhI h y os env z hz
 | .get n t k l i x,os,env,z,hz=>by
  simp only [T.den] at *
  cases ha:at' (l.den env (.lst t)) (i.den env (.int k)) with
  | none=>rw [ha] at hz; simp at hz
  | some a=>rw [ha,Option.bind_some] at hz; rw [Option.bind_some]; exact QhI h x os _ z hz
 | .call f args n ks,os,env,z,hz=>by
  simp only [T.den] at *
  cases ha:m f (mkPr env (tb.P f) args) with
  | none=>rw [ha] at hz; simp at hz
  | some a=>rw [ha,Option.bind_some] at hz; rw [h _ _ _ ha,Option.bind_some]; exact QkY h ks _ a n os env z hz
 | .join os' x n ks,os,env,z,hz=>by
  simp only [T.den] at *
  cases ha:x.den tb.P tb.O m os' env with
  | none=>rw [ha] at hz; simp at hz
  | some a=>rw [ha,Option.bind_some] at hz; rw [QhI h x os' env a ha,Option.bind_some]; exact QkY h ks _ a n os env z hz
 | .alt _ _,os,env,z,hz=>by simp only [T.den,reduceCtorEq] at hz
theorem QkY {m m':Mod tb}(h:m.le m'):∀ (x:T α) (os':List (List Ty)) (y:Sm os') (n:Nat) (os:List (List Ty)) (env:Env) (z:Sm os),x.alts tb.P tb.O m os' y n os env=some z→x.alts tb.P tb.O m' os' y n os env=some z
 | .alt k r,os',y,n,os,env,z,hz=>by
  match os',y with
  | [],y=>exact y.elim
  | [a],y=>simp only [T.alts] at *; exact QhI h k os _ z hz
  | a::b::l,.inl x=>simp only [T.alts] at *; exact QhI h k os _ z hz
  | a::b::l,.inr y=>simp only [T.alts] at *; exact QkY h r _ y n os env z hz
 | .ret _,os',y,n,os,env,z,hz=>by simp only [T.alts,reduceCtorEq] at hz
 | .fail,os',y,n,os,env,z,hz=>by simp only [T.alts,reduceCtorEq] at hz
 | .out _ _,os',y,n,os,env,z,hz=>by simp only [T.alts,reduceCtorEq] at hz
 | .tail _ _,os',y,n,os,env,z,hz=>by simp only [T.alts,reduceCtorEq] at hz
 | .ite ..,os',y,n,os,env,z,hz=>by simp only [T.alts,reduceCtorEq] at hz
 | .get ..,os',y,n,os,env,z,hz=>by simp only [T.alts,reduceCtorEq] at hz
 | .call ..,os',y,n,os,env,z,hz=>by simp only [T.alts,reduceCtorEq] at hz
 | .join ..,os',y,n,os,env,z,hz=>by simp only [T.alts,reduceCtorEq] at hz
end
structure QBR (ms:Nat→Mod tb)(L:Mod tb):Prop where
 mono:∀ k,(ms k).le (ms (k+1))
 le:∀ k,(ms k).le L
 some:∀ i x z,L i x=some z→∃ k,ms k i x=some z
theorem QBR.upto {ms:Nat→Mod tb}{L:Mod tb}(h:QBR ms L):∀ {k l:Nat},k≤l→(ms k).le (ms l)
 | k,l,hl=>by
  induction hl with
  | refl=>exact fun _ _ _ h=>h
  | step _ ih=>exact fun i x z hz=>h.mono _ i x z (ih i x z hz)
mutual
theorem Qmm {ms:Nat→Mod tb}{L:Mod tb}(h:QBR ms L):∀ (x:T α) (os:List (List Ty)) (env:Env) (z:Sm os),x.den tb.P tb.O L os env=some z→∃ k,x.den tb.P tb.O (ms k) os env=some z
 | .ret _,os,env,z,hz=>by simp only [T.den,reduceCtorEq] at hz
 | .fail,os,env,z,hz=>by simp only [T.den,reduceCtorEq] at hz
 | .out j es,os,env,z,hz=>⟨0,by simp only [T.den] at *; exact hz⟩
 | .tail f args,os,env,z,hz=>by
  simp only [T.den] at *
  split at hz
  ·rename_i ho
   subst ho
   obtain ⟨k,hk⟩:=h.some _ _ _ hz
   exact ⟨k,by rw [dif_pos rfl]; exact hk⟩
  ·cases hz
 | .ite c x y,os,env,z,hz=>by
  simp only [T.den] at *
  cases hc:c.den env .bool with
  | true=>rw [hc] at hz; exact Qmm h x os env z hz
  | false=>rw [hc] at hz; exact Qmm h y os env z hz
 | .get n t k l i x,os,env,z,hz=>by
  simp only [T.den] at *
  cases ha:at' (l.den env (.lst t)) (i.den env (.int k)) with
  | none=>rw [ha] at hz; simp at hz
  | some a=>
   rw [ha,Option.bind_some] at hz
   obtain ⟨k,hk⟩:=Qmm h x os _ z hz
   exact ⟨k,by rw [Option.bind_some]; exact hk⟩
 | .call f args n ks,os,env,z,hz=>by
  simp only [T.den] at *
  cases ha:L f (mkPr env (tb.P f) args) with
  | none=>rw [ha] at hz; simp at hz
  | some a=>
   rw [ha,Option.bind_some] at hz
   obtain ⟨k1,hk1⟩:=h.some _ _ _ ha
   obtain ⟨k2,hk2⟩:=QtV h ks _ a n os env z hz
   refine ⟨max k1 k2,?_⟩
   rw [h.upto (Nat.le_max_left k1 k2) _ _ _ hk1,Option.bind_some]
   exact QkY (h.upto (Nat.le_max_right k1 k2)) ks _ a n os env z hk2
 | .join os' x n ks,os,env,z,hz=>by
  simp only [T.den] at *
  cases ha:x.den tb.P tb.O L os' env with
  | none=>rw [ha] at hz; simp at hz
  | some a=>
   rw [ha,Option.bind_some] at hz
   obtain ⟨k1,hk1⟩:=Qmm h x os' env a ha
   obtain ⟨k2,hk2⟩:=QtV h ks _ a n os env z hz
   refine ⟨max k1 k2,?_⟩
   rw [QhI (h.upto (Nat.le_max_left k1 k2)) x os' env a hk1,Option.bind_some]
   exact QkY (h.upto (Nat.le_max_right k1 k2)) ks _ a n os env z hk2
 | .alt _ _,os,env,z,hz=>by simp only [T.den,reduceCtorEq] at hz
theorem QtV {ms:Nat→Mod tb}{L:Mod tb}(h:QBR ms L):∀ (x:T α) (os':List (List Ty)) (y:Sm os') (n:Nat) (os:List (List Ty)) (env:Env) (z:Sm os),x.alts tb.P tb.O L os' y n os env=some z→∃ k,x.alts tb.P tb.O (ms k) os' y n os env=some z
 | .alt k r,os',y,n,os,env,z,hz=>by
  match os',y with
  | [],y=>exact y.elim
  | [a],y=>simp only [T.alts] at *; exact Qmm h k os _ z hz
  | a::b::l,.inl x=>simp only [T.alts] at *; exact Qmm h k os _ z hz
  | a::b::l,.inr y=>simp only [T.alts] at *; exact QtV h r _ y n os env z hz
 | .ret _,os',y,n,os,env,z,hz=>by simp only [T.alts,reduceCtorEq] at hz
 | .fail,os',y,n,os,env,z,hz=>by simp only [T.alts,reduceCtorEq] at hz
 | .out _ _,os',y,n,os,env,z,hz=>by simp only [T.alts,reduceCtorEq] at hz
 | .tail _ _,os',y,n,os,env,z,hz=>by simp only [T.alts,reduceCtorEq] at hz
 | .ite ..,os',y,n,os,env,z,hz=>by simp only [T.alts,reduceCtorEq] at hz
 | .get ..,os',y,n,os,env,z,hz=>by simp only [T.alts,reduceCtorEq] at hz
 | .call ..,os',y,n,os,env,z,hz=>by simp only [T.alts,reduceCtorEq] at hz
 | .join ..,os',y,n,os,env,z,hz=>by simp only [T.alts,reduceCtorEq] at hz
end
end
section
variable (c:Ctx) (tb:Tab) (G:Mod tb)
def QkZ (m:Mod tb):Mod tb:=fun i x=>match (tb.fam i).ext with
 | true=>G i x
 | false=>(body c tb i).den tb.P tb.O m (tb.O i) (env0 (tb.P i) x)
def iterM:Nat→Mod tb
 | 0=>fun _ _=>none
 | k+1=>QkZ c tb G (iterM k)
theorem QsM {m m':Mod tb}(h:m.le m'):(QkZ c tb G m).le (QkZ c tb G m'):=fun i x z hz=>by
 unfold QkZ at *
 cases he:(tb.fam i).ext with
 | true=>rw [he] at hz; exact hz
 | false=>rw [he] at hz; exact QhI h _ _ _ _ hz
theorem Qn6:∀ k,(iterM c tb G k).le (iterM c tb G (k+1))
 | 0=>fun i x z hz=>by simp [iterM] at hz
 | k+1=>QsM c tb G (Qn6 k)
theorem QsN {k l:Nat}(hl:k≤l):(iterM c tb G k).le (iterM c tb G l):=by
 induction hl with
 | refl=>exact fun _ _ _ h=>h
 | step _ ih=>exact fun i x z hz=>Qn6 c tb G _ i x z (ih i x z hz)
open Classical in
def M:Mod tb:=fun i x=>if h:∃ z k,iterM c tb G k i x=some z then some (Classical.choose h) else none
theorem Qw5 {i:Nat}{x:Pr (tb.P i)}{z:Sm (tb.O i)}:M c tb G i x=some z↔∃ k,iterM c tb G k i x=some z:=by
 classical
 unfold M
 constructor
 ·intro h
  split at h
  ·rename_i hx
   simp only [osi] at h
   rw [← h]
   exact Classical.choose_spec hx
  ·cases h
 ·intro ⟨k,hk⟩
  have hx:∃ z k,iterM c tb G k i x=some z:=⟨z,k,hk⟩
  rw [dif_pos hx]
  obtain ⟨k',hk'⟩:=Classical.choose_spec hx
  have h1:=QsN c tb G (Nat.le_max_left k k') i x z hk
  have h2:=QsN c tb G (Nat.le_max_right k k') i x _ hk'
  rw [h1] at h2
  exact h2.symm
theorem QE4:QBR (iterM c tb G) (M c tb G):=⟨Qn6 c tb G,fun k i x z h=>(Qw5 c tb G).mpr ⟨k,h⟩,fun i x z h=>(Qw5 c tb G).mp h⟩
theorem QEf:M c tb G=QkZ c tb G (M c tb G):=by
 funext i x
 have one:∀ z,M c tb G i x=some z→QkZ c tb G (M c tb G) i x=some z:=fun z h=>by
  obtain ⟨k,hk⟩:=(Qw5 c tb G).mp h
  cases k with
  | zero=>simp [iterM] at hk
  | succ k=>exact QsM c tb G (fun i x z h=>(Qw5 c tb G).mpr ⟨k,h⟩) i x z hk
 have two:∀ z,QkZ c tb G (M c tb G) i x=some z→M c tb G i x=some z:=fun z h=>by
  unfold QkZ at h
  cases he:(tb.fam i).ext with
  | true=>
   rw [he] at h
   refine (Qw5 c tb G).mpr ⟨1,?_⟩
   show QkZ c tb G (iterM c tb G 0) i x=some z
   unfold QkZ
   rw [he]
   exact h
  | false=>
   rw [he] at h
   obtain ⟨k,hk⟩:=Qmm (QE4 c tb G) _ _ _ _ h
   refine (Qw5 c tb G).mpr ⟨k+1,?_⟩
   show QkZ c tb G (iterM c tb G k) i x=some z
   unfold QkZ
   rw [he]
   exact hk
 cases h1:M c tb G i x with
 | some z=>exact (one z h1).symm
 | none=>
  cases h2:QkZ c tb G (M c tb G) i x with
  | none=>rfl
  | some z=>rw [two z h2] at h1; cases h1
theorem M_eq (i:Nat)(h:(tb.fam i).ext=false)(x:Pr (tb.P i)):M c tb G i x=(body c tb i).den tb.P tb.O (M c tb G) (tb.O i) (env0 (tb.P i) x):=by
 have:=congrFun (congrFun (QEf c tb G) i) x
 rw [this]
 unfold QkZ
 rw [h]
theorem QE5 (i:Nat)(h:(tb.fam i).ext=true)(x:Pr (tb.P i)):M c tb G i x=G i x:=by
 have:=congrFun (congrFun (QEf c tb G) i) x
 rw [this]
 unfold QkZ
 rw [h]
def QDC:Prop:=∀ i x z,(tb.fam i).ext=true→G i x=some z→∀ (env:Env) (θ:List Ex) (n j:Nat) (o:Out),mkPr env (tb.P i) θ=x→Qg4 env (tb.O i) z j n→
 (tb.fam i).outs[j]?=some o→Qhr c (R c) (tb.fam i) (env0 (tb.P i) x) o.ex (embF env (o.state θ n).1) (embH env (o.state θ n).2)
variable {c tb G}
theorem QqR (hG:QDC c tb G):∀ k,Sound c (R c) tb (iterM c tb G k)
 | 0=>fun i x z h=>by simp [iterM] at h
 | k+1=>fun i x z h env θ n j o hx hal ho=>by
  have h':QkZ c tb G (iterM c tb G k) i x=some z:=h
  unfold QkZ at h'
  cases he:(tb.fam i).ext with
  | true=>rw [he] at h'; exact hG i x z he h' env θ n j o hx hal ho
  | false=>
   rw [he] at h'
   have:=QE3 (QqR hG k) h' hx hal ho
   have hR:R c=Qa6 c (R c):=funext fun t=>R_eq t
   rw [hR]
   exact this
theorem QE6 (hG:QDC c tb G):Sound c (R c) tb (M c tb G):=fun i x z h=>by
 obtain ⟨k,hk⟩:=(Qw5 c tb G).mp h
 exact QqR hG k i x z hk
end
end Go.Sy
end
