/- Symbolic runs: slices, new blocks, addresses. -/
import Derived.Test.YtkecfadnfnnfaaaGreatDoorSyJ
set_option linter.unusedVariables false
set_option linter.unusedSimpArgs false
namespace Go.Sy
open Go Go.Ev
section
variable {P:Nat→List Ty} {O:Nat→List (List Ty)} {m:(f:Nat)→Pr (P f)→Option (Sm (O f))} {α:Type}
variable {c:Ctx}
variable {env:Env} {s:SS} {K:SV→SS→T α} {Q:Env→α→Prop}
theorem QxK {γ δ:Type}(f:γ→δ)(l:List γ):hd (l.map f)=l.length:=by simp [Ev.hd]
theorem QdC {n:Option SV}{d most e:Ex}{g:List Ex}(env:Env)(h:QjA n d most=some (e,g))(hg:∀ c∈g,c.den env .bool=true):
  bound (n.map (SV.emb env)) (d.den env .nat) (most.den env .nat)=some (e.den env .nat):=by
 unfold QjA at h
 split at h
 ·simp only [Option.some.injEq,Prod.mk.injEq] at h
  obtain ⟨rfl,rfl⟩:=h
  rfl
 ·rename_i k n
  simp only [Option.some.injEq,Prod.mk.injEq] at h
  obtain ⟨rfl,rfl⟩:=h
  have h1:=hg (leE k (.il 0) n) (by simp)
  have h2:=hg (leE k n (mk1 .ofN most)) (by simp)
  rw [Ql5,decide_eq_true_eq] at h1 h2
  rw [Qh2] at h2
  simp only [Option.map_some,SV.emb,QCK,bnd]
  rw [if_pos ⟨h1,h2⟩,Qqk]
 ·cases h
theorem Qsp (env:Env)(H:SH)(b n:Nat):Qgz (embH env H) b n=Qtd H b n:=by
 unfold Qgz Qtd Qgy Qlb
 rw [QbX]
 cases H[b]? with
 | none=>rfl
 | some k=>cases k<;>rfl
theorem Qwj (env:Env)(H:SH)(b:Nat):Qgy (embH env H) b=Qlb H b:=by
 unfold Qgy Qlb
 rw [QbX]
 cases H[b]? with
 | none=>rfl
 | some k=>cases k<;>rfl
theorem QAK {t:TypeId}{H:SH}{x v:SV}{lo hi:Option SV}{g:List Ex}(env:Env)(h:QzW c t H x lo hi=some (v,g))(hg:∀ c∈g,c.den env .bool=true):
  Qeb c t (embH env H) (x.emb env) (lo.map (SV.emb env)) (hi.map (SV.emb env))=some (v.emb env):=by
 unfold QzW at h
 split at h
 ·rename_i e
  split at h
  ·rename_i ht
   split at h
   ·rename_i hh g1 h1
    split at h
    ·rename_i l g2 h2
     simp only [Option.some.injEq,Prod.mk.injEq] at h
     obtain ⟨rfl,rfl⟩:=h
     have b1:=QdC env h1 (fun c hc=>hg c (List.mem_append_left _ hc))
     have b2:=QdC env h2 (fun c hc=>hg c (List.mem_append_right _ hc))
     rw [Qpj] at b1
     simp only [SV.emb]
     rw [QyF c t _ _ _ _ ht,show hd (e.den env .str)=(e.den env .str).length from rfl,b1,Option.bind_some,show (0:Nat)=(natE 0).den env .nat from rfl,b2]
     rfl
    ·cases h
   ·cases h
  ·cases h
 ·rename_i u e
  split at h
  ·rename_i el hh g1 he h1
   split at h
   ·rename_i l g2 h2
    split at h
    ·rename_i hs
     simp only [Option.some.injEq,Prod.mk.injEq] at h
     obtain ⟨rfl,rfl⟩:=h
     have b1:=QdC env h1 (fun c hc=>hg c (List.mem_append_left _ hc))
     have b2:=QdC env h2 (fun c hc=>hg c (List.mem_append_right _ hc))
     rw [QbW] at b1
     simp only [SV.emb]
     rw [QyG,he,Option.bind_some,QxK,b1,Option.bind_some,show (0:Nat)=(natE 0).den env .nat from rfl,b2,Option.bind_some,if_pos (Qpm u _ hs)]
     have:(Ex.o2 .tk (mk2 .nsub hh l) (mk2 .dr l e)).den env (.lst u)=((e.den env (.lst u)).drop (l.den env .nat)).take ((hh.den env .nat:Nat) - (l.den env .nat:Nat)):=by
      show ((mk2 .dr l e).den env (.lst u)).take ((mk2 .nsub hh l).den env .nat)=_
      rw [QAw,QxA]
     rw [this,List.map_take,List.map_drop]
    ·cases h
   ·cases h
  ·cases h
 ·rename_i b off len
  split at h
  ·rename_i el hh g1 he h1
   split at h
   ·rename_i l g2 h2
    split at h
    ·rename_i hs
     simp only [Option.some.injEq,Prod.mk.injEq] at h
     obtain ⟨rfl,rfl⟩:=h
     have b1:=QdC env h1 (fun c hc=>hg c (List.mem_append_left _ hc))
     have b2:=QdC env h2 (fun c hc=>hg c (List.mem_append_right _ hc))
     simp only [SV.emb]
     rw [QAq,he,Option.bind_some,b1,Option.bind_some,show (0:Nat)=(natE 0).den env .nat from rfl,b2,Option.bind_some,Qsp,if_pos hs,Qi6,QxA]
    ·cases h
   ·cases h
  ·cases h
 ·split at h
  ·rename_i el a g1 b g2 he h1 h2
   simp only [Option.some.injEq,Prod.mk.injEq] at h
   obtain ⟨rfl,rfl⟩:=h
   have b1:=QdC env h1 (fun c hc=>hg c (List.mem_append_left _ hc))
   have b2:=QdC env h2 (fun c hc=>hg c (List.mem_append_right _ hc))
   have b1':bound (hi.map (SV.emb env)) 0 0=_:=b1
   have b2':bound (lo.map (SV.emb env)) 0 0=_:=b2
   simp only [SV.emb]
   rw [Qwa,he,Option.bind_some,b1',Option.bind_some,b2']
   rfl
  ·cases h
 ·split at h
  ·rename_i el a g1 b g2 he h1 h2
   simp only [Option.some.injEq,Prod.mk.injEq] at h
   obtain ⟨rfl,rfl⟩:=h
   have b1:=QdC env h1 (fun c hc=>hg c (List.mem_append_left _ hc))
   have b2:=QdC env h2 (fun c hc=>hg c (List.mem_append_right _ hc))
   have b1':bound (hi.map (SV.emb env)) 0 0=_:=b1
   have b2':bound (lo.map (SV.emb env)) 0 0=_:=b2
   simp only [SV.emb,Qeb,he,b1',b2']
  ·cases h
 ·cases h
theorem QAL {t:TypeId}{x:SV}{lo hi mx:Option SV}(h0:Inv m env s)
  (hk:Next m (okV (embH env s.H) (QnB c t (embH env s.H) (x.emb env) (lo.map (SV.emb env)) (hi.map (SV.emb env)) (mx.map (SV.emb env)))) env s K Q):Ok m (QzZ c t x lo hi mx s K) env Q:=by
 unfold QzZ
 split
 ·refine Qax fun p hp=>?_
  obtain ⟨v,g⟩:=p
  refine Qc0 h0 fun s1 hg e1=>hk.same e1 ?_
  show okV _ (Qeb c t (embH env s.H) (x.emb env) (lo.map (SV.emb env)) (hi.map (SV.emb env)))=_
  rw [QAK env hp hg]
  rfl
 ·simp only [Ok]
theorem Qn0 {e:TypeId}{t:Ty}{x:Ex}(hi:Inv m env s)(hk:Next m (Qbj c e (embH env s.H) (List.map (row t) (x.den env (.lst t)))) env s K Q):Ok m (Qkj c e t x s K) env Q:=by
 unfold Qkj
 refine Qbw fun hb=>Qle hi fun s1 hg e1=>hk env _ _ ?_ (e1.toExt.setH _)
 rw [Qkr,Qtp,QbW,decide_eq_true_eq] at hg
 rw [Qv8,List.length_map,if_pos ⟨hg,Nat.le_of_ble_eq_true hb⟩,QxK,e1.H,Qd5,Qba]
 simp only [SV.emb,QbW]
 rfl
theorem QAM {e:TypeId}{args:List SV}(hi:Inv m env s)(hk:Next m (Qkd c e (SV.embL env args) (embH env s.H)) env s K Q):Ok m (QzS c e args s K) env Q:=by
 unfold QzS
 split
 ·rename_i x
  refine Qax fun t ht=>Qax fun p hp=>?_
  obtain ⟨l,g⟩:=p
  refine Qc0 hi fun s1 hg e1=>Qn0 e1.inv ?_
  obtain ⟨r1,r2⟩:=Qtt hp hg
  intro env' v s' h e2
  refine hk env' v s' ?_ (e1.toExt.trans e2)
  show Qkd c e [x.emb env] (embH env s.H)=_
  rw [QEj,r1,Option.bind_some,if_pos r2,if_pos (Qpm t _ (QmQ ht)),← e1.H,h]
 ·simp only [Ok]
theorem QyP {t tx:TypeId}{a x:SV}(hi:Inv m env s)(hk:Next m (QeF c t tx (embH env s.H) (a.emb env) (x.emb env)) env s K Q):Ok m (QvU c t tx a x s K) env Q:=by
 unfold QvU
 refine Qax fun e' he'=>Qax fun e he=>Qax fun u hu=>Qax fun p hp=>?_
 obtain ⟨new,g⟩:=p
 refine Qc0 hi fun s1 hg e1=>?_
 obtain ⟨r1,r2⟩:=Qtt hp hg
 have key:QeF c t tx (embH env s.H) (a.emb env) (x.emb env)=QAp c e (embH env s1.H) (List.map (row u) (new.den env (.lst u))) (a.emb env):=by
  rw [QCI,he',he,Option.bind_some,r1,Option.bind_some,if_pos r2,if_pos (Qpm u _ (QmQ hu)),e1.H]
  rfl
 rw [key] at hk
 split
 ·refine Qn0 e1.inv fun env' v s' h e2=>hk env' v s' h (e1.toExt.trans e2)
 ·refine Qn0 e1.inv fun env' v s' h e2=>hk env' v s' h (e1.toExt.trans e2)
 ·rename_i b off len
  refine Qbw fun ho=>?_
  have ho':off=natE 0:=QaH ho
  subst ho'
  split
  ·rename_i z w l hb
   refine Qbw fun hc=>Qle e1.inv fun s2 hg2 e2=>?_
   obtain ⟨c1,c2⟩:=Qao hc
   obtain ⟨c2,c3⟩:=Qao c2
   have c1':=QaQ c1
   subst c1'
   rw [Qkr,Qtp,Qi6,QbW,decide_eq_true_eq] at hg2
   have base:∀ hl:(len.den env .nat:Nat)≤(l.den env (.lst w)).length,QAp c e (embH env s1.H) (List.map (row w) (new.den env (.lst w))) ((SV.sl b (natE 0) len).emb env)=
     some (.sl s1.H.length 0 (((l.den env (.lst w)).take (len.den env .nat)++new.den env (.lst w)).length),(embH env s1.H).set b .dead++[.rows z true (List.map (row w) ((l.den env (.lst w)).take (len.den env .nat)++new.den env (.lst w)))]):=fun hl=>by
    unfold QAp
    simp only [SV.emb]
    rw [if_pos (show ((natE 0).den env .nat:Nat)=0 from rfl),QbX,hb]
    simp only [Option.map_some,Option.bind_some,SB.emb]
    have hg2':((len.den env .nat:Nat)+(new.den env (.lst w)).length) * (c.ty e).bytes≤35184372088832:=hg2
    have hl':(len.den env .nat:Nat)≤(List.map (row w) (l.den env (.lst w))).length:=by rw [List.length_map]; exact hl
    rw [List.length_map,if_pos ⟨c2,hg2',hl',Nat.le_of_ble_eq_true c3⟩]
    rw [← List.map_take,← List.map_append,QxK,Qba]
   split
   ·rename_i hw
    have hl:(len.den env .nat:Nat)=(l.den env (.lst w)).length:=by rw [QaH hw,QbW]
    have h0:=base (Nat.le_of_eq hl)
    refine hk env _ _ ?_ ((e1.trans e2).toExt.setH _)
    rw [h0,e2.H]
    rw [hl,List.take_length]
    simp only [SV.emb,QbW,Qql,Qd5,Qhu]
    rw [show embH env [SB.rows z w (mk2 .app l new)]=[Blk.rows z true (List.map (row w) ((mk2 .app l new).den env (.lst w)))] from rfl,Qql]
    rfl
   ·refine Qle e2.inv fun s3 hg3 e3=>?_
    rw [Qkr,QbW,decide_eq_true_eq] at hg3
    have h0:=base hg3
    refine hk env _ _ ?_ (((e1.trans e2).trans e3).toExt.setH _)
    rw [h0,e3.H,e2.H]
    simp only [SV.emb,QbW,Qql,QAx,Qd5,Qhu]
    rw [show embH env [SB.rows z w (mk2 .app (mk2 .tk len l) new)]=[Blk.rows z true (List.map (row w) ((mk2 .app (mk2 .tk len l) new).den env (.lst w)))] from rfl,Qql,QAx]
    rfl
  ·simp only [Ok]
 ·simp only [Ok]
theorem QCU {t:TypeId}{d x:SV}(hi:Inv m env s)(hk:Next m (Qou c t (embH env s.H) (d.emb env) (x.emb env)) env s K Q):Ok m (QEb c t d x s K) env Q:=by
 unfold QEb
 split
 ·rename_i b off len
  refine Qax fun e he=>Qax fun u hu=>Qax fun p hp=>?_
  obtain ⟨src,g⟩:=p
  refine Qc0 hi fun s1 hg e1=>?_
  obtain ⟨r1,r2⟩:=Qtt hp hg
  split
  ·rename_i z w l hb
   refine Qbw fun hc=>Qle e1.inv fun s2 hg2 e2=>?_
   obtain ⟨c1,c23⟩:=Qao hc
   obtain ⟨c2,c3⟩:=Qao c23
   have c1':=QaQ c1
   subst c1'
   have hlen:(off.den env .nat:Nat)+(len.den env .nat:Nat)≤(l.den env (.lst w)).length:=by
    split at hg2
    ·rename_i hw
     obtain ⟨w1,w2⟩:=QnX (env:=env) hw
     rw [w1,w2]
     simp
    ·rw [Qkr,Qi6,QbW,decide_eq_true_eq] at hg2
     exact hg2
   refine hk env _ _ ?_ ((e1.trans e2).toExt.setH _)
   simp only [SV.emb]
   rw [QFA,he,Option.bind_some,r1,Option.bind_some,← e1.H,QbX,hb]
   simp only [Option.map_some,Option.bind_some,SB.emb]
   rw [e1.H,if_pos r2,List.length_map,if_pos ⟨Qpm w _ c3,c2,hlen⟩]
   rw [← List.map_take,QxK,← List.map_take,← List.map_drop,← List.map_append,← List.map_append,e2.H,e1.H]
   have hnew:(Ex.o2 .tk len src).den env (.lst w)=(src.den env (.lst w)).take (len.den env .nat):=rfl
   simp only [Qh2,QbW,hnew,Qhu,SB.emb,Qql,QAx,QAw,Qi6]
   rw [List.append_assoc]
  ·simp only [Ok]
 ·simp only [Ok]
theorem QEt {i:TI}{H:SH}{x:SV}{e:Ex}(env:Env)(h:lenE c i H x=some e):QlB c i (embH env H) (x.emb env)=some (e.den env (.int .i64)):=by
 unfold lenE at h
 unfold QlB
 cases hd:i.d<;>simp only [hd,reduceCtorEq] at h ⊢
 ·cases x<;>simp only [reduceCtorEq,Option.some.injEq] at h
  subst h
  simp only [SV.emb,Qpz,Qh2,Qpj]
 ·split at h
  ·rename_i he
   simp only [Option.some.injEq] at h
   subst h
   rw [he]
   rfl
  ·cases h
 ·cases x<;>simp only [reduceCtorEq,Option.some.injEq] at h
  ·subst h
   simp only [SV.emb,Qpz,Qh2,QbW,List.length_map]
  ·subst h; rfl
  ·subst h; rfl
  ·subst h
   simp only [SV.emb,Qpz,Qh2]
 ·simp only [Option.some.injEq] at h
  subst h
  rfl
 ·cases x<;>simp only [reduceCtorEq,Option.some.injEq] at h
  ·subst h; rfl
  ·split at h
   ·rename_i hb
    simp only [Option.some.injEq] at h
    subst h
    simp only [SV.emb,Qpz,QbX,hb,Option.map_some,SB.emb,Qh2,QbW,List.length_map]
   ·cases h
theorem Qwk {b:Builtin}{argTypes:Array TypeId}{args:List SV}(hi:Inv m env s)(hk:Next m (Qfw c b argTypes (embH env s.H) (SV.embL env args)) env s K Q):Ok m (Qte c b argTypes args s K) env Q:=by
 unfold Qte
 split
 ·rename_i x
  refine Qbw fun hb=>Qax fun e he=>hk.same (ExtH.refl hi) ?_
  show (match Nat.ble 1 argTypes.size with |true=>Que c (c.ty (argTypes.getD 0 0)) (embH env s.H) (x.emb env) |false=>none)=_
  rw [hb]
  show Que c (c.ty (argTypes.getD 0 0)) (embH env s.H) (x.emb env)=_
  rw [QEk,QEt env he]
  rfl
 ·rename_i x
  refine Qbw fun hb=>Qax fun e he=>?_
  split
  ·refine hk.same (ExtH.refl hi) ?_
   show (match Nat.ble 1 argTypes.size with |true=>Qyb (c.ty (argTypes.getD 0 0)) (embH env s.H) AV.nils |false=>none)=_
   rw [hb]
   simp only [Qyb,he]
   rfl
  ·refine hk.same (ExtH.refl hi) ?_
   show (match Nat.ble 1 argTypes.size with |true=>Qyb (c.ty (argTypes.getD 0 0)) (embH env s.H) AV.emp |false=>none)=_
   rw [hb]
   simp only [Qyb,he]
   rfl
  ·simp only [Ok]
 ·rename_i a x
  refine Qbw fun hb=>QyP hi ?_
  have:Qfw c .append argTypes (embH env s.H) (SV.embL env [a,x])=QeF c (argTypes.getD 0 0) (argTypes.getD 1 0) (embH env s.H) (a.emb env) (x.emb env):=by
   show (match Nat.beq argTypes.size 2 with |true=>QeF c (argTypes.getD 0 0) (argTypes.getD 1 0) (embH env s.H) (a.emb env) (x.emb env) |false=>none)=_
   rw [hb]
  rw [this] at hk
  exact hk
 ·rename_i d x
  refine Qbw fun hb=>QCU hi ?_
  have:Qfw c .copy argTypes (embH env s.H) (SV.embL env [d,x])=Qou c (argTypes.getD 0 0) (embH env s.H) (d.emb env) (x.emb env):=by
   show (match Nat.beq argTypes.size 2 with |true=>Qou c (argTypes.getD 0 0) (embH env s.H) (d.emb env) (x.emb env) |false=>none)=_
   rw [hb]
  rw [this] at hk
  exact hk
 ·simp only [Ok]
theorem QCV {p a b:SV}(hi:Inv m env s)(hk:Next m (okV (embH env s.H) (Qzj (p.emb env) (a.emb env) (b.emb env))) env s K Q):Ok m (QEc p a b s K) env Q:=by
 unfold QEc
 split
 ·rename_i e
  refine QmJ hi fun x s1 hx e1=>?_
  simp only [SV.emb,hx] at hk
  cases x with
  | true=>exact hk.same e1 rfl
  | false=>exact hk.same e1 rfl
 ·simp only [Ok]
theorem QAN {t:TypeId}(hi:Inv m env s)(hk:Next m (QpB c (c.ty t) (embH env s.H)) env s K Q):Ok m (QzX c t s K) env Q:=by
 unfold QzX
 refine Qbw fun hb=>Qax fun z hz=>Qax fun p hp=>?_
 obtain ⟨cs,H⟩:=p
 refine hk env _ _ ?_ ((ExtH.refl hi).toExt.setH _)
 unfold QpB
 rw [hb]
 simp only
 rw [← Qpl env hz,Qgh hp]
 simp only [QrT,Qat,Qd5,Qba]
 rfl
theorem QEu {t:TypeId}{v:SV}(hi:Inv m env s)(hk:Next m (Qzk c (c.ty t).zs (v.emb env) (embH env s.H)) env s K Q):Ok m (boxT c t v s K) env Q:=by
 unfold boxT
 refine Qbw fun hb=>Qax fun p hp=>?_
 obtain ⟨cs,H⟩:=p
 refine hk env _ _ ?_ ((ExtH.refl hi).toExt.setH _)
 unfold Qzk
 simp only [QgM,QgN,hb,Qfl]
 rw [Qgh hp]
 simp only [QrT,Qat,Qd5,Qba]
 rfl
theorem QuT {x v:SV}(env:Env)(h:Qqe x=some v):QnA (x.emb env)=some (v.emb env):=by
 cases x<;>simp only [Qqe,Option.some.injEq,reduceCtorEq] at h<;>subst h<;>rfl
theorem Ql7 (env:Env):∀ (n:Nat) (v:SV),Qd9 n (v.emb env)=QnM n v
 | 0,v=>rfl
 | n+1,v=>by
  cases v with
  | iface t v=>exact Ql7 env n v
  | agg cs=>
   show (SV.embL env cs).all (Qd9 n)=cs.all (QnM n)
   rw [Qa0,List.all_map]
   congr 1
   funext v
   exact Ql7 env n v
  | fn f caps=>cases caps<;>rfl
  | _=>rfl
theorem QAO {t:TypeId}{i:TI}{x v:SV}(env:Env)(h:QzY t i x=some v):QsT t i (x.emb env)=some (v.emb env):=by
 unfold QzY at h
 unfold QsT
 cases hd:i.d<;>simp only [hd,reduceCtorEq] at h ⊢<;>
  (split at h<;>first
   | (rename_i hp
      simp only [Option.some.injEq] at h
      subst h
      rw [show QDx (x.emb env)=QnM 8 x from Ql7 env 8 x,hp]
      rfl)
   | (cases h))
theorem QuU {fn:Fn}{first:Array Operand}{caps:List SV}{v:SV}(env:Env)(h:Qqf fn first caps=some v):Qk3 fn first (SV.embL env caps)=some (v.emb env):=by
 unfold Qqf at h
 unfold Qk3
 split at h
 ·split at h
  ·rename_i hb
   simp only [Option.some.injEq] at h
   subst h
   simp only [hb]
   rfl
  ·cases h
 ·cases h
theorem Qwl {i:TI}{r:Option SV}(hi:Inv m env s)(hk:Next m (Qie i (embH env s.H) (r.map (SV.emb env))) env s K Q):Ok m (Qtf c i r s K) env Q:=by
 unfold Qtf
 split
 ·rename_i kt e hd
  refine Qax fun tk htk=>Qax fun tv htv=>?_
  split
  ·refine hk env _ _ ?_ ((ExtH.refl hi).toExt.setH _)
   simp only [Option.map_none,Qie,Qat,Qd5,Qba]
   rfl
  ·refine hk env _ _ ?_ ((ExtH.refl hi).toExt.setH _)
   simp only [Option.map_some,SV.emb,Qie,hd,Qat,Qd5,Qba]
   rfl
  ·simp only [Ok]
 ·simp only [Ok]
theorem Qtw {i:TI}{l cp:SV}(hi:Inv m env s)(hk:Next m (Qfg c i (l.emb env) (cp.emb env) (embH env s.H)) env s K Q):Ok m (QnN c i l cp s K) env Q:=by
 unfold QnN
 refine Qax fun e he=>Qax fun t ht=>Qax fun z hz=>?_
 split
 ·rename_i n k
  refine Qbw fun hb=>Qc0 hi fun s1 hg e1=>?_
  obtain ⟨b1,b2⟩:=Qao hb
  have g1:=hg (leE .i64 (.il 0) n) (by simp)
  have g2:=hg (match Ex.beq n k with |true=>.bl true |false=>eqE .i64 n k) (List.mem_cons_of_mem _ List.mem_cons_self)
  have g3:=hg (nleE (mk2 .nmul (mk1 (.toN .i64) n) (natE (c.ty e).bytes)) (natE 140737488355328)) (by simp)
  rw [Ql5,decide_eq_true_eq] at g1
  rw [Qkr,Qtp,Qqk,decide_eq_true_eq] at g3
  have g2':n.den env (.int .i64)=k.den env (.int .i64):=by
   split at g2
   ·rename_i hx; rw [QaH hx]
   ·rw [QnY,decide_eq_true_eq] at g2; exact g2
  refine hk env _ _ ?_ (e1.toExt.setH _)
  have g1':(0:Int)≤n.den env (.int .i64):=g1
  have g3':(Int.toNat (n.den env (.int .i64))) * (c.ty e).bytes≤140737488355328:=g3
  simp only [SV.emb]
  rw [Qv9,he,Option.bind_some,if_pos g1',if_pos g2',if_pos g3',if_pos (Nat.le_of_ble_eq_true b1),if_pos b2,QxI env hz,Qba,e1.H]
  have hx:(Ex.o2 .rep (mk1 (.toN .i64) n) z).den env (.lst t)=List.replicate (Int.toNat (n.den env (.int .i64))) (z.den env t):=by
   show List.replicate ((mk1 (.toN .i64) n).den env .nat) (z.den env t)=_
   rw [Qqk]
  simp only [QbW,hx,Ev.hd,tg,List.length_replicate,Qd5]
  simp only [embH,List.map_cons,List.map_nil,SB.emb,hx,List.map_replicate]
  rfl
 ·simp only [Ok]
theorem Qtx {i:TI}{x v:SV}{f:Nat}(env:Env)(h:QnO c i x f=some v):QgA c i (x.emb env) f=some (v.emb env):=by
 unfold QnO at h
 unfold QgA
 split at h
 ·cases h
 ·rename_i off u hf
  rw [hf]
  simp only
  split at h
  ·cases h
  ·rename_i hb
   rw [hb]
   simp only
   cases x<;>simp only [Option.some.injEq,reduceCtorEq] at h<;>subst h
   ·rfl
   ·simp only [SV.emb,Qat,QgL]
theorem QAP {i:TI}{x v:SV}{f:Nat}(env:Env)(h:Qz0 c i x f=some v):QpD c i (x.emb env) f=some (v.emb env):=by
 unfold Qz0 at h
 unfold QpD
 split at h
 ·cases h
 ·rename_i off u hf
  rw [hf]
  simp only
  cases x<;>simp only [reduceCtorEq] at h
  simp only [SV.emb,QgL,Qik,h]
  rfl
theorem QuV {e:TypeId}{k:IntKind}{n:Ex}{x:SV}(hi:Inv m env s)(hk:Next m (okV (embH env s.H) (QiY c e (embH env s.H) (n.den env (.int k)) (x.emb env))) env s K Q):Ok m (Qqg c e k n x s K) env Q:=by
 unfold Qqg
 split
 ·rename_i t l
  refine Qbw fun hb=>Qqs hi fun env' y s1 ha e1 hp hl hn=>hk.same e1 ?_
  obtain ⟨g1,g2,g3,g4⟩:=Ql6 ha
  simp only [SV.emb,QiY,List.length_map,g3,List.getElem?_map,g4,Option.map_some,Qdq,hb]
  rw [QeL]
  rfl
 ·rename_i b off len
  refine Qbw fun hb=>?_
  have hsz:Qgz (embH env s.H) b (c.ty e).size=true:=by rw [Qsp]; exact hb
  split
  ·simp only [Ok]
  ·rename_i t ht
   split
   ·simp only [Ok]
   ·rename_i l hl0
    split
    ·rename_i hw
     refine Qqs hi fun env' y s1 ha e1 hp hl hn=>hk.same e1 ?_
     obtain ⟨w1,w2⟩:=QnX (env:=env) hw
     obtain ⟨g1,g2,g3,g4⟩:=Ql6 ha
     simp only [SV.emb]
     rw [Qxw,w1,w2,g3,Option.bind_some,if_pos hsz,Qqk,hn,Nat.zero_add]
     rfl
    ·refine Qc0 hi fun s1 hg e1=>hk.same e1 ?_
     have h1:=hg (leE k (.il 0) n) (by simp)
     have h2:=hg (ltE k n (mk1 .ofN len)) (by simp)
     rw [Ql5,decide_eq_true_eq] at h1
     rw [Qwf,Qh2,decide_eq_true_eq] at h2
     simp only [SV.emb]
     rw [Qxw,Qtv h1 h2,Option.bind_some,if_pos hsz,Qi6,Qqk]
     rfl
 ·simp only [Ok]
theorem QuW {mm:Nat}{n:Ex}{i:Nat}(h:Qxn mm n=some i):n=.il (.ofNat i)∧i<mm:=by
 unfold Qxn at h
 split at h
 ·rename_i j hj
  split at h
  ·rename_i hb
   simp only [Option.some.injEq] at h
   subst h
   unfold QDz at hj
   split at hj
   ·simp only [Option.some.injEq] at hj
    subst hj
    refine ⟨rfl,?_⟩
    simpa [Nat.blt_eq] using hb
   ·cases hj
  ·cases h
 ·cases h
theorem Qwm {mm:Nat}{e:TypeId}{k:IntKind}{n:Ex}{x v:SV}(env:Env)(h:Qtg c mm e n x=some v):QsU c mm e (n.den env (.int k)) (x.emb env)=some (v.emb env):=by
 unfold Qtg at h
 unfold QsU
 split at h
 ·rename_i i hi
  obtain ⟨rfl,h1⟩:=QuW hi
  have:atIdx ((Ex.il (.ofNat i)).den env (.int k)) mm=some i:=Qtv (Int.natCast_nonneg i) (Int.ofNat_lt.mpr h1)
  rw [this]
  simp only
  cases x<;>simp only [Option.some.injEq,reduceCtorEq] at h<;>subst h
  ·rfl
  ·simp only [SV.emb,Qat,QgL]
 ·cases h
theorem Qty {i:TI}{x ix:SV}(hi:Inv m env s)(hk:Next m (okV (embH env s.H) (QcX c i (embH env s.H) (x.emb env) (ix.emb env))) env s K Q):Ok m (QnP c i x ix s K) env Q:=by
 unfold QnP
 split
 ·rename_i k n
  simp only [SV.emb,QcX] at hk
  split
  ·rename_i e he
   rw [he] at hk
   exact QuV hi hk
  ·rename_i mm e he
   rw [he] at hk
   refine Qax fun v hv=>hk.pure hi (Qwm env hv)
  ·simp only [Ok]
 ·simp only [Ok]
theorem QuX (env:Env){t:Ty}:∀ {mm:Nat} {cs:List SV} {l:List Ex},chunks t mm cs=some l→l.length=mm∧∀ i x,l[i]?=some x→∃ r,(SV.embL env cs).drop (i * t.size)=row t (x.den env t)++r
 | 0,cs,l,h=>by
  simp only [chunks,Option.some.injEq] at h
  subst h
  exact ⟨rfl,fun i x h=>by simp at h⟩
 | mm+1,cs,l,h=>by
  simp only [chunks] at h
  split at h
  ·cases h
  ·rename_i x r hr
   split at h
   ·rename_i l' hl'
    simp only [Option.some.injEq] at h
    subst h
    obtain ⟨h1,h2⟩:=QuX env hl'
    refine ⟨by simp [h1],fun i y hy=>?_⟩
    have hcs:=Qpk env hr
    cases i with
    | zero=>
     simp only [List.getElem?_cons_zero,Option.some.injEq] at hy
     subst hy
     exact ⟨_,by rw [Nat.zero_mul,List.drop_zero,hcs]⟩
    | succ i=>
     simp only [List.getElem?_cons_succ] at hy
     obtain ⟨r2,hr2⟩:=h2 i y hy
     refine ⟨r2,?_⟩
     rw [hcs,← hr2]
     have:(i+1) * t.size=(row t (x.den env t)).length+i * t.size:=by rw [Qdq,Nat.succ_mul,Nat.add_comm]
     rw [this,List.drop_append]
     simp
   ·cases h
theorem QCW {t:Ty}{e:TypeId}(ht:tyOf c e=some t)(hk:(c.ty e).known=true)(ha:Qxo.eqB (c.ty e).isAgg (Qmx t)=true)(x:t.D)(r:List AV):pack (c.ty e) (row t x++r)=some (valT t x):=by
 have hsz:=QbY (QmQ ht)
 unfold pack
 rw [hk]
 simp only
 cases hg:(c.ty e).isAgg with
 | true=>
  have:Qmx t=true:=by
   rw [hg] at ha
   cases h:Qmx t with
   | true=>rfl
   | false=>rw [h] at ha; cases ha
  simp only
  have hb:Nat.ble (c.ty e).size (row t x++r).length=true:=Nat.ble_eq_true_of_le (by rw [List.length_append,Qdq]; omega)
  rw [hb,QxB this]
  simp only
  rw [← hsz,List.take_append_of_le_length (by rw [Qdq]; omega),List.take_of_length_le (by rw [Qdq]; omega)]
 | false=>
  have:Qmx t=false:=by
   rw [hg] at ha
   cases h:Qmx t with
   | false=>rfl
   | true=>rw [h] at ha; cases ha
  simp only
  rw [← QuP this]
  rfl
theorem QAQ {i:TI}{x ix:SV}(hi:Inv m env s)(hk:Next m (okV (embH env s.H) (QpE c i (x.emb env) (ix.emb env))) env s K Q):Ok m (Qxo c i x ix s K) env Q:=by
 unfold Qxo
 split
 ·rename_i k n
  simp only [SV.emb,QpE] at hk
  split
  ·rename_i mm e cs he
   rw [he] at hk
   simp only [SV.emb] at hk
   split
   ·rename_i j hj
    obtain ⟨rfl,h1⟩:=QuW hj
    refine Qax fun v hv=>hk.pure hi ?_
    have:atIdx ((Ex.il (.ofNat j)).den env (.int k)) mm=some j:=Qtv (Int.natCast_nonneg j) (Int.ofNat_lt.mpr h1)
    rw [Qsh,this,Option.bind_some,QgL,Qik,hv]
    rfl
   ·refine Qax fun t ht=>Qax fun l hl=>Qbw fun hb=>?_
    obtain ⟨b1,b2⟩:=Qao hb
    refine Qqs hi fun env' y s1 ha e1 hp hl' hn=>hk.same e1 ?_
    obtain ⟨g1,g2,g3,g4⟩:=Ql6 ha
    obtain ⟨c1,c2⟩:=QuX env hl
    rw [Qqx] at g3 g4
    rw [List.length_map,c1] at g3
    rw [List.getElem?_map] at g4
    cases hx:l[(n.den env (.int k)).toNat]? with
    | none=>rw [hx] at g4; simp at g4
    | some x0=>
     rw [hx,Option.map_some,Option.some.injEq] at g4
     obtain ⟨r,hr⟩:=c2 _ _ hx
     rw [Qsh,g3,Option.bind_some,← QbY (QmQ ht),hr,QCW ht b1 b2,Qtq,g4]
     rfl
  ·rename_i e he
   rw [he] at hk
   simp only [SV.emb] at hk
   refine Qqs hi fun env' y s1 ha e1 hp hl' hn=>hk.same e1 ?_
   obtain ⟨g1,g2,g3,g4⟩:=Ql6 ha
   have hbytes:(Ex.o1 .bytes e).den env (.lst (.int .u8))=(e.den env .str).map fun b=>(b.toNat:Int):=rfl
   rw [hbytes] at g3 g4
   rw [List.length_map] at g3
   rw [List.getElem?_map] at g4
   cases hx:(e.den env .str)[(n.den env (.int k)).toNat]? with
   | none=>rw [hx] at g4; simp at g4
   | some x0=>
    rw [hx,Option.map_some,Option.some.injEq] at g4
    have:Qpc (e.den env .str) (n.den env (.int k))=some (.int .u8 x0.toNat):=by
     unfold Qpc
     rw [g3]
     simp only [hx]
    rw [this]
    show some (AV.int .u8 (x0.toNat:Int),embH env s.H)=_
    rw [g4]
    rfl
  ·simp only [Ok]
 ·simp only [Ok]
theorem Qwn {i:Nat}{x v:SV}(env:Env)(h:Qti i x=some v):Qmo i (x.emb env)=some (v.emb env):=by
 cases x<;>simp only [Qti,reduceCtorEq] at h
 simp only [SV.emb,Qmo,Qa0,List.getElem?_map,h,Option.map_some]
end
end Go.Sy
