/- Symbolic runs: slices, new blocks, addresses. -/
import Derived.Test.YtkecfadnfnnfaaaGreatDoorSyJ
set_option linter.unusedVariables false
set_option linter.unusedSimpArgs false
namespace Go.Sy
open Go Go.Ev
section
variable {P:Nat→List Ty} {O:Nat→List (List Ty)} {m:(f:Nat)→Pr (P f)→Option (Sm (O f))} {α:Type}
variable {c:Ctx}
variable {env:Env} {s:SS} {K:SV→SS→T α} {Q:Env→α→Prop}
theorem Qyb {γ δ:Type}(f:γ→δ)(l:List γ):hd (l.map f)=l.length:=by simp [Ev.hd]
theorem Qd4 {n:Option SV}{d most e:Ex}{g:List Ex}(env:Env)(h:QjU n d most=some (e,g))(hg:∀ c∈g,c.den env .bool=true):
  bound (n.map (SV.emb env)) (d.den env .nat) (most.den env .nat)=some (e.den env .nat):=by
 unfold QjU at h
 split at h
 ·simp only [osi,Prod.mk.injEq] at h
  obtain ⟨rfl,rfl⟩:=h
  rfl
 ·rename_i k n
  simp only [osi,Prod.mk.injEq] at h
  obtain ⟨rfl,rfl⟩:=h
  have h1:=hg (leE k (.il 0) n) (by simp)
  have h2:=hg (leE k n (mk1 .ofN most)) (by simp)
  rw [QkS,decide_eq_true_eq] at h1 h2
  rw [Qik] at h2
  simp only [Option.map_some,SV.emb,QDi,bnd]
  rw [if_pos ⟨h1,h2⟩,Qmg]
 ·cases h
theorem QsA (env:Env)(H:SH)(b n:Nat):QgR (embH env H) b n=Qtm H b n:=by
 unfold QgR Qtm QgQ Qlu
 rw [Qck]
 cases H[b]? with
 | none=>rfl
 | some k=>cases k<;>rfl
theorem QwP (env:Env)(H:SH)(b:Nat):QgQ (embH env H) b=Qlu H b:=by
 unfold QgQ Qlu
 rw [Qck]
 cases H[b]? with
 | none=>rfl
 | some k=>cases k<;>rfl
theorem QBs {t:TypeId}{H:SH}{x v:SV}{lo hi:Option SV}{g:List Ex}(env:Env)(h:QAE c t H x lo hi=some (v,g))(hg:∀ c∈g,c.den env .bool=true):
  Qet c t (embH env H) (x.emb env) (lo.map (SV.emb env)) (hi.map (SV.emb env))=some (v.emb env):=by
 unfold QAE at h
 split at h
 ·rename_i e
  split at h
  ·rename_i ht
   split at h
   ·rename_i hh g1 h1
    split at h
    ·rename_i l g2 h2
     simp only [osi,Prod.mk.injEq] at h
     obtain ⟨rfl,rfl⟩:=h
     have b1:=Qd4 env h1 (fun c hc=>hg c (List.mem_append_left _ hc))
     have b2:=Qd4 env h2 (fun c hc=>hg c (List.mem_append_right _ hc))
     rw [Qpo] at b1
     simp only [SV.emb]
     rw [Qy9 c t _ _ _ _ ht,show hd (e.den env .str)=(e.den env .str).length from rfl,b1,Option.bind_some,show (0:Nat)=(natE 0).den env .nat from rfl,b2]
     rfl
    ·cases h
   ·cases h
  ·cases h
 ·rename_i u e
  split at h
  ·rename_i el hh g1 he h1
   split at h
   ·rename_i l g2 h2
    split at h
    ·rename_i hs
     simp only [osi,Prod.mk.injEq] at h
     obtain ⟨rfl,rfl⟩:=h
     have b1:=Qd4 env h1 (fun c hc=>hg c (List.mem_append_left _ hc))
     have b2:=Qd4 env h2 (fun c hc=>hg c (List.mem_append_right _ hc))
     rw [Qb6] at b1
     simp only [SV.emb]
     rw [Qza,he,Option.bind_some,Qyb,b1,Option.bind_some,show (0:Nat)=(natE 0).den env .nat from rfl,b2,Option.bind_some,if_pos (Qps u _ hs)]
     have:(Ex.o2 .tk (mk2 .nsub hh l) (mk2 .dr l e)).den env (.lst u)=((e.den env (.lst u)).drop (l.den env .nat)).take ((hh.den env .nat:Nat) - (l.den env .nat:Nat)):=by
      show ((mk2 .dr l e).den env (.lst u)).take ((mk2 .nsub hh l).den env .nat)=_
      rw [QBe,Qx2]
     rw [this,List.map_take,List.map_drop]
    ·cases h
   ·cases h
  ·cases h
 ·rename_i b off len
  split at h
  ·rename_i el hh g1 he h1
   split at h
   ·rename_i l g2 h2
    split at h
    ·rename_i hs
     simp only [osi,Prod.mk.injEq] at h
     obtain ⟨rfl,rfl⟩:=h
     have b1:=Qd4 env h1 (fun c hc=>hg c (List.mem_append_left _ hc))
     have b2:=Qd4 env h2 (fun c hc=>hg c (List.mem_append_right _ hc))
     simp only [SV.emb]
     rw [QA8,he,Option.bind_some,b1,Option.bind_some,show (0:Nat)=(natE 0).den env .nat from rfl,b2,Option.bind_some,QsA,if_pos hs,Qjq,Qx2]
    ·cases h
   ·cases h
  ·cases h
 ·split at h
  ·rename_i el a g1 b g2 he h1 h2
   simp only [osi,Prod.mk.injEq] at h
   obtain ⟨rfl,rfl⟩:=h
   have b1:=Qd4 env h1 (fun c hc=>hg c (List.mem_append_left _ hc))
   have b2:=Qd4 env h2 (fun c hc=>hg c (List.mem_append_right _ hc))
   have b1':bound (hi.map (SV.emb env)) 0 0=_:=b1
   have b2':bound (lo.map (SV.emb env)) 0 0=_:=b2
   simp only [SV.emb]
   rw [QwG,he,Option.bind_some,b1',Option.bind_some,b2']
   rfl
  ·cases h
 ·split at h
  ·rename_i el a g1 b g2 he h1 h2
   simp only [osi,Prod.mk.injEq] at h
   obtain ⟨rfl,rfl⟩:=h
   have b1:=Qd4 env h1 (fun c hc=>hg c (List.mem_append_left _ hc))
   have b2:=Qd4 env h2 (fun c hc=>hg c (List.mem_append_right _ hc))
   have b1':bound (hi.map (SV.emb env)) 0 0=_:=b1
   have b2':bound (lo.map (SV.emb env)) 0 0=_:=b2
   simp only [SV.emb,Qet,he,b1',b2']
  ·cases h
 ·cases h
theorem QBt {t:TypeId}{x:SV}{lo hi mx:Option SV}(h0:Inv m env s)
  (hk:Next m (okV (embH env s.H) (QnD c t (embH env s.H) (x.emb env) (lo.map (SV.emb env)) (hi.map (SV.emb env)) (mx.map (SV.emb env)))) env s K Q):Ok m (QAH c t x lo hi mx s K) env Q:=by
 unfold QAH
 split
 ·refine Qau fun p hp=>?_
  obtain ⟨v,g⟩:=p
  refine QcQ h0 fun s1 hg e1=>hk.same e1 ?_
  show okV _ (Qet c t (embH env s.H) (x.emb env) (lo.map (SV.emb env)) (hi.map (SV.emb env)))=_
  rw [QBs env hp hg]
  rfl
 ·simp only [Ok]
theorem Qn3 {e:TypeId}{t:Ty}{x:Ex}(hi:Inv m env s)(hk:Next m (QbH c e (embH env s.H) (List.map (row t) (x.den env (.lst t)))) env s K Q):Ok m (QkG c e t x s K) env Q:=by
 unfold QkG
 refine QbR fun hb=>Qlx hi fun s1 hg e1=>hk env _ _ ?_ (e1.toExt.setH _)
 rw [Qjr,Qpp,Qb6,decide_eq_true_eq] at hg
 rw [QwE,List.length_map,if_pos ⟨hg,Nat.le_of_ble_eq_true hb⟩,Qyb,e1.H,QdI,Qba]
 simp only [SV.emb,Qb6]
 rfl
theorem QBu {e:TypeId}{args:List SV}(hi:Inv m env s)(hk:Next m (QkA c e (SV.embL env args) (embH env s.H)) env s K Q):Ok m (QAz c e args s K) env Q:=by
 unfold QAz
 split
 ·rename_i x
  refine Qau fun t ht=>Qau fun p hp=>?_
  obtain ⟨l,g⟩:=p
  refine QcQ hi fun s1 hg e1=>Qn3 e1.inv ?_
  obtain ⟨r1,r2⟩:=QtD hp hg
  intro env' v s' h e2
  refine hk env' v s' ?_ (e1.toExt.trans e2)
  show QkA c e [x.emb env] (embH env s.H)=_
  rw [QEN,r1,Option.bind_some,if_pos r2,if_pos (Qps t _ (Qm7 ht)),← e1.H,h]
 ·simp only [Ok]
theorem Qzj {t tx:TypeId}{a x:SV}(hi:Inv m env s)(hk:Next m (Qgs c t tx (embH env s.H) (a.emb env) (x.emb env)) env s K Q):Ok m (Qwq c t tx a x s K) env Q:=by
 unfold Qwq
 refine Qau fun e' he'=>Qau fun e he=>Qau fun u hu=>Qau fun p hp=>?_
 obtain ⟨new,g⟩:=p
 refine QcQ hi fun s1 hg e1=>?_
 obtain ⟨r1,r2⟩:=QtD hp hg
 have key:Qgs c t tx (embH env s.H) (a.emb env) (x.emb env)=QA7 c e (embH env s1.H) (List.map (row u) (new.den env (.lst u))) (a.emb env):=by
  rw [QDg,he',he,Option.bind_some,r1,Option.bind_some,if_pos r2,if_pos (Qps u _ (Qm7 hu)),e1.H]
  rfl
 rw [key] at hk
 split
 ·refine Qn3 e1.inv fun env' v s' h e2=>hk env' v s' h (e1.toExt.trans e2)
 ·refine Qn3 e1.inv fun env' v s' h e2=>hk env' v s' h (e1.toExt.trans e2)
 ·rename_i b off len
  refine QbR fun ho=>?_
  have ho':off=natE 0:=QaH ho
  subst ho'
  split
  ·rename_i z w l hb
   refine QbR fun hc=>Qlx e1.inv fun s2 hg2 e2=>?_
   obtain ⟨c1,c2⟩:=Qan hc
   obtain ⟨c2,c3⟩:=Qan c2
   have c1':=QaT c1
   subst c1'
   rw [Qjr,Qpp,Qjq,Qb6,decide_eq_true_eq] at hg2
   have base:∀ hl:(len.den env .nat:Nat)≤(l.den env (.lst w)).length,QA7 c e (embH env s1.H) (List.map (row w) (new.den env (.lst w))) ((SV.sl b (natE 0) len).emb env)=
     some (.sl s1.H.length 0 (((l.den env (.lst w)).take (len.den env .nat)++new.den env (.lst w)).length),(embH env s1.H).set b .dead++[.rows z true (List.map (row w) ((l.den env (.lst w)).take (len.den env .nat)++new.den env (.lst w)))]):=fun hl=>by
    unfold QA7
    simp only [SV.emb]
    rw [if_pos (show ((natE 0).den env .nat:Nat)=0 from rfl),Qck,hb]
    simp only [Option.map_some,Option.bind_some,SB.emb]
    have hg2':((len.den env .nat:Nat)+(new.den env (.lst w)).length) * (c.ty e).bytes≤35184372088832:=hg2
    have hl':(len.den env .nat:Nat)≤(List.map (row w) (l.den env (.lst w))).length:=by rw [List.length_map]; exact hl
    rw [List.length_map,if_pos ⟨c2,hg2',hl',Nat.le_of_ble_eq_true c3⟩]
    rw [← List.map_take,← List.map_append,Qyb,Qba]
   split
   ·rename_i hw
    have hl:(len.den env .nat:Nat)=(l.den env (.lst w)).length:=by rw [QaH hw,Qb6]
    have h0:=base (Nat.le_of_eq hl)
    refine hk env _ _ ?_ ((e1.trans e2).toExt.setH _)
    rw [h0,e2.H]
    rw [hl,List.take_length]
    simp only [SV.emb,Qb6,Qqr,QdI,QhC]
    rw [show embH env [SB.rows z w (mk2 .app l new)]=[Blk.rows z true (List.map (row w) ((mk2 .app l new).den env (.lst w)))] from rfl,Qqr]
    rfl
   ·refine Qlx e2.inv fun s3 hg3 e3=>?_
    rw [Qjr,Qb6,decide_eq_true_eq] at hg3
    have h0:=base hg3
    refine hk env _ _ ?_ (((e1.trans e2).trans e3).toExt.setH _)
    rw [h0,e3.H,e2.H]
    simp only [SV.emb,Qb6,Qqr,QBf,QdI,QhC]
    rw [show embH env [SB.rows z w (mk2 .app (mk2 .tk len l) new)]=[Blk.rows z true (List.map (row w) ((mk2 .app (mk2 .tk len l) new).den env (.lst w)))] from rfl,Qqr,QBf]
    rfl
  ·simp only [Ok]
 ·simp only [Ok]
theorem QDs {t:TypeId}{d x:SV}(hi:Inv m env s)(hk:Next m (QoB c t (embH env s.H) (d.emb env) (x.emb env)) env s K Q):Ok m (QEF c t d x s K) env Q:=by
 unfold QEF
 split
 ·rename_i b off len
  refine Qau fun e he=>Qau fun u hu=>Qau fun p hp=>?_
  obtain ⟨src,g⟩:=p
  refine QcQ hi fun s1 hg e1=>?_
  obtain ⟨r1,r2⟩:=QtD hp hg
  split
  ·rename_i z w l hb
   refine QbR fun hc=>Qlx e1.inv fun s2 hg2 e2=>?_
   obtain ⟨c1,c23⟩:=Qan hc
   obtain ⟨c2,c3⟩:=Qan c23
   have c1':=QaT c1
   subst c1'
   have hlen:(off.den env .nat:Nat)+(len.den env .nat:Nat)≤(l.den env (.lst w)).length:=by
    split at hg2
    ·rename_i hw
     obtain ⟨w1,w2⟩:=Qn0 (env:=env) hw
     rw [w1,w2]
     simp
    ·rw [Qjr,Qjq,Qb6,decide_eq_true_eq] at hg2
     exact hg2
   refine hk env _ _ ?_ ((e1.trans e2).toExt.setH _)
   simp only [SV.emb]
   rw [QGc,he,Option.bind_some,r1,Option.bind_some,← e1.H,Qck,hb]
   simp only [Option.map_some,Option.bind_some,SB.emb]
   rw [e1.H,if_pos r2,List.length_map,if_pos ⟨Qps w _ c3,c2,hlen⟩]
   rw [← List.map_take,Qyb,← List.map_take,← List.map_drop,← List.map_append,← List.map_append,e2.H,e1.H]
   have hnew:(Ex.o2 .tk len src).den env (.lst w)=(src.den env (.lst w)).take (len.den env .nat):=rfl
   simp only [Qik,Qb6,hnew,QhC,SB.emb,Qqr,QBf,QBe,Qjq]
   rw [List.append_assoc]
  ·simp only [Ok]
 ·simp only [Ok]
theorem QEX {i:TI}{H:SH}{x:SV}{e:Ex}(env:Env)(h:lenE c i H x=some e):QlR c i (embH env H) (x.emb env)=some (e.den env (.int .i64)):=by
 unfold lenE at h
 unfold QlR
 cases hd:i.d<;>simp only [hd,reduceCtorEq] at h ⊢
 ·cases x<;>simp only [reduceCtorEq,osi] at h
  subst h
  simp only [SV.emb,QpF,Qik,Qpo]
 ·split at h
  ·rename_i he
   simp only [osi] at h
   subst h
   rw [he]
   rfl
  ·cases h
 ·cases x<;>simp only [reduceCtorEq,osi] at h
  ·subst h
   simp only [SV.emb,QpF,Qik,Qb6,List.length_map]
  ·subst h; rfl
  ·subst h; rfl
  ·subst h
   simp only [SV.emb,QpF,Qik]
 ·simp only [osi] at h
  subst h
  rfl
 ·cases x<;>simp only [reduceCtorEq,osi] at h
  ·subst h; rfl
  ·split at h
   ·rename_i hb
    simp only [osi] at h
    subst h
    simp only [SV.emb,QpF,Qck,hb,Option.map_some,SB.emb,Qik,Qb6,List.length_map]
   ·cases h
theorem QBv (t:TypeId)(H:Heap)(n:Int):QnB c t H .nils (.int .i64 n)=(Ev.elemOf (c.ty t)).bind fun e=>
  if 1≤n then if n.toNat * (c.ty e).bytes≤140737488355328 then if 1≤(c.ty e).bytes then if 1≤(c.ty e).size then if (c.ty e).zero.all AV.Qax=true then
   some (.sl H.length 0 (hd (tg e (List.replicate n.toNat ((c.ty e).zero.map lstZ)))),H++[.rows (c.ty e).size true (tg e (List.replicate n.toNat ((c.ty e).zero.map lstZ)))]) else none else none else none else none else none:=by
 unfold QnB
 cases Ev.elemOf (c.ty t) with
 | none=>rfl
 | some e=>
  simp only [Option.bind_some,Qat,Qgf,Qfu]
  by_cases h1:1≤n<;>by_cases h2:n.toNat * (c.ty e).bytes≤140737488355328<;>by_cases h3:1≤(c.ty e).bytes<;>by_cases h4:1≤(c.ty e).size<;>cases h5:(c.ty e).zero.all AV.Qax<;>simp [h1,h2,h3,h4,hd,tg]
theorem QwQ {t:TypeId}{a x:SV}(hi:Inv m env s)(hk:Next m (QnB c t (embH env s.H) (a.emb env) (x.emb env)) env s K Q):Ok m (Qtn c t a x s K) env Q:=by
 unfold Qtn
 split
 ·refine Qau fun e he=>Qau fun u hu=>Qau fun z hz=>?_
  split
  ·rename_i n
   refine QbR fun hb=>QcQ hi fun s1 hg e1=>?_
   obtain ⟨b1,b2'⟩:=Qan hb
   obtain ⟨b2,b3⟩:=Qan b2'
   have g1:=hg (leE .i64 (.il 1) n) (by simp)
   have g3:=hg (nleE (mk2 .nmul (mk1 (.toN .i64) n) (natE (c.ty e).bytes)) (natE 140737488355328)) (by simp)
   rw [QkS,decide_eq_true_eq] at g1
   rw [Qjr,Qpp,Qmg,decide_eq_true_eq] at g3
   refine hk env _ _ ?_ (e1.toExt.setH _)
   have g1':(1:Int)≤n.den env (.int .i64):=g1
   have g3':(Int.toNat (n.den env (.int .i64))) * (c.ty e).bytes≤140737488355328:=g3
   simp only [SV.emb]
   rw [QBv,he,Option.bind_some,if_pos g1',if_pos g3',if_pos (Nat.le_of_ble_eq_true b1),if_pos (Nat.le_of_ble_eq_true b2),if_pos b3,QtG env hz,Qba,e1.H]
   have hx:(Ex.o2 .rep (mk1 (.toN .i64) n) z).den env (.lst u)=List.replicate (Int.toNat (n.den env (.int .i64))) (z.den env u):=by
    show List.replicate ((mk1 (.toN .i64) n).den env .nat) (z.den env u)=_
    rw [Qmg]
   simp only [Qb6,hx,Ev.hd,tg,List.length_replicate,QdI]
   simp only [embH,List.map_cons,List.map_nil,SB.emb,hx,List.map_replicate]
   rfl
  ·simp only [Ok]
 ·simp only [Ok]
theorem QwR {t tx:TypeId}{a x:SV}(hi:Inv m env s)(hk:Next m (Ql2 c t tx (embH env s.H) (a.emb env) (x.emb env)) env s K Q):Ok m (Qto c t tx a x s K) env Q:=by
 unfold Qto
 unfold Ql2 at hk
 cases h:QyC (c.ty tx) with
 | true=>rw [h] at hk; exact QwQ hi hk
 | false=>rw [h] at hk; exact Qzj hi hk
theorem QwS {b:Builtin}{argTypes:Array TypeId}{args:List SV}(hi:Inv m env s)(hk:Next m (QfW c b argTypes (embH env s.H) (SV.embL env args)) env s K Q):Ok m (Qtp c b argTypes args s K) env Q:=by
 unfold Qtp
 split
 ·rename_i x
  refine QbR fun hb=>Qau fun e he=>hk.same (ExtH.refl hi) ?_
  show (match Nat.ble 1 argTypes.size with |true=>Qux c (c.ty (argTypes.getD 0 0)) (embH env s.H) (x.emb env) |false=>none)=_
  rw [hb]
  show Qux c (c.ty (argTypes.getD 0 0)) (embH env s.H) (x.emb env)=_
  rw [QEO,QEX env he]
  rfl
 ·rename_i x
  refine QbR fun hb=>Qau fun e he=>?_
  split
  ·refine hk.same (ExtH.refl hi) ?_
   show (match Nat.ble 1 argTypes.size with |true=>QyD (c.ty (argTypes.getD 0 0)) (embH env s.H) AV.nils |false=>none)=_
   rw [hb]
   simp only [QyD,he]
   rfl
  ·refine hk.same (ExtH.refl hi) ?_
   show (match Nat.ble 1 argTypes.size with |true=>QyD (c.ty (argTypes.getD 0 0)) (embH env s.H) AV.emp |false=>none)=_
   rw [hb]
   simp only [QyD,he]
   rfl
  ·simp only [Ok]
 ·rename_i a x
  refine QbR fun hb=>QwR hi ?_
  have:QfW c .append argTypes (embH env s.H) (SV.embL env [a,x])=Ql2 c (argTypes.getD 0 0) (argTypes.getD 1 0) (embH env s.H) (a.emb env) (x.emb env):=by
   show (match Nat.beq argTypes.size 2 with |true=>Ql2 c (argTypes.getD 0 0) (argTypes.getD 1 0) (embH env s.H) (a.emb env) (x.emb env) |false=>none)=_
   rw [hb]
  rw [this] at hk
  exact hk
 ·rename_i d x
  refine QbR fun hb=>QDs hi ?_
  have:QfW c .copy argTypes (embH env s.H) (SV.embL env [d,x])=QoB c (argTypes.getD 0 0) (embH env s.H) (d.emb env) (x.emb env):=by
   show (match Nat.beq argTypes.size 2 with |true=>QoB c (argTypes.getD 0 0) (embH env s.H) (d.emb env) (x.emb env) |false=>none)=_
   rw [hb]
  rw [this] at hk
  exact hk
 ·simp only [Ok]
theorem QDt {p a b:SV}(hi:Inv m env s)(hk:Next m (okV (embH env s.H) (Qz0 (p.emb env) (a.emb env) (b.emb env))) env s K Q):Ok m (QEG p a b s K) env Q:=by
 unfold QEG
 split
 ·rename_i e
  refine Qm0 hi fun x s1 hx e1=>?_
  simp only [SV.emb,hx] at hk
  cases x with
  | true=>exact hk.same e1 rfl
  | false=>exact hk.same e1 rfl
 ·simp only [Ok]
theorem QBw {t:TypeId}(hi:Inv m env s)(hk:Next m (QpH c (c.ty t) (embH env s.H)) env s K Q):Ok m (QAF c t s K) env Q:=by
 unfold QAF
 refine QbR fun hb=>Qau fun z hz=>Qau fun p hp=>?_
 obtain ⟨cs,H⟩:=p
 refine hk env _ _ ?_ ((ExtH.refl hi).toExt.setH _)
 unfold QpH
 rw [hb]
 simp only
 rw [← Qpr env hz,Qgx hp]
 simp only [Qr5,Qat,QdI,Qba]
 rfl
theorem QEY {t:TypeId}{v:SV}(hi:Inv m env s)(hk:Next m (Qz1 c (c.ty t).zs (v.emb env) (embH env s.H)) env s K Q):Ok m (boxT c t v s K) env Q:=by
 unfold boxT
 refine QbR fun hb=>Qau fun p hp=>?_
 obtain ⟨cs,H⟩:=p
 refine hk env _ _ ?_ ((ExtH.refl hi).toExt.setH _)
 unfold Qz1
 simp only [Qg2,Qg3,hb,QfK]
 rw [Qgx hp]
 simp only [Qr5,Qat,QdI,Qba]
 rfl
theorem Qvb {x v:SV}(env:Env)(h:Qql x=some v):QnC (x.emb env)=some (v.emb env):=by
 cases x<;>simp only [Qql,osi,reduceCtorEq] at h<;>subst h<;>rfl
theorem Qmj (env:Env):∀ (n:Nat) (v:SV),Qer n (v.emb env)=QnP n v
 | 0,v=>rfl
 | n+1,v=>by
  cases v with
  | iface t v=>exact Qmj env n v
  | agg cs=>
   show (SV.embL env cs).all (Qer n)=cs.all (QnP n)
   rw [Qa9,List.all_map]
   congr 1
   funext v
   exact Qmj env n v
  | fn f caps=>cases caps<;>rfl
  | _=>rfl
theorem QBx {t:TypeId}{i:TI}{x v:SV}(env:Env)(h:QAG t i x=some v):Qs2 t i (x.emb env)=some (v.emb env):=by
 unfold QAG at h
 unfold Qs2
 cases hd:i.d<;>simp only [hd,reduceCtorEq] at h ⊢<;>
  (split at h<;>first
   | (rename_i hp
      simp only [osi] at h
      subst h
      rw [show QD4 (x.emb env)=QnP 8 x from Qmj env 8 x,hp]
      rfl)
   | (cases h))
theorem Qvc {fn:Fn}{first:Array Operand}{caps:List SV}{v:SV}(env:Env)(h:Qqm fn first caps=some v):Qlm fn first (SV.embL env caps)=some (v.emb env):=by
 unfold Qqm at h
 unfold Qlm
 split at h
 ·split at h
  ·rename_i hb
   simp only [osi] at h
   subst h
   simp only [hb]
   rfl
  ·cases h
 ·cases h
theorem QwT {i:TI}{r:Option SV}(hi:Inv m env s)(hk:Next m (Qiz i (embH env s.H) (r.map (SV.emb env))) env s K Q):Ok m (Qtq c i r s K) env Q:=by
 unfold Qtq
 split
 ·rename_i kt e hd
  refine Qau fun tk htk=>Qau fun tv htv=>?_
  split
  ·refine hk env _ _ ?_ ((ExtH.refl hi).toExt.setH _)
   simp only [Option.map_none,Qiz,Qat,QdI,Qba]
   rfl
  ·refine hk env _ _ ?_ ((ExtH.refl hi).toExt.setH _)
   simp only [Option.map_some,SV.emb,Qiz,hd,Qat,QdI,Qba]
   rfl
  ·simp only [Ok]
 ·simp only [Ok]
theorem QtH {i:TI}{l cp:SV}(hi:Inv m env s)(hk:Next m (QfG c i (l.emb env) (cp.emb env) (embH env s.H)) env s K Q):Ok m (QnQ c i l cp s K) env Q:=by
 unfold QnQ
 refine Qau fun e he=>Qau fun t ht=>Qau fun z hz=>?_
 split
 ·rename_i n k
  refine QbR fun hb=>QcQ hi fun s1 hg e1=>?_
  obtain ⟨b1,b2⟩:=Qan hb
  have g1:=hg (leE .i64 (.il 0) n) (by simp)
  have g2:=hg (match Ex.beq n k with |true=>.bl true |false=>eqE .i64 n k) (List.mem_cons_of_mem _ List.mem_cons_self)
  have g3:=hg (nleE (mk2 .nmul (mk1 (.toN .i64) n) (natE (c.ty e).bytes)) (natE 140737488355328)) (by simp)
  rw [QkS,decide_eq_true_eq] at g1
  rw [Qjr,Qpp,Qmg,decide_eq_true_eq] at g3
  have g2':n.den env (.int .i64)=k.den env (.int .i64):=by
   split at g2
   ·rename_i hx; rw [QaH hx]
   ·rw [Qn1,decide_eq_true_eq] at g2; exact g2
  refine hk env _ _ ?_ (e1.toExt.setH _)
  have g1':(0:Int)≤n.den env (.int .i64):=g1
  have g3':(Int.toNat (n.den env (.int .i64))) * (c.ty e).bytes≤140737488355328:=g3
  simp only [SV.emb]
  rw [QwF,he,Option.bind_some,if_pos g1',if_pos g2',if_pos g3',if_pos (Nat.le_of_ble_eq_true b1),if_pos b2,QtG env hz,Qba,e1.H]
  have hx:(Ex.o2 .rep (mk1 (.toN .i64) n) z).den env (.lst t)=List.replicate (Int.toNat (n.den env (.int .i64))) (z.den env t):=by
   show List.replicate ((mk1 (.toN .i64) n).den env .nat) (z.den env t)=_
   rw [Qmg]
  simp only [Qb6,hx,Ev.hd,tg,List.length_replicate,QdI]
  simp only [embH,List.map_cons,List.map_nil,SB.emb,hx,List.map_replicate]
  rfl
 ·simp only [Ok]
theorem QtI {i:TI}{x v:SV}{f:Nat}(env:Env)(h:QnR c i x f=some v):QgS c i (x.emb env) f=some (v.emb env):=by
 unfold QnR at h
 unfold QgS
 split at h
 ·cases h
 ·rename_i off u hf
  rw [hf]
  simp only
  split at h
  ·cases h
  ·rename_i hb
   rw [hb]
   simp only
   cases x<;>simp only [osi,reduceCtorEq] at h<;>subst h
   ·rfl
   ·simp only [SV.emb,Qat,Qg1]
theorem QBy {i:TI}{x v:SV}{f:Nat}(env:Env)(h:QAI c i x f=some v):QpJ c i (x.emb env) f=some (v.emb env):=by
 unfold QAI at h
 unfold QpJ
 split at h
 ·cases h
 ·rename_i off u hf
  rw [hf]
  simp only
  cases x<;>simp only [reduceCtorEq] at h
  simp only [SV.emb,Qg1,QiE,h]
  rfl
theorem Qvd {e:TypeId}{k:IntKind}{n:Ex}{x:SV}(hi:Inv m env s)(hk:Next m (okV (embH env s.H) (Qji c e (embH env s.H) (n.den env (.int k)) (x.emb env))) env s K Q):Ok m (Qqn c e k n x s K) env Q:=by
 unfold Qqn
 split
 ·rename_i t l
  refine QbR fun hb=>Qqy hi fun env' y s1 ha e1 hp hl hn=>hk.same e1 ?_
  obtain ⟨g1,g2,g3,g4⟩:=Qmi ha
  simp only [SV.emb,Qji,List.length_map,g3,List.getElem?_map,g4,Option.map_some,QdG,hb]
  rw [Qe2]
  rfl
 ·rename_i b off len
  refine QbR fun hb=>?_
  have hsz:QgR (embH env s.H) b (c.ty e).size=true:=by rw [QsA]; exact hb
  split
  ·simp only [Ok]
  ·rename_i t ht
   split
   ·simp only [Ok]
   ·rename_i l hl0
    split
    ·rename_i hw
     refine Qqy hi fun env' y s1 ha e1 hp hl hn=>hk.same e1 ?_
     obtain ⟨w1,w2⟩:=Qn0 (env:=env) hw
     obtain ⟨g1,g2,g3,g4⟩:=Qmi ha
     simp only [SV.emb]
     rw [QxY,w1,w2,g3,Option.bind_some,if_pos hsz,Qmg,hn,Nat.zero_add]
     rfl
    ·refine QcQ hi fun s1 hg e1=>hk.same e1 ?_
     have h1:=hg (leE k (.il 0) n) (by simp)
     have h2:=hg (ltE k n (mk1 .ofN len)) (by simp)
     rw [QkS,decide_eq_true_eq] at h1
     rw [QwL,Qik,decide_eq_true_eq] at h2
     simp only [SV.emb]
     rw [QxY,QtF h1 h2,Option.bind_some,if_pos hsz,Qjq,Qmg]
     rfl
 ·simp only [Ok]
theorem Qve {mm:Nat}{n:Ex}{i:Nat}(h:QxP mm n=some i):n=.il (.ofNat i)∧i<mm:=by
 unfold QxP at h
 split at h
 ·rename_i j hj
  split at h
  ·rename_i hb
   simp only [osi] at h
   subst h
   unfold QD6 at hj
   split at hj
   ·simp only [osi] at hj
    subst hj
    refine ⟨rfl,?_⟩
    simpa [Nat.blt_eq] using hb
   ·cases hj
  ·cases h
 ·cases h
theorem QwU {mm:Nat}{e:TypeId}{k:IntKind}{n:Ex}{x v:SV}(env:Env)(h:Qtr c mm e n x=some v):Qs3 c mm e (n.den env (.int k)) (x.emb env)=some (v.emb env):=by
 unfold Qtr at h
 unfold Qs3
 split at h
 ·rename_i i hi
  obtain ⟨rfl,h1⟩:=Qve hi
  have:atIdx ((Ex.il (.ofNat i)).den env (.int k)) mm=some i:=QtF (Int.natCast_nonneg i) (Int.ofNat_lt.mpr h1)
  rw [this]
  simp only
  cases x<;>simp only [osi,reduceCtorEq] at h<;>subst h
  ·rfl
  ·simp only [SV.emb,Qat,Qg1]
 ·cases h
theorem QtJ {i:TI}{x ix:SV}(hi:Inv m env s)(hk:Next m (okV (embH env s.H) (Qdi c i (embH env s.H) (x.emb env) (ix.emb env))) env s K Q):Ok m (QnS c i x ix s K) env Q:=by
 unfold QnS
 split
 ·rename_i k n
  simp only [SV.emb,Qdi] at hk
  split
  ·rename_i e he
   rw [he] at hk
   exact Qvd hi hk
  ·rename_i mm e he
   rw [he] at hk
   refine Qau fun v hv=>hk.pure hi (QwU env hv)
  ·simp only [Ok]
 ·simp only [Ok]
theorem Qvf (env:Env){t:Ty}:∀ {mm:Nat} {cs:List SV} {l:List Ex},chunks t mm cs=some l→l.length=mm∧∀ i x,l[i]?=some x→∃ r,(SV.embL env cs).drop (i * t.size)=row t (x.den env t)++r
 | 0,cs,l,h=>by
  simp only [chunks,osi] at h
  subst h
  exact ⟨rfl,fun i x h=>by simp at h⟩
 | mm+1,cs,l,h=>by
  simp only [chunks] at h
  split at h
  ·cases h
  ·rename_i x r hr
   split at h
   ·rename_i l' hl'
    simp only [osi] at h
    subst h
    obtain ⟨h1,h2⟩:=Qvf env hl'
    refine ⟨by simp [h1],fun i y hy=>?_⟩
    have hcs:=Qpq env hr
    cases i with
    | zero=>
     simp only [List.getElem?_cons_zero,osi] at hy
     subst hy
     exact ⟨_,by rw [Nat.zero_mul,List.drop_zero,hcs]⟩
    | succ i=>
     simp only [List.getElem?_cons_succ] at hy
     obtain ⟨r2,hr2⟩:=h2 i y hy
     refine ⟨r2,?_⟩
     rw [hcs,← hr2]
     have:(i+1) * t.size=(row t (x.den env t)).length+i * t.size:=by rw [QdG,Nat.succ_mul,Nat.add_comm]
     rw [this,List.drop_append]
     simp
   ·cases h
theorem QDu {t:Ty}{e:TypeId}(ht:tyOf c e=some t)(hk:(c.ty e).known=true)(ha:QxQ.eqB (c.ty e).isAgg (QmO t)=true)(x:t.D)(r:List AV):pack (c.ty e) (row t x++r)=some (valT t x):=by
 have hsz:=Qcl (Qm7 ht)
 unfold pack
 rw [hk]
 simp only
 cases hg:(c.ty e).isAgg with
 | true=>
  have:QmO t=true:=by
   rw [hg] at ha
   cases h:QmO t with
   | true=>rfl
   | false=>rw [h] at ha; cases ha
  simp only
  have hb:Nat.ble (c.ty e).size (row t x++r).length=true:=Nat.ble_eq_true_of_le (by rw [List.length_append,QdG]; omega)
  rw [hb,Qx3 this]
  simp only
  rw [← hsz,List.take_append_of_le_length (by rw [QdG]; omega),List.take_of_length_le (by rw [QdG]; omega)]
 | false=>
  have:QmO t=false:=by
   rw [hg] at ha
   cases h:QmO t with
   | false=>rfl
   | true=>rw [h] at ha; cases ha
  simp only
  rw [← Qu7 this]
  rfl
theorem QBz {i:TI}{x ix:SV}(hi:Inv m env s)(hk:Next m (okV (embH env s.H) (QpK c i (x.emb env) (ix.emb env))) env s K Q):Ok m (QxQ c i x ix s K) env Q:=by
 unfold QxQ
 split
 ·rename_i k n
  simp only [SV.emb,QpK] at hk
  split
  ·rename_i mm e cs he
   rw [he] at hk
   simp only [SV.emb] at hk
   split
   ·rename_i j hj
    obtain ⟨rfl,h1⟩:=Qve hj
    refine Qau fun v hv=>hk.pure hi ?_
    have:atIdx ((Ex.il (.ofNat j)).den env (.int k)) mm=some j:=QtF (Int.natCast_nonneg j) (Int.ofNat_lt.mpr h1)
    rw [Qss,this,Option.bind_some,Qg1,QiE,hv]
    rfl
   ·refine Qau fun t ht=>Qau fun l hl=>QbR fun hb=>?_
    obtain ⟨b1,b2⟩:=Qan hb
    refine Qqy hi fun env' y s1 ha e1 hp hl' hn=>hk.same e1 ?_
    obtain ⟨g1,g2,g3,g4⟩:=Qmi ha
    obtain ⟨c1,c2⟩:=Qvf env hl
    rw [QqD] at g3 g4
    rw [List.length_map,c1] at g3
    rw [List.getElem?_map] at g4
    cases hx:l[(n.den env (.int k)).toNat]? with
    | none=>rw [hx] at g4; simp at g4
    | some x0=>
     rw [hx,Option.map_some,osi] at g4
     obtain ⟨r,hr⟩:=c2 _ _ hx
     rw [Qss,g3,Option.bind_some,← Qcl (Qm7 ht),hr,QDu ht b1 b2,QtA,g4]
     rfl
  ·rename_i e he
   rw [he] at hk
   simp only [SV.emb] at hk
   refine Qqy hi fun env' y s1 ha e1 hp hl' hn=>hk.same e1 ?_
   obtain ⟨g1,g2,g3,g4⟩:=Qmi ha
   have hbytes:(Ex.o1 .bytes e).den env (.lst (.int .u8))=(e.den env .str).map fun b=>(b.toNat:Int):=rfl
   rw [hbytes] at g3 g4
   rw [List.length_map] at g3
   rw [List.getElem?_map] at g4
   cases hx:(e.den env .str)[(n.den env (.int k)).toNat]? with
   | none=>rw [hx] at g4; simp at g4
   | some x0=>
    rw [hx,Option.map_some,osi] at g4
    have:Qpg (e.den env .str) (n.den env (.int k))=some (.int .u8 x0.toNat):=by
     unfold Qpg
     rw [g3]
     simp only [hx]
    rw [this]
    show some (AV.int .u8 (x0.toNat:Int),embH env s.H)=_
    rw [g4]
    rfl
  ·simp only [Ok]
 ·simp only [Ok]
theorem QwV {i:Nat}{x v:SV}(env:Env)(h:Qtt i x=some v):QmG i (x.emb env)=some (v.emb env):=by
 cases x<;>simp only [Qtt,reduceCtorEq] at h
 simp only [SV.emb,QmG,Qa9,List.getElem?_map,h,Option.map_some]
end
end Go.Sy
