/- Symbolic runs: slices, new blocks, addresses. -/
import Derived.Test.YtkecfadnfnnfaaaGreatDoorSyJ
set_option linter.unusedVariables false
set_option linter.unusedSimpArgs false
namespace Go.Sy
open Go Go.Ev
section
variable {P:Nat→List Ty} {O:Nat→List (List Ty)} {m:(f:Nat)→Pr (P f)→Option (Sm (O f))} {α:Type}
variable {c:Ctx}
variable {env:Env} {s:SS} {K:SV→SS→T α} {Q:Env→α→Prop}
theorem Qy9 {γ δ:Type}(f:γ→δ)(l:List γ):hd (l.map f)=l.length:=by simp [Ev.hd]
theorem QeP {n:Option SV}{d most e:Ex}{g:List Ex}(env:Env)(h:QkU n d most=some (e,g))(hg:∀ c∈g,c.den env .bool=true):
  bound (n.map (SV.emb env)) (d.den env .nat) (most.den env .nat)=some (e.den env .nat):=by
 unfold QkU at h
 split at h
 ·simp only [osi,Prod.mk.injEq] at h
  obtain ⟨rfl,rfl⟩:=h
  rfl
 ·rename_i k n
  simp only [osi,Prod.mk.injEq] at h
  obtain ⟨rfl,rfl⟩:=h
  have h1:=hg (leE k (.il 0) n) (by simp)
  have h2:=hg (leE k n (mk1 .ofN most)) (by simp)
  rw [QlR,decide_eq_true_eq] at h1 h2
  rw [Qjk] at h2
  simp only [Option.map_some,SV.emb,QEl,bnd]
  rw [if_pos ⟨h1,h2⟩,Qni]
 ·cases h
theorem QtE (env:Env)(H:SH)(b n:Nat):QhS (embH env H) b n=Qup H b n:=by
 unfold QhS Qup QhR Qmx
 rw [QcU]
 cases H[b]? with
 | none=>rfl
 | some k=>cases k<;>rfl
theorem QxK (env:Env)(H:SH)(b:Nat):QhR (embH env H) b=Qmx H b:=by
 unfold QhR Qmx
 rw [QcU]
 cases H[b]? with
 | none=>rfl
 | some k=>cases k<;>rfl
theorem QCo {t:TypeId}{H:SH}{x v:SV}{lo hi:Option SV}{g:List Ex}(env:Env)(h:QBA c t H x lo hi=some (v,g))(hg:∀ c∈g,c.den env .bool=true):
  Qfn c t (embH env H) (x.emb env) (lo.map (SV.emb env)) (hi.map (SV.emb env))=some (v.emb env):=by
 unfold QBA at h
 split at h
 ·rename_i e
  split at h
  ·rename_i ht
   split at h
   ·rename_i hh g1 h1
    split at h
    ·rename_i l g2 h2
     simp only [osi,Prod.mk.injEq] at h
     obtain ⟨rfl,rfl⟩:=h
     have b1:=QeP env h1 (fun c hc=>hg c (List.mem_append_left _ hc))
     have b2:=QeP env h2 (fun c hc=>hg c (List.mem_append_right _ hc))
     rw [Qqp] at b1
     simp only [SV.emb]
     rw [Qz6 c t _ _ _ _ ht,show hd (e.den env .str)=(e.den env .str).length from rfl,b1,Option.bind_some,show (0:Nat)=(natE 0).den env .nat from rfl,b2]
     rfl
    ·cases h
   ·cases h
  ·cases h
 ·rename_i u e
  split at h
  ·rename_i el hh g1 he h1
   split at h
   ·rename_i l g2 h2
    split at h
    ·rename_i hs
     simp only [osi,Prod.mk.injEq] at h
     obtain ⟨rfl,rfl⟩:=h
     have b1:=QeP env h1 (fun c hc=>hg c (List.mem_append_left _ hc))
     have b2:=QeP env h2 (fun c hc=>hg c (List.mem_append_right _ hc))
     rw [QcF] at b1
     simp only [SV.emb]
     rw [Qz7,he,Option.bind_some,Qy9,b1,Option.bind_some,show (0:Nat)=(natE 0).den env .nat from rfl,b2,Option.bind_some,if_pos (Qqt u _ hs)]
     have:(Ex.o2 .tk (mk2 .nsub hh l) (mk2 .dr l e)).den env (.lst u)=((e.den env (.lst u)).drop (l.den env .nat)).take ((hh.den env .nat:Nat) - (l.den env .nat:Nat)):=by
      show ((mk2 .dr l e).den env (.lst u)).take ((mk2 .nsub hh l).den env .nat)=_
      rw [QCa,Qy0]
     rw [this,List.map_take,List.map_drop]
    ·cases h
   ·cases h
  ·cases h
 ·rename_i b off len
  split at h
  ·rename_i el hh g1 he h1
   split at h
   ·rename_i l g2 h2
    split at h
    ·rename_i hs
     simp only [osi,Prod.mk.injEq] at h
     obtain ⟨rfl,rfl⟩:=h
     have b1:=QeP env h1 (fun c hc=>hg c (List.mem_append_left _ hc))
     have b2:=QeP env h2 (fun c hc=>hg c (List.mem_append_right _ hc))
     simp only [SV.emb]
     rw [QB4,he,Option.bind_some,b1,Option.bind_some,show (0:Nat)=(natE 0).den env .nat from rfl,b2,Option.bind_some,QtE,if_pos hs,Qkt,Qy0]
    ·cases h
   ·cases h
  ·cases h
 ·split at h
  ·rename_i el a g1 b g2 he h1 h2
   simp only [osi,Prod.mk.injEq] at h
   obtain ⟨rfl,rfl⟩:=h
   have b1:=QeP env h1 (fun c hc=>hg c (List.mem_append_left _ hc))
   have b2:=QeP env h2 (fun c hc=>hg c (List.mem_append_right _ hc))
   have b1':bound (hi.map (SV.emb env)) 0 0=_:=b1
   have b2':bound (lo.map (SV.emb env)) 0 0=_:=b2
   simp only [SV.emb]
   rw [QxB,he,Option.bind_some,b1',Option.bind_some,b2']
   rfl
  ·cases h
 ·split at h
  ·rename_i el a g1 b g2 he h1 h2
   simp only [osi,Prod.mk.injEq] at h
   obtain ⟨rfl,rfl⟩:=h
   have b1:=QeP env h1 (fun c hc=>hg c (List.mem_append_left _ hc))
   have b2:=QeP env h2 (fun c hc=>hg c (List.mem_append_right _ hc))
   have b1':bound (hi.map (SV.emb env)) 0 0=_:=b1
   have b2':bound (lo.map (SV.emb env)) 0 0=_:=b2
   simp only [SV.emb,Qfn,he,b1',b2']
  ·cases h
 ·cases h
theorem QCp {t:TypeId}{x:SV}{lo hi mx:Option SV}(h0:Inv m env s)
  (hk:Next m (okV (embH env s.H) (QoH c t (embH env s.H) (x.emb env) (lo.map (SV.emb env)) (hi.map (SV.emb env)) (mx.map (SV.emb env)))) env s K Q):Ok m (QBD c t x lo hi mx s K) env Q:=by
 unfold QBD
 split
 ·refine Qax fun p hp=>?_
  obtain ⟨v,g⟩:=p
  refine Qdo h0 fun s1 hg e1=>hk.same e1 ?_
  show okV _ (Qfn c t (embH env s.H) (x.emb env) (lo.map (SV.emb env)) (hi.map (SV.emb env)))=_
  rw [QCo env hp hg]
  rfl
 ·simp only [Ok]
theorem Qo7 {e:TypeId}{t:Ty}{x:Ex}(hi:Inv m env s)(hk:Next m (Qcb c e (embH env s.H) (List.map (row t) (x.den env (.lst t)))) env s K Q):Ok m (QlF c e t x s K) env Q:=by
 unfold QlF
 refine Qcm fun hb=>QmA hi fun s1 hg e1=>hk env _ _ ?_ (e1.toExt.setH _)
 rw [Qku,Qqq,QcF,decide_eq_true_eq] at hg
 rw [Qxz,List.length_map,if_pos ⟨hg,Nat.le_of_ble_eq_true hb⟩,Qy9,e1.H,Qex,Qbp]
 simp only [SV.emb,QcF]
 rfl
theorem QCq {e:TypeId}{args:List SV}(hi:Inv m env s)(hk:Next m (Qlz c e (SV.embL env args) (embH env s.H)) env s K Q):Ok m (QBv c e args s K) env Q:=by
 unfold QBv
 split
 ·rename_i x
  refine Qax fun t ht=>Qax fun p hp=>?_
  obtain ⟨l,g⟩:=p
  refine Qdo hi fun s1 hg e1=>Qo7 e1.inv ?_
  obtain ⟨r1,r2⟩:=QuG hp hg
  intro env' v s' h e2
  refine hk env' v s' ?_ (e1.toExt.trans e2)
  show Qlz c e [x.emb env] (embH env s.H)=_
  rw [QFQ,r1,Option.bind_some,if_pos r2,if_pos (Qqt t _ (Qn9 ht)),← e1.H,h]
 ·simp only [Ok]
theorem QAg {t tx:TypeId}{a x:SV}(hi:Inv m env s)(hk:Next m (Qhv c t tx (embH env s.H) (a.emb env) (x.emb env)) env s K Q):Ok m (Qxl c t tx a x s K) env Q:=by
 unfold Qxl
 refine Qax fun e' he'=>Qax fun e he=>Qax fun u hu=>Qax fun p hp=>?_
 obtain ⟨new,g⟩:=p
 refine Qdo hi fun s1 hg e1=>?_
 obtain ⟨r1,r2⟩:=QuG hp hg
 have key:Qhv c t tx (embH env s.H) (a.emb env) (x.emb env)=QB3 c e (embH env s1.H) (List.map (row u) (new.den env (.lst u))) (a.emb env):=by
  rw [QEj,he',he,Option.bind_some,r1,Option.bind_some,if_pos r2,if_pos (Qqt u _ (Qn9 hu)),e1.H]
  rfl
 rw [key] at hk
 split
 ·refine Qo7 e1.inv fun env' v s' h e2=>hk env' v s' h (e1.toExt.trans e2)
 ·refine Qo7 e1.inv fun env' v s' h e2=>hk env' v s' h (e1.toExt.trans e2)
 ·rename_i b off len
  refine Qcm fun ho=>?_
  have ho':off=natE 0:=QaK ho
  subst ho'
  split
  ·rename_i z w l hb
   refine Qcm fun hc=>QmA e1.inv fun s2 hg2 e2=>?_
   obtain ⟨c1,c2⟩:=Qaq hc
   obtain ⟨c2,c3⟩:=Qaq c2
   have c1':=QaW c1
   subst c1'
   rw [Qku,Qqq,Qkt,QcF,decide_eq_true_eq] at hg2
   have base:∀ hl:(len.den env .nat:Nat)≤(l.den env (.lst w)).length,QB3 c e (embH env s1.H) (List.map (row w) (new.den env (.lst w))) ((SV.sl b (natE 0) len).emb env)=
     some (.sl s1.H.length 0 (((l.den env (.lst w)).take (len.den env .nat)++new.den env (.lst w)).length),(embH env s1.H).set b .dead++[.rows z true (List.map (row w) ((l.den env (.lst w)).take (len.den env .nat)++new.den env (.lst w)))]):=fun hl=>by
    unfold QB3
    simp only [SV.emb]
    rw [if_pos (show ((natE 0).den env .nat:Nat)=0 from rfl),QcU,hb]
    simp only [Option.map_some,Option.bind_some,SB.emb]
    have hg2':((len.den env .nat:Nat)+(new.den env (.lst w)).length) * (c.ty e).bytes≤35184372088832:=hg2
    have hl':(len.den env .nat:Nat)≤(List.map (row w) (l.den env (.lst w))).length:=by rw [List.length_map]; exact hl
    rw [List.length_map,if_pos ⟨c2,hg2',hl',Nat.le_of_ble_eq_true c3⟩]
    rw [← List.map_take,← List.map_append,Qy9,Qbp]
   split
   ·rename_i hw
    have hl:(len.den env .nat:Nat)=(l.den env (.lst w)).length:=by rw [QaK hw,QcF]
    have h0:=base (Nat.le_of_eq hl)
    refine hk env _ _ ?_ ((e1.trans e2).toExt.setH _)
    rw [h0,e2.H]
    rw [hl,List.take_length]
    simp only [SV.emb,QcF,Qru,Qex,QiG]
    rw [show embH env [SB.rows z w (mk2 .app l new)]=[Blk.rows z true (List.map (row w) ((mk2 .app l new).den env (.lst w)))] from rfl,Qru]
    rfl
   ·refine QmA e2.inv fun s3 hg3 e3=>?_
    rw [Qku,QcF,decide_eq_true_eq] at hg3
    have h0:=base hg3
    refine hk env _ _ ?_ (((e1.trans e2).trans e3).toExt.setH _)
    rw [h0,e3.H,e2.H]
    simp only [SV.emb,QcF,Qru,QCb,Qex,QiG]
    rw [show embH env [SB.rows z w (mk2 .app (mk2 .tk len l) new)]=[Blk.rows z true (List.map (row w) ((mk2 .app (mk2 .tk len l) new).den env (.lst w)))] from rfl,Qru,QCb]
    rfl
  ·simp only [Ok]
 ·simp only [Ok]
theorem QEv {t:TypeId}{d x:SV}(hi:Inv m env s)(hk:Next m (QpD c t (embH env s.H) (d.emb env) (x.emb env)) env s K Q):Ok m (QFI c t d x s K) env Q:=by
 unfold QFI
 split
 ·rename_i b off len
  refine Qax fun e he=>Qax fun u hu=>Qax fun p hp=>?_
  obtain ⟨src,g⟩:=p
  refine Qdo hi fun s1 hg e1=>?_
  obtain ⟨r1,r2⟩:=QuG hp hg
  split
  ·rename_i z w l hb
   refine Qcm fun hc=>QmA e1.inv fun s2 hg2 e2=>?_
   obtain ⟨c1,c23⟩:=Qaq hc
   obtain ⟨c2,c3⟩:=Qaq c23
   have c1':=QaW c1
   subst c1'
   have hlen:(off.den env .nat:Nat)+(len.den env .nat:Nat)≤(l.den env (.lst w)).length:=by
    split at hg2
    ·rename_i hw
     obtain ⟨w1,w2⟩:=Qo4 (env:=env) hw
     rw [w1,w2]
     simp
    ·rw [Qku,Qkt,QcF,decide_eq_true_eq] at hg2
     exact hg2
   refine hk env _ _ ?_ ((e1.trans e2).toExt.setH _)
   simp only [SV.emb]
   rw [QHd,he,Option.bind_some,r1,Option.bind_some,← e1.H,QcU,hb]
   simp only [Option.map_some,Option.bind_some,SB.emb]
   rw [e1.H,if_pos r2,List.length_map,if_pos ⟨Qqt w _ c3,c2,hlen⟩]
   rw [← List.map_take,Qy9,← List.map_take,← List.map_drop,← List.map_append,← List.map_append,e2.H,e1.H]
   have hnew:(Ex.o2 .tk len src).den env (.lst w)=(src.den env (.lst w)).take (len.den env .nat):=rfl
   simp only [Qjk,QcF,hnew,QiG,SB.emb,Qru,QCb,QCa,Qkt]
   rw [List.append_assoc]
  ·simp only [Ok]
 ·simp only [Ok]
theorem QF0 {i:TI}{H:SH}{x:SV}{e:Ex}(env:Env)(h:lenE c i H x=some e):QmT c i (embH env H) (x.emb env)=some (e.den env (.int .i64)):=by
 unfold lenE at h
 unfold QmT
 cases hd:i.d<;>simp only [hd,reduceCtorEq] at h ⊢
 ·cases x<;>simp only [reduceCtorEq,osi] at h
  subst h
  simp only [SV.emb,QqI,Qjk,Qqp]
 ·split at h
  ·rename_i he
   simp only [osi] at h
   subst h
   rw [he]
   rfl
  ·cases h
 ·cases x<;>simp only [reduceCtorEq,osi] at h
  ·subst h
   simp only [SV.emb,QqI,Qjk,QcF,List.length_map]
  ·subst h; rfl
  ·subst h; rfl
  ·subst h
   simp only [SV.emb,QqI,Qjk]
 ·simp only [osi] at h
  subst h
  rfl
 ·cases x<;>simp only [reduceCtorEq,osi] at h
  ·subst h; rfl
  ·split at h
   ·rename_i hb
    simp only [osi] at h
    subst h
    simp only [SV.emb,QqI,QcU,hb,Option.map_some,SB.emb,Qjk,QcF,List.length_map]
   ·cases h
theorem QCr (t:TypeId)(H:Heap)(n:Int):QoF c t H .nils (.int .i64 n)=(Ev.elemOf (c.ty t)).bind fun e=>
  if 1≤n then if n.toNat * (c.ty e).bytes≤140737488355328 then if 1≤(c.ty e).bytes then if 1≤(c.ty e).size then if (c.ty e).zero.all AV.QaA=true then
   some (.sl H.length 0 (hd (tg e (List.replicate n.toNat ((c.ty e).zero.map lstZ)))),H++[.rows (c.ty e).size true (tg e (List.replicate n.toNat ((c.ty e).zero.map lstZ)))]) else none else none else none else none else none:=by
 unfold QoF
 cases Ev.elemOf (c.ty t) with
 | none=>rfl
 | some e=>
  simp only [Option.bind_some,Qav,Qhh,Qgp]
  by_cases h1:1≤n<;>by_cases h2:n.toNat * (c.ty e).bytes≤140737488355328<;>by_cases h3:1≤(c.ty e).bytes<;>by_cases h4:1≤(c.ty e).size<;>cases h5:(c.ty e).zero.all AV.QaA<;>simp [h1,h2,h3,h4,hd,tg]
theorem QxL {t:TypeId}{a x:SV}(hi:Inv m env s)(hk:Next m (QoF c t (embH env s.H) (a.emb env) (x.emb env)) env s K Q):Ok m (Quq c t a x s K) env Q:=by
 unfold Quq
 split
 ·refine Qax fun e he=>Qax fun u hu=>Qax fun z hz=>?_
  split
  ·rename_i n
   refine Qcm fun hb=>Qdo hi fun s1 hg e1=>?_
   obtain ⟨b1,b2'⟩:=Qaq hb
   obtain ⟨b2,b3⟩:=Qaq b2'
   have g1:=hg (leE .i64 (.il 1) n) (by simp)
   have g3:=hg (nleE (mk2 .nmul (mk1 (.toN .i64) n) (natE (c.ty e).bytes)) (natE 140737488355328)) (by simp)
   rw [QlR,decide_eq_true_eq] at g1
   rw [Qku,Qqq,Qni,decide_eq_true_eq] at g3
   refine hk env _ _ ?_ (e1.toExt.setH _)
   have g1':(1:Int)≤n.den env (.int .i64):=g1
   have g3':(Int.toNat (n.den env (.int .i64))) * (c.ty e).bytes≤140737488355328:=g3
   simp only [SV.emb]
   rw [QCr,he,Option.bind_some,if_pos g1',if_pos g3',if_pos (Nat.le_of_ble_eq_true b1),if_pos (Nat.le_of_ble_eq_true b2),if_pos b3,QuJ env hz,Qbp,e1.H]
   have hx:(Ex.o2 .rep (mk1 (.toN .i64) n) z).den env (.lst u)=List.replicate (Int.toNat (n.den env (.int .i64))) (z.den env u):=by
    show List.replicate ((mk1 (.toN .i64) n).den env .nat) (z.den env u)=_
    rw [Qni]
   simp only [QcF,hx,Ev.hd,tg,List.length_replicate,Qex]
   simp only [embH,List.map_cons,List.map_nil,SB.emb,hx,List.map_replicate]
   rfl
  ·simp only [Ok]
 ·simp only [Ok]
theorem QxM {t tx:TypeId}{a x:SV}(hi:Inv m env s)(hk:Next m (Qm4 c t tx (embH env s.H) (a.emb env) (x.emb env)) env s K Q):Ok m (Qur c t tx a x s K) env Q:=by
 unfold Qur
 unfold Qm4 at hk
 cases h:QzA (c.ty tx) with
 | true=>rw [h] at hk; exact QxL hi hk
 | false=>rw [h] at hk; exact QAg hi hk
theorem QxN {b:Builtin}{argTypes:Array TypeId}{args:List SV}(hi:Inv m env s)(hk:Next m (QgW c b argTypes (embH env s.H) (SV.embL env args)) env s K Q):Ok m (Qus c b argTypes args s K) env Q:=by
 unfold Qus
 split
 ·rename_i x
  refine Qcm fun hb=>Qax fun e he=>hk.same (ExtH.refl hi) ?_
  show (match Nat.ble 1 argTypes.size with |true=>Qvt c (c.ty (argTypes.getD 0 0)) (embH env s.H) (x.emb env) |false=>none)=_
  rw [hb]
  show Qvt c (c.ty (argTypes.getD 0 0)) (embH env s.H) (x.emb env)=_
  rw [QFR,QF0 env he]
  rfl
 ·rename_i x
  refine Qcm fun hb=>Qax fun e he=>?_
  split
  ·refine hk.same (ExtH.refl hi) ?_
   show (match Nat.ble 1 argTypes.size with |true=>QzB (c.ty (argTypes.getD 0 0)) (embH env s.H) AV.nils |false=>none)=_
   rw [hb]
   simp only [QzB,he]
   rfl
  ·refine hk.same (ExtH.refl hi) ?_
   show (match Nat.ble 1 argTypes.size with |true=>QzB (c.ty (argTypes.getD 0 0)) (embH env s.H) AV.emp |false=>none)=_
   rw [hb]
   simp only [QzB,he]
   rfl
  ·simp only [Ok]
 ·rename_i a x
  refine Qcm fun hb=>QxM hi ?_
  have:QgW c .append argTypes (embH env s.H) (SV.embL env [a,x])=Qm4 c (argTypes.getD 0 0) (argTypes.getD 1 0) (embH env s.H) (a.emb env) (x.emb env):=by
   show (match Nat.beq argTypes.size 2 with |true=>Qm4 c (argTypes.getD 0 0) (argTypes.getD 1 0) (embH env s.H) (a.emb env) (x.emb env) |false=>none)=_
   rw [hb]
  rw [this] at hk
  exact hk
 ·rename_i d x
  refine Qcm fun hb=>QEv hi ?_
  have:QgW c .copy argTypes (embH env s.H) (SV.embL env [d,x])=QpD c (argTypes.getD 0 0) (embH env s.H) (d.emb env) (x.emb env):=by
   show (match Nat.beq argTypes.size 2 with |true=>QpD c (argTypes.getD 0 0) (embH env s.H) (d.emb env) (x.emb env) |false=>none)=_
   rw [hb]
  rw [this] at hk
  exact hk
 ·simp only [Ok]
theorem QEw {p a b:SV}(hi:Inv m env s)(hk:Next m (okV (embH env s.H) (QAW (p.emb env) (a.emb env) (b.emb env))) env s K Q):Ok m (QFJ p a b s K) env Q:=by
 unfold QFJ
 split
 ·rename_i e
  refine Qn2 hi fun x s1 hx e1=>?_
  simp only [SV.emb,hx] at hk
  cases x with
  | true=>exact hk.same e1 rfl
  | false=>exact hk.same e1 rfl
 ·simp only [Ok]
theorem QCs {t:TypeId}(hi:Inv m env s)(hk:Next m (QqK c (c.ty t) (embH env s.H)) env s K Q):Ok m (QBB c t s K) env Q:=by
 unfold QBB
 refine Qcm fun hb=>Qax fun z hz=>Qax fun p hp=>?_
 obtain ⟨cs,H⟩:=p
 refine hk env _ _ ?_ ((ExtH.refl hi).toExt.setH _)
 unfold QqK
 rw [hb]
 simp only
 rw [← Qqs env hz,QhA hp]
 simp only [Qs9,Qav,Qex,Qbp]
 rfl
theorem QF1 {t:TypeId}{v:SV}(hi:Inv m env s)(hk:Next m (QAX c (c.ty t).zs (v.emb env) (embH env s.H)) env s K Q):Ok m (boxT c t v s K) env Q:=by
 unfold boxT
 refine Qcm fun hb=>Qax fun p hp=>?_
 obtain ⟨cs,H⟩:=p
 refine hk env _ _ ?_ ((ExtH.refl hi).toExt.setH _)
 unfold QAX
 simp only [Qh3,Qh4,hb,QgH]
 rw [QhA hp]
 simp only [Qs9,Qav,Qex,Qbp]
 rfl
theorem Qv7 {x v:SV}(env:Env)(h:Qro x=some v):QoG (x.emb env)=some (v.emb env):=by
 cases x<;>simp only [Qro,osi,reduceCtorEq] at h<;>subst h<;>rfl
theorem Qnl (env:Env):∀ (n:Nat) (v:SV),Qfl n (v.emb env)=QoT n v
 | 0,v=>rfl
 | n+1,v=>by
  cases v with
  | iface t v=>exact Qnl env n v
  | agg cs=>
   show (SV.embL env cs).all (Qfl n)=cs.all (QoT n)
   rw [Qbo,List.all_map]
   congr 1
   funext v
   exact Qnl env n v
  | fn f caps=>cases caps<;>rfl
  | _=>rfl
theorem QCt {t:TypeId}{i:TI}{x v:SV}(env:Env)(h:QBC t i x=some v):Qt5 t i (x.emb env)=some (v.emb env):=by
 unfold QBC at h
 unfold Qt5
 cases hd:i.d<;>simp only [hd,reduceCtorEq] at h ⊢<;>
  (split at h<;>first
   | (rename_i hp
      simp only [osi] at h
      subst h
      rw [show QE8 (x.emb env)=QoT 8 x from Qnl env 8 x,hp]
      rfl)
   | (cases h))
theorem Qv8 {fn:Fn}{first:Array Operand}{caps:List SV}{v:SV}(env:Env)(h:Qrp fn first caps=some v):Qmp fn first (SV.embL env caps)=some (v.emb env):=by
 unfold Qrp at h
 unfold Qmp
 split at h
 ·split at h
  ·rename_i hb
   simp only [osi] at h
   subst h
   simp only [hb]
   rfl
  ·cases h
 ·cases h
theorem QxO {i:TI}{r:Option SV}(hi:Inv m env s)(hk:Next m (QjA i (embH env s.H) (r.map (SV.emb env))) env s K Q):Ok m (Qut c i r s K) env Q:=by
 unfold Qut
 split
 ·rename_i kt e hd
  refine Qax fun tk htk=>Qax fun tv htv=>?_
  split
  ·refine hk env _ _ ?_ ((ExtH.refl hi).toExt.setH _)
   simp only [Option.map_none,QjA,Qav,Qex,Qbp]
   rfl
  ·refine hk env _ _ ?_ ((ExtH.refl hi).toExt.setH _)
   simp only [Option.map_some,SV.emb,QjA,hd,Qav,Qex,Qbp]
   rfl
  ·simp only [Ok]
 ·simp only [Ok]
theorem QuK {i:TI}{l cp:SV}(hi:Inv m env s)(hk:Next m (QgD c i (l.emb env) (cp.emb env) (embH env s.H)) env s K Q):Ok m (QoU c i l cp s K) env Q:=by
 unfold QoU
 refine Qax fun e he=>Qax fun t ht=>Qax fun z hz=>?_
 split
 ·rename_i n k
  refine Qcm fun hb=>Qdo hi fun s1 hg e1=>?_
  obtain ⟨b1,b2⟩:=Qaq hb
  have g1:=hg (leE .i64 (.il 0) n) (by simp)
  have g2:=hg (match Ex.beq n k with |true=>.bl true |false=>eqE .i64 n k) (List.mem_cons_of_mem _ List.mem_cons_self)
  have g3:=hg (nleE (mk2 .nmul (mk1 (.toN .i64) n) (natE (c.ty e).bytes)) (natE 140737488355328)) (by simp)
  rw [QlR,decide_eq_true_eq] at g1
  rw [Qku,Qqq,Qni,decide_eq_true_eq] at g3
  have g2':n.den env (.int .i64)=k.den env (.int .i64):=by
   split at g2
   ·rename_i hx; rw [QaK hx]
   ·rw [Qo5,decide_eq_true_eq] at g2; exact g2
  refine hk env _ _ ?_ (e1.toExt.setH _)
  have g1':(0:Int)≤n.den env (.int .i64):=g1
  have g3':(Int.toNat (n.den env (.int .i64))) * (c.ty e).bytes≤140737488355328:=g3
  simp only [SV.emb]
  rw [QxA,he,Option.bind_some,if_pos g1',if_pos g2',if_pos g3',if_pos (Nat.le_of_ble_eq_true b1),if_pos b2,QuJ env hz,Qbp,e1.H]
  have hx:(Ex.o2 .rep (mk1 (.toN .i64) n) z).den env (.lst t)=List.replicate (Int.toNat (n.den env (.int .i64))) (z.den env t):=by
   show List.replicate ((mk1 (.toN .i64) n).den env .nat) (z.den env t)=_
   rw [Qni]
  simp only [QcF,hx,Ev.hd,tg,List.length_replicate,Qex]
  simp only [embH,List.map_cons,List.map_nil,SB.emb,hx,List.map_replicate]
  rfl
 ·simp only [Ok]
theorem QuL {i:TI}{x v:SV}{f:Nat}(env:Env)(h:QoV c i x f=some v):QhT c i (x.emb env) f=some (v.emb env):=by
 unfold QoV at h
 unfold QhT
 split at h
 ·cases h
 ·rename_i off u hf
  rw [hf]
  simp only
  split at h
  ·cases h
  ·rename_i hb
   rw [hb]
   simp only
   cases x<;>simp only [osi,reduceCtorEq] at h<;>subst h
   ·rfl
   ·simp only [SV.emb,Qav,Qh2]
theorem QCu {i:TI}{x v:SV}{f:Nat}(env:Env)(h:QBE c i x f=some v):QqM c i (x.emb env) f=some (v.emb env):=by
 unfold QBE at h
 unfold QqM
 split at h
 ·cases h
 ·rename_i off u hf
  rw [hf]
  simp only
  cases x<;>simp only [reduceCtorEq] at h
  simp only [SV.emb,Qh2,QjF,h]
  rfl
theorem Qv9 {e:TypeId}{k:IntKind}{n:Ex}{x:SV}(hi:Inv m env s)(hk:Next m (okV (embH env s.H) (Qkl c e (embH env s.H) (n.den env (.int k)) (x.emb env))) env s K Q):Ok m (Qrq c e k n x s K) env Q:=by
 unfold Qrq
 split
 ·rename_i t l
  refine Qcm fun hb=>QrB hi fun env' y s1 ha e1 hp hl hn=>hk.same e1 ?_
  obtain ⟨g1,g2,g3,g4⟩:=Qnk ha
  simp only [SV.emb,Qkl,List.length_map,g3,List.getElem?_map,g4,Option.map_some,Qev,hb]
  rw [QfZ]
  rfl
 ·rename_i b off len
  refine Qcm fun hb=>?_
  have hsz:QhS (embH env s.H) b (c.ty e).size=true:=by rw [QtE]; exact hb
  split
  ·simp only [Ok]
  ·rename_i t ht
   split
   ·simp only [Ok]
   ·rename_i l hl0
    split
    ·rename_i hw
     refine QrB hi fun env' y s1 ha e1 hp hl hn=>hk.same e1 ?_
     obtain ⟨w1,w2⟩:=Qo4 (env:=env) hw
     obtain ⟨g1,g2,g3,g4⟩:=Qnk ha
     simp only [SV.emb]
     rw [QyW,w1,w2,g3,Option.bind_some,if_pos hsz,Qni,hn,Nat.zero_add]
     rfl
    ·refine Qdo hi fun s1 hg e1=>hk.same e1 ?_
     have h1:=hg (leE k (.il 0) n) (by simp)
     have h2:=hg (ltE k n (mk1 .ofN len)) (by simp)
     rw [QlR,decide_eq_true_eq] at h1
     rw [QxG,Qjk,decide_eq_true_eq] at h2
     simp only [SV.emb]
     rw [QyW,QuI h1 h2,Option.bind_some,if_pos hsz,Qkt,Qni]
     rfl
 ·simp only [Ok]
theorem Qwa {mm:Nat}{n:Ex}{i:Nat}(h:QyN mm n=some i):n=.il (.ofNat i)∧i<mm:=by
 unfold QyN at h
 split at h
 ·rename_i j hj
  split at h
  ·rename_i hb
   simp only [osi] at h
   subst h
   unfold QFa at hj
   split at hj
   ·simp only [osi] at hj
    subst hj
    refine ⟨rfl,?_⟩
    simpa [Nat.blt_eq] using hb
   ·cases hj
  ·cases h
 ·cases h
theorem QxP {mm:Nat}{e:TypeId}{k:IntKind}{n:Ex}{x v:SV}(env:Env)(h:Quu c mm e n x=some v):Qt6 c mm e (n.den env (.int k)) (x.emb env)=some (v.emb env):=by
 unfold Quu at h
 unfold Qt6
 split at h
 ·rename_i i hi
  obtain ⟨rfl,h1⟩:=Qwa hi
  have:atIdx ((Ex.il (.ofNat i)).den env (.int k)) mm=some i:=QuI (Int.natCast_nonneg i) (Int.ofNat_lt.mpr h1)
  rw [this]
  simp only
  cases x<;>simp only [osi,reduceCtorEq] at h<;>subst h
  ·rfl
  ·simp only [SV.emb,Qav,Qh2]
 ·cases h
theorem QuM {i:TI}{x ix:SV}(hi:Inv m env s)(hk:Next m (okV (embH env s.H) (QdX c i (embH env s.H) (x.emb env) (ix.emb env))) env s K Q):Ok m (QoW c i x ix s K) env Q:=by
 unfold QoW
 split
 ·rename_i k n
  simp only [SV.emb,QdX] at hk
  split
  ·rename_i e he
   rw [he] at hk
   exact Qv9 hi hk
  ·rename_i mm e he
   rw [he] at hk
   refine Qax fun v hv=>hk.pure hi (QxP env hv)
  ·simp only [Ok]
 ·simp only [Ok]
theorem Qwb (env:Env){t:Ty}:∀ {mm:Nat} {cs:List SV} {l:List Ex},chunks t mm cs=some l→l.length=mm∧∀ i x,l[i]?=some x→∃ r,(SV.embL env cs).drop (i * t.size)=row t (x.den env t)++r
 | 0,cs,l,h=>by
  simp only [chunks,osi] at h
  subst h
  exact ⟨rfl,fun i x h=>by simp at h⟩
 | mm+1,cs,l,h=>by
  simp only [chunks] at h
  split at h
  ·cases h
  ·rename_i x r hr
   split at h
   ·rename_i l' hl'
    simp only [osi] at h
    subst h
    obtain ⟨h1,h2⟩:=Qwb env hl'
    refine ⟨by simp [h1],fun i y hy=>?_⟩
    have hcs:=Qqr env hr
    cases i with
    | zero=>
     simp only [List.getElem?_cons_zero,osi] at hy
     subst hy
     exact ⟨_,by rw [Nat.zero_mul,List.drop_zero,hcs]⟩
    | succ i=>
     simp only [List.getElem?_cons_succ] at hy
     obtain ⟨r2,hr2⟩:=h2 i y hy
     refine ⟨r2,?_⟩
     rw [hcs,← hr2]
     have:(i+1) * t.size=(row t (x.den env t)).length+i * t.size:=by rw [Qev,Nat.succ_mul,Nat.add_comm]
     rw [this,List.drop_append]
     simp
   ·cases h
theorem QEx {t:Ty}{e:TypeId}(ht:tyOf c e=some t)(hk:(c.ty e).known=true)(ha:QyO.eqB (c.ty e).isAgg (QnQ t)=true)(x:t.D)(r:List AV):pack (c.ty e) (row t x++r)=some (valT t x):=by
 have hsz:=QcV (Qn9 ht)
 unfold pack
 rw [hk]
 simp only
 cases hg:(c.ty e).isAgg with
 | true=>
  have:QnQ t=true:=by
   rw [hg] at ha
   cases h:QnQ t with
   | true=>rfl
   | false=>rw [h] at ha; cases ha
  simp only
  have hb:Nat.ble (c.ty e).size (row t x++r).length=true:=Nat.ble_eq_true_of_le (by rw [List.length_append,Qev]; omega)
  rw [hb,Qy1 this]
  simp only
  rw [← hsz,List.take_append_of_le_length (by rw [Qev]; omega),List.take_of_length_le (by rw [Qev]; omega)]
 | false=>
  have:QnQ t=false:=by
   rw [hg] at ha
   cases h:QnQ t with
   | false=>rfl
   | true=>rw [h] at ha; cases ha
  simp only
  rw [← Qv3 this]
  rfl
theorem QCv {i:TI}{x ix:SV}(hi:Inv m env s)(hk:Next m (okV (embH env s.H) (QqN c i (x.emb env) (ix.emb env))) env s K Q):Ok m (QyO c i x ix s K) env Q:=by
 unfold QyO
 split
 ·rename_i k n
  simp only [SV.emb,QqN] at hk
  split
  ·rename_i mm e cs he
   rw [he] at hk
   simp only [SV.emb] at hk
   split
   ·rename_i j hj
    obtain ⟨rfl,h1⟩:=Qwa hj
    refine Qax fun v hv=>hk.pure hi ?_
    have:atIdx ((Ex.il (.ofNat j)).den env (.int k)) mm=some j:=QuI (Int.natCast_nonneg j) (Int.ofNat_lt.mpr h1)
    rw [Qtw,this,Option.bind_some,Qh2,QjF,hv]
    rfl
   ·refine Qax fun t ht=>Qax fun l hl=>Qcm fun hb=>?_
    obtain ⟨b1,b2⟩:=Qaq hb
    refine QrB hi fun env' y s1 ha e1 hp hl' hn=>hk.same e1 ?_
    obtain ⟨g1,g2,g3,g4⟩:=Qnk ha
    obtain ⟨c1,c2⟩:=Qwb env hl
    rw [QrG] at g3 g4
    rw [List.length_map,c1] at g3
    rw [List.getElem?_map] at g4
    cases hx:l[(n.den env (.int k)).toNat]? with
    | none=>rw [hx] at g4; simp at g4
    | some x0=>
     rw [hx,Option.map_some,osi] at g4
     obtain ⟨r,hr⟩:=c2 _ _ hx
     rw [Qtw,g3,Option.bind_some,← QcV (Qn9 ht),hr,QEx ht b1 b2,QuD,g4]
     rfl
  ·rename_i e he
   rw [he] at hk
   simp only [SV.emb] at hk
   refine QrB hi fun env' y s1 ha e1 hp hl' hn=>hk.same e1 ?_
   obtain ⟨g1,g2,g3,g4⟩:=Qnk ha
   have hbytes:(Ex.o1 .bytes e).den env (.lst (.int .u8))=(e.den env .str).map fun b=>(b.toNat:Int):=rfl
   rw [hbytes] at g3 g4
   rw [List.length_map] at g3
   rw [List.getElem?_map] at g4
   cases hx:(e.den env .str)[(n.den env (.int k)).toNat]? with
   | none=>rw [hx] at g4; simp at g4
   | some x0=>
    rw [hx,Option.map_some,osi] at g4
    have:Qqi (e.den env .str) (n.den env (.int k))=some (.int .u8 x0.toNat):=by
     unfold Qqi
     rw [g3]
     simp only [hx]
    rw [this]
    show some (AV.int .u8 (x0.toNat:Int),embH env s.H)=_
    rw [g4]
    rfl
  ·simp only [Ok]
 ·simp only [Ok]
theorem QxQ {i:Nat}{x v:SV}(env:Env)(h:Quw i x=some v):QnI i (x.emb env)=some (v.emb env):=by
 cases x<;>simp only [Quw,reduceCtorEq] at h
 simp only [SV.emb,QnI,Qbo,List.getElem?_map,h,Option.map_some]
end
end Go.Sy
