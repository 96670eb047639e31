/- Symbolic runs: slices, new blocks, addresses. -/
import Derived.Test.YtkecfadnfnnfaaaGreatDoorSyJ
set_option linter.unusedVariables false
set_option linter.unusedSimpArgs false
namespace Go.Sy
open Go Go.Ev
section
variable {P:Nat→List Ty} {O:Nat→List (List Ty)} {m:(f:Nat)→Pr (P f)→Option (Sm (O f))} {α:Type}
variable {c:Ctx}
variable {env:Env} {s:SS} {K:SV→SS→T α} {Q:Env→α→Prop}
theorem QwH {γ δ:Type}(f:γ→δ)(l:List γ):hd (l.map f)=l.length:=by simp [Ev.hd]
theorem Qel {n:Option SV}{d most e:Ex}{g:List Ex}(env:Env)(h:Qjt n d most=some (e,g))(hg:∀ c∈g,c.den env .bool=true):
  bound (n.map (SV.emb env)) (d.den env .nat) (most.den env .nat)=some (e.den env .nat):=by
 unfold Qjt at h
 split at h
 ·simp only [osi,Prod.mk.injEq] at h
  obtain ⟨rfl,rfl⟩:=h
  rfl
 ·rename_i k n
  simp only [osi,Prod.mk.injEq] at h
  obtain ⟨rfl,rfl⟩:=h
  have h1:=hg (leE k (.il 0) n) (by simp)
  have h2:=hg (leE k n (mk1 .ofN most)) (by simp)
  rw [Qkf,decide_eq_true_eq] at h1 h2
  rw [Qh8] at h2
  simp only [Option.map_some,SV.emb,QBD,bnd]
  rw [if_pos ⟨h1,h2⟩,QlF]
 ·cases h
theorem Qrm (env:Env)(H:SH)(b n:Nat):QgX (embH env H) b n=Qr6 H b n:=by
 unfold QgX Qr6 QgW QkT
 rw [QcJ]
 cases H[b]? with
 | none=>rfl
 | some k=>cases k<;>rfl
theorem Qvp (env:Env)(H:SH)(b:Nat):QgW (embH env H) b=QkT H b:=by
 unfold QgW QkT
 rw [QcJ]
 cases H[b]? with
 | none=>rfl
 | some k=>cases k<;>rfl
theorem QzP {t:TypeId}{H:SH}{x v:SV}{lo hi:Option SV}{g:List Ex}(env:Env)(h:Qy1 c t H x lo hi=some (v,g))(hg:∀ c∈g,c.den env .bool=true):
  QeS c t (embH env H) (x.emb env) (lo.map (SV.emb env)) (hi.map (SV.emb env))=some (v.emb env):=by
 unfold Qy1 at h
 split at h
 ·rename_i e
  split at h
  ·rename_i ht
   split at h
   ·rename_i hh g1 h1
    split at h
    ·rename_i l g2 h2
     simp only [osi,Prod.mk.injEq] at h
     obtain ⟨rfl,rfl⟩:=h
     have b1:=Qel env h1 (fun c hc=>hg c (List.mem_append_left _ hc))
     have b2:=Qel env h2 (fun c hc=>hg c (List.mem_append_right _ hc))
     rw [Qol] at b1
     simp only [SV.emb]
     rw [QxA c t _ _ _ _ ht,show hd (e.den env .str)=(e.den env .str).length from rfl,b1,Option.bind_some,show (0:Nat)=(natE 0).den env .nat from rfl,b2]
     rfl
    ·cases h
   ·cases h
  ·cases h
 ·rename_i u e
  split at h
  ·rename_i el hh g1 he h1
   split at h
   ·rename_i l g2 h2
    split at h
    ·rename_i hs
     simp only [osi,Prod.mk.injEq] at h
     obtain ⟨rfl,rfl⟩:=h
     have b1:=Qel env h1 (fun c hc=>hg c (List.mem_append_left _ hc))
     have b2:=Qel env h2 (fun c hc=>hg c (List.mem_append_right _ hc))
     rw [Qcs] at b1
     simp only [SV.emb]
     rw [QxB,he,Option.bind_some,QwH,b1,Option.bind_some,show (0:Nat)=(natE 0).den env .nat from rfl,b2,Option.bind_some,if_pos (Qop u _ hs)]
     have:(Ex.o2 .tk (mk2 .nsub hh l) (mk2 .dr l e)).den env (.lst u)=((e.den env (.lst u)).drop (l.den env .nat)).take ((hh.den env .nat:Nat) - (l.den env .nat:Nat)):=by
      show ((mk2 .dr l e).den env (.lst u)).take ((mk2 .nsub hh l).den env .nat)=_
      rw [QzB,Qwy]
     rw [this,List.map_take,List.map_drop]
    ·cases h
   ·cases h
  ·cases h
 ·rename_i b off len
  split at h
  ·rename_i el hh g1 he h1
   split at h
   ·rename_i l g2 h2
    split at h
    ·rename_i hs
     simp only [osi,Prod.mk.injEq] at h
     obtain ⟨rfl,rfl⟩:=h
     have b1:=Qel env h1 (fun c hc=>hg c (List.mem_append_left _ hc))
     have b2:=Qel env h2 (fun c hc=>hg c (List.mem_append_right _ hc))
     simp only [SV.emb]
     rw [Qzv,he,Option.bind_some,b1,Option.bind_some,show (0:Nat)=(natE 0).den env .nat from rfl,b2,Option.bind_some,Qrm,if_pos hs,Qi6,Qwy]
    ·cases h
   ·cases h
  ·cases h
 ·split at h
  ·rename_i el a g1 b g2 he h1 h2
   simp only [osi,Prod.mk.injEq] at h
   obtain ⟨rfl,rfl⟩:=h
   have b1:=Qel env h1 (fun c hc=>hg c (List.mem_append_left _ hc))
   have b2:=Qel env h2 (fun c hc=>hg c (List.mem_append_right _ hc))
   have b1':bound (hi.map (SV.emb env)) 0 0=_:=b1
   have b2':bound (lo.map (SV.emb env)) 0 0=_:=b2
   simp only [SV.emb]
   rw [Qvg,he,Option.bind_some,b1',Option.bind_some,b2']
   rfl
  ·cases h
 ·split at h
  ·rename_i el a g1 b g2 he h1 h2
   simp only [osi,Prod.mk.injEq] at h
   obtain ⟨rfl,rfl⟩:=h
   have b1:=Qel env h1 (fun c hc=>hg c (List.mem_append_left _ hc))
   have b2:=Qel env h2 (fun c hc=>hg c (List.mem_append_right _ hc))
   have b1':bound (hi.map (SV.emb env)) 0 0=_:=b1
   have b2':bound (lo.map (SV.emb env)) 0 0=_:=b2
   simp only [SV.emb,QeS,he,b1',b2']
  ·cases h
 ·cases h
theorem QzQ {t:TypeId}{x:SV}{lo hi mx:Option SV}(h0:Inv m env s)
  (hk:Next m (okV (embH env s.H) (QmQ c t (embH env s.H) (x.emb env) (lo.map (SV.emb env)) (hi.map (SV.emb env)) (mx.map (SV.emb env)))) env s K Q):Ok m (Qy4 c t x lo hi mx s K) env Q:=by
 unfold Qy4
 split
 ·refine Qau fun p hp=>?_
  obtain ⟨v,g⟩:=p
  refine Qda h0 fun s1 hg e1=>hk.same e1 ?_
  show okV _ (QeS c t (embH env s.H) (x.emb env) (lo.map (SV.emb env)) (hi.map (SV.emb env)))=_
  rw [QzP env hp hg]
  rfl
 ·simp only [Ok]
theorem Qng {e:TypeId}{t:Ty}{x:Ex}(hi:Inv m env s)(hk:Next m (QbZ c e (embH env s.H) (List.map (row t) (x.den env (.lst t)))) env s K Q):Ok m (Qj3 c e t x s K) env Q:=by
 unfold Qj3
 refine Qcc fun hb=>QkW hi fun s1 hg e1=>hk env _ _ ?_ (e1.toExt.setH _)
 rw [Qi7,Qom,Qcs,decide_eq_true_eq] at hg
 rw [Qve,List.length_map,if_pos ⟨hg,Nat.le_of_ble_eq_true hb⟩,QwH,e1.H,Qd3,Qbn]
 simp only [SV.emb,Qcs]
 rfl
theorem QzR {e:TypeId}{args:List SV}(hi:Inv m env s)(hk:Next m (QjX c e (SV.embL env args) (embH env s.H)) env s K Q):Ok m (QyW c e args s K) env Q:=by
 unfold QyW
 split
 ·rename_i x
  refine Qau fun t ht=>Qau fun p hp=>?_
  obtain ⟨l,g⟩:=p
  refine Qda hi fun s1 hg e1=>Qng e1.inv ?_
  obtain ⟨r1,r2⟩:=Qsn hp hg
  intro env' v s' h e2
  refine hk env' v s' ?_ (e1.toExt.trans e2)
  show QjX c e [x.emb env] (embH env s.H)=_
  rw [QDa,r1,Option.bind_some,if_pos r2,if_pos (Qop t _ (Qmp ht)),← e1.H,h]
 ·simp only [Ok]
theorem QxK {t tx:TypeId}{a x:SV}(hi:Inv m env s)(hk:Next m (QgA c t tx (embH env s.H) (a.emb env) (x.emb env)) env s K Q):Ok m (Qu0 c t tx a x s K) env Q:=by
 unfold Qu0
 refine Qau fun e' he'=>Qau fun e he=>Qau fun u hu=>Qau fun p hp=>?_
 obtain ⟨new,g⟩:=p
 refine Qda hi fun s1 hg e1=>?_
 obtain ⟨r1,r2⟩:=Qsn hp hg
 have key:QgA c t tx (embH env s.H) (a.emb env) (x.emb env)=Qzu c e (embH env s1.H) (List.map (row u) (new.den env (.lst u))) (a.emb env):=by
  rw [QBB,he',he,Option.bind_some,r1,Option.bind_some,if_pos r2,if_pos (Qop u _ (Qmp hu)),e1.H]
  rfl
 rw [key] at hk
 split
 ·refine Qng e1.inv fun env' v s' h e2=>hk env' v s' h (e1.toExt.trans e2)
 ·refine Qng e1.inv fun env' v s' h e2=>hk env' v s' h (e1.toExt.trans e2)
 ·rename_i b off len
  refine Qcc fun ho=>?_
  have ho':off=natE 0:=QaG ho
  subst ho'
  split
  ·rename_i z w l hb
   refine Qcc fun hc=>QkW e1.inv fun s2 hg2 e2=>?_
   obtain ⟨c1,c2⟩:=Qam hc
   obtain ⟨c2,c3⟩:=Qam c2
   have c1':=QaP c1
   subst c1'
   rw [Qi7,Qom,Qi6,Qcs,decide_eq_true_eq] at hg2
   have base:∀ hl:(len.den env .nat:Nat)≤(l.den env (.lst w)).length,Qzu c e (embH env s1.H) (List.map (row w) (new.den env (.lst w))) ((SV.sl b (natE 0) len).emb env)=
     some (.sl s1.H.length 0 (((l.den env (.lst w)).take (len.den env .nat)++new.den env (.lst w)).length),(embH env s1.H).set b .dead++[.rows z true (List.map (row w) ((l.den env (.lst w)).take (len.den env .nat)++new.den env (.lst w)))]):=fun hl=>by
    unfold Qzu
    simp only [SV.emb]
    rw [if_pos (show ((natE 0).den env .nat:Nat)=0 from rfl),QcJ,hb]
    simp only [Option.map_some,Option.bind_some,SB.emb]
    have hg2':((len.den env .nat:Nat)+(new.den env (.lst w)).length) * (c.ty e).bytes≤35184372088832:=hg2
    have hl':(len.den env .nat:Nat)≤(List.map (row w) (l.den env (.lst w))).length:=by rw [List.length_map]; exact hl
    rw [List.length_map,if_pos ⟨c2,hg2',hl',Nat.le_of_ble_eq_true c3⟩]
    rw [← List.map_take,← List.map_append,QwH,Qbn]
   split
   ·rename_i hw
    have hl:(len.den env .nat:Nat)=(l.den env (.lst w)).length:=by rw [QaG hw,Qcs]
    have h0:=base (Nat.le_of_eq hl)
    refine hk env _ _ ?_ ((e1.trans e2).toExt.setH _)
    rw [h0,e2.H]
    rw [hl,List.take_length]
    simp only [SV.emb,Qcs,Qpr,Qd3,QhN]
    rw [show embH env [SB.rows z w (mk2 .app l new)]=[Blk.rows z true (List.map (row w) ((mk2 .app l new).den env (.lst w)))] from rfl,Qpr]
    rfl
   ·refine QkW e2.inv fun s3 hg3 e3=>?_
    rw [Qi7,Qcs,decide_eq_true_eq] at hg3
    have h0:=base hg3
    refine hk env _ _ ?_ (((e1.trans e2).trans e3).toExt.setH _)
    rw [h0,e3.H,e2.H]
    simp only [SV.emb,Qcs,Qpr,QzC,Qd3,QhN]
    rw [show embH env [SB.rows z w (mk2 .app (mk2 .tk len l) new)]=[Blk.rows z true (List.map (row w) ((mk2 .app (mk2 .tk len l) new).den env (.lst w)))] from rfl,Qpr,QzC]
    rfl
  ·simp only [Ok]
 ·simp only [Ok]
theorem QBN {t:TypeId}{d x:SV}(hi:Inv m env s)(hk:Next m (QnD c t (embH env s.H) (d.emb env) (x.emb env)) env s K Q):Ok m (QC2 c t d x s K) env Q:=by
 unfold QC2
 split
 ·rename_i b off len
  refine Qau fun e he=>Qau fun u hu=>Qau fun p hp=>?_
  obtain ⟨src,g⟩:=p
  refine Qda hi fun s1 hg e1=>?_
  obtain ⟨r1,r2⟩:=Qsn hp hg
  split
  ·rename_i z w l hb
   refine Qcc fun hc=>QkW e1.inv fun s2 hg2 e2=>?_
   obtain ⟨c1,c23⟩:=Qam hc
   obtain ⟨c2,c3⟩:=Qam c23
   have c1':=QaP c1
   subst c1'
   have hlen:(off.den env .nat:Nat)+(len.den env .nat:Nat)≤(l.den env (.lst w)).length:=by
    split at hg2
    ·rename_i hw
     obtain ⟨w1,w2⟩:=Qnd (env:=env) hw
     rw [w1,w2]
     simp
    ·rw [Qi7,Qi6,Qcs,decide_eq_true_eq] at hg2
     exact hg2
   refine hk env _ _ ?_ ((e1.trans e2).toExt.setH _)
   simp only [SV.emb]
   rw [QEo,he,Option.bind_some,r1,Option.bind_some,← e1.H,QcJ,hb]
   simp only [Option.map_some,Option.bind_some,SB.emb]
   rw [e1.H,if_pos r2,List.length_map,if_pos ⟨Qop w _ c3,c2,hlen⟩]
   rw [← List.map_take,QwH,← List.map_take,← List.map_drop,← List.map_append,← List.map_append,e2.H,e1.H]
   have hnew:(Ex.o2 .tk len src).den env (.lst w)=(src.den env (.lst w)).take (len.den env .nat):=rfl
   simp only [Qh8,Qcs,hnew,QhN,SB.emb,Qpr,QzC,QzB,Qi6]
   rw [List.append_assoc]
  ·simp only [Ok]
 ·simp only [Ok]
theorem QDk {i:TI}{H:SH}{x:SV}{e:Ex}(env:Env)(h:lenE c i H x=some e):Qlh c i (embH env H) (x.emb env)=some (e.den env (.int .i64)):=by
 unfold lenE at h
 unfold Qlh
 cases hd:i.d<;>simp only [hd,reduceCtorEq] at h ⊢
 ·cases x<;>simp only [reduceCtorEq,osi] at h
  subst h
  simp only [SV.emb,QoF,Qh8,Qol]
 ·split at h
  ·rename_i he
   simp only [osi] at h
   subst h
   rw [he]
   rfl
  ·cases h
 ·cases x<;>simp only [reduceCtorEq,osi] at h
  ·subst h
   simp only [SV.emb,QoF,Qh8,Qcs,List.length_map]
  ·subst h; rfl
  ·subst h; rfl
  ·subst h
   simp only [SV.emb,QoF,Qh8]
 ·simp only [osi] at h
  subst h
  rfl
 ·cases x<;>simp only [reduceCtorEq,osi] at h
  ·subst h; rfl
  ·split at h
   ·rename_i hb
    simp only [osi] at h
    subst h
    simp only [SV.emb,QoF,QcJ,hb,Option.map_some,SB.emb,Qh8,Qcs,List.length_map]
   ·cases h
theorem QzS (t:TypeId)(H:Heap)(n:Int):QmO c t H .nils (.int .i64 n)=(Ev.elemOf (c.ty t)).bind fun e=>
  if 1≤n then if n.toNat * (c.ty e).bytes≤140737488355328 then if 1≤(c.ty e).bytes then if 1≤(c.ty e).size then if (c.ty e).zero.all AV.Qax=true then
   some (.sl H.length 0 (hd (tg e (List.replicate n.toNat ((c.ty e).zero.map lstZ)))),H++[.rows (c.ty e).size true (tg e (List.replicate n.toNat ((c.ty e).zero.map lstZ)))]) else none else none else none else none else none:=by
 unfold QmO
 cases Ev.elemOf (c.ty t) with
 | none=>rfl
 | some e=>
  simp only [Option.bind_some,Qat,Qgr,QfM]
  by_cases h1:1≤n<;>by_cases h2:n.toNat * (c.ty e).bytes≤140737488355328<;>by_cases h3:1≤(c.ty e).bytes<;>by_cases h4:1≤(c.ty e).size<;>cases h5:(c.ty e).zero.all AV.Qax<;>simp [h1,h2,h3,h4,hd,tg]
theorem Qvq {t:TypeId}{a x:SV}(hi:Inv m env s)(hk:Next m (QmO c t (embH env s.H) (a.emb env) (x.emb env)) env s K Q):Ok m (Qr7 c t a x s K) env Q:=by
 unfold Qr7
 split
 ·refine Qau fun e he=>Qau fun u hu=>Qau fun z hz=>?_
  split
  ·rename_i n
   refine Qcc fun hb=>Qda hi fun s1 hg e1=>?_
   obtain ⟨b1,b2'⟩:=Qam hb
   obtain ⟨b2,b3⟩:=Qam b2'
   have g1:=hg (leE .i64 (.il 1) n) (by simp)
   have g3:=hg (nleE (mk2 .nmul (mk1 (.toN .i64) n) (natE (c.ty e).bytes)) (natE 140737488355328)) (by simp)
   rw [Qkf,decide_eq_true_eq] at g1
   rw [Qi7,Qom,QlF,decide_eq_true_eq] at g3
   refine hk env _ _ ?_ (e1.toExt.setH _)
   have g1':(1:Int)≤n.den env (.int .i64):=g1
   have g3':(Int.toNat (n.den env (.int .i64))) * (c.ty e).bytes≤140737488355328:=g3
   simp only [SV.emb]
   rw [QzS,he,Option.bind_some,if_pos g1',if_pos g3',if_pos (Nat.le_of_ble_eq_true b1),if_pos (Nat.le_of_ble_eq_true b2),if_pos b3,Qsq env hz,Qbn,e1.H]
   have hx:(Ex.o2 .rep (mk1 (.toN .i64) n) z).den env (.lst u)=List.replicate (Int.toNat (n.den env (.int .i64))) (z.den env u):=by
    show List.replicate ((mk1 (.toN .i64) n).den env .nat) (z.den env u)=_
    rw [QlF]
   simp only [Qcs,hx,Ev.hd,tg,List.length_replicate,Qd3]
   simp only [embH,List.map_cons,List.map_nil,SB.emb,hx,List.map_replicate]
   rfl
  ·simp only [Ok]
 ·simp only [Ok]
theorem Qvr {t tx:TypeId}{a x:SV}(hi:Inv m env s)(hk:Next m (Qlr c t tx (embH env s.H) (a.emb env) (x.emb env)) env s K Q):Ok m (Qr8 c t tx a x s K) env Q:=by
 unfold Qr8
 unfold Qlr at hk
 cases h:Qw4 (c.ty tx) with
 | true=>rw [h] at hk; exact Qvq hi hk
 | false=>rw [h] at hk; exact QxK hi hk
theorem Qvs {b:Builtin}{argTypes:Array TypeId}{args:List SV}(hi:Inv m env s)(hk:Next m (Qga c b argTypes (embH env s.H) (SV.embL env args)) env s K Q):Ok m (Qr9 c b argTypes args s K) env Q:=by
 unfold Qr9
 split
 ·rename_i x
  refine Qcc fun hb=>Qau fun e he=>hk.same (ExtH.refl hi) ?_
  show (match Nat.ble 1 argTypes.size with |true=>Qs6 c (c.ty (argTypes.getD 0 0)) (embH env s.H) (x.emb env) |false=>none)=_
  rw [hb]
  show Qs6 c (c.ty (argTypes.getD 0 0)) (embH env s.H) (x.emb env)=_
  rw [QDb,QDk env he]
  rfl
 ·rename_i x
  refine Qcc fun hb=>Qau fun e he=>?_
  split
  ·refine hk.same (ExtH.refl hi) ?_
   show (match Nat.ble 1 argTypes.size with |true=>Qw5 (c.ty (argTypes.getD 0 0)) (embH env s.H) AV.nils |false=>none)=_
   rw [hb]
   simp only [Qw5,he]
   rfl
  ·refine hk.same (ExtH.refl hi) ?_
   show (match Nat.ble 1 argTypes.size with |true=>Qw5 (c.ty (argTypes.getD 0 0)) (embH env s.H) AV.emp |false=>none)=_
   rw [hb]
   simp only [Qw5,he]
   rfl
  ·simp only [Ok]
 ·rename_i a x
  refine Qcc fun hb=>Qvr hi ?_
  have:Qga c .append argTypes (embH env s.H) (SV.embL env [a,x])=Qlr c (argTypes.getD 0 0) (argTypes.getD 1 0) (embH env s.H) (a.emb env) (x.emb env):=by
   show (match Nat.beq argTypes.size 2 with |true=>Qlr c (argTypes.getD 0 0) (argTypes.getD 1 0) (embH env s.H) (a.emb env) (x.emb env) |false=>none)=_
   rw [hb]
  rw [this] at hk
  exact hk
 ·rename_i d x
  refine Qcc fun hb=>QBN hi ?_
  have:Qga c .copy argTypes (embH env s.H) (SV.embL env [d,x])=QnD c (argTypes.getD 0 0) (embH env s.H) (d.emb env) (x.emb env):=by
   show (match Nat.beq argTypes.size 2 with |true=>QnD c (argTypes.getD 0 0) (embH env s.H) (d.emb env) (x.emb env) |false=>none)=_
   rw [hb]
  rw [this] at hk
  exact hk
 ·simp only [Ok]
theorem QBO {p a b:SV}(hi:Inv m env s)(hk:Next m (okV (embH env s.H) (Qyn (p.emb env) (a.emb env) (b.emb env))) env s K Q):Ok m (QC3 p a b s K) env Q:=by
 unfold QC3
 split
 ·rename_i e
  refine Qmi hi fun x s1 hx e1=>?_
  simp only [SV.emb,hx] at hk
  cases x with
  | true=>exact hk.same e1 rfl
  | false=>exact hk.same e1 rfl
 ·simp only [Ok]
theorem QzT {t:TypeId}(hi:Inv m env s)(hk:Next m (QoH c (c.ty t) (embH env s.H)) env s K Q):Ok m (Qy2 c t s K) env Q:=by
 unfold Qy2
 refine Qcc fun hb=>Qau fun z hz=>Qau fun p hp=>?_
 obtain ⟨cs,H⟩:=p
 refine hk env _ _ ?_ ((ExtH.refl hi).toExt.setH _)
 unfold QoH
 rw [hb]
 simp only
 rw [← Qoo env hz,QgG hp]
 simp only [QqR,Qat,Qd3,Qbn]
 rfl
theorem QDl {t:TypeId}{v:SV}(hi:Inv m env s)(hk:Next m (Qyo c (c.ty t).zs (v.emb env) (embH env s.H)) env s K Q):Ok m (boxT c t v s K) env Q:=by
 unfold boxT
 refine Qcc fun hb=>Qau fun p hp=>?_
 obtain ⟨cs,H⟩:=p
 refine hk env _ _ ?_ ((ExtH.refl hi).toExt.setH _)
 unfold Qyo
 simp only [Qg8,Qg9,hb,Qf0]
 rw [QgG hp]
 simp only [QqR,Qat,Qd3,Qbn]
 rfl
theorem QtK {x v:SV}(env:Env)(h:Qpl x=some v):QmP (x.emb env)=some (v.emb env):=by
 cases x<;>simp only [Qpl,osi,reduceCtorEq] at h<;>subst h<;>rfl
theorem QlI (env:Env):∀ (n:Nat) (v:SV),QeQ n (v.emb env)=Qm2 n v
 | 0,v=>rfl
 | n+1,v=>by
  cases v with
  | iface t v=>exact QlI env n v
  | agg cs=>
   show (SV.embL env cs).all (QeQ n)=cs.all (Qm2 n)
   rw [Qbm,List.all_map]
   congr 1
   funext v
   exact QlI env n v
  | fn f caps=>cases caps<;>rfl
  | _=>rfl
theorem QzU {t:TypeId}{i:TI}{x v:SV}(env:Env)(h:Qy3 t i x=some v):QrM t i (x.emb env)=some (v.emb env):=by
 unfold Qy3 at h
 unfold QrM
 cases hd:i.d<;>simp only [hd,reduceCtorEq] at h ⊢<;>
  (split at h<;>first
   | (rename_i hp
      simp only [osi] at h
      subst h
      rw [show QCu (x.emb env)=Qm2 8 x from QlI env 8 x,hp]
      rfl)
   | (cases h))
theorem QtL {fn:Fn}{first:Array Operand}{caps:List SV}{v:SV}(env:Env)(h:Qpm fn first caps=some v):QkL fn first (SV.embL env caps)=some (v.emb env):=by
 unfold Qpm at h
 unfold QkL
 split at h
 ·split at h
  ·rename_i hb
   simp only [osi] at h
   subst h
   simp only [hb]
   rfl
  ·cases h
 ·cases h
theorem Qvt {i:TI}{r:Option SV}(hi:Inv m env s)(hk:Next m (Qik i (embH env s.H) (r.map (SV.emb env))) env s K Q):Ok m (Qsa c i r s K) env Q:=by
 unfold Qsa
 split
 ·rename_i kt e hd
  refine Qau fun tk htk=>Qau fun tv htv=>?_
  split
  ·refine hk env _ _ ?_ ((ExtH.refl hi).toExt.setH _)
   simp only [Option.map_none,Qik,Qat,Qd3,Qbn]
   rfl
  ·refine hk env _ _ ?_ ((ExtH.refl hi).toExt.setH _)
   simp only [Option.map_some,SV.emb,Qik,hd,Qat,Qd3,Qbn]
   rfl
  ·simp only [Ok]
 ·simp only [Ok]
theorem Qsr {i:TI}{l cp:SV}(hi:Inv m env s)(hk:Next m (QfW c i (l.emb env) (cp.emb env) (embH env s.H)) env s K Q):Ok m (Qm3 c i l cp s K) env Q:=by
 unfold Qm3
 refine Qau fun e he=>Qau fun t ht=>Qau fun z hz=>?_
 split
 ·rename_i n k
  refine Qcc fun hb=>Qda hi fun s1 hg e1=>?_
  obtain ⟨b1,b2⟩:=Qam hb
  have g1:=hg (leE .i64 (.il 0) n) (by simp)
  have g2:=hg (match Ex.beq n k with |true=>.bl true |false=>eqE .i64 n k) (List.mem_cons_of_mem _ List.mem_cons_self)
  have g3:=hg (nleE (mk2 .nmul (mk1 (.toN .i64) n) (natE (c.ty e).bytes)) (natE 140737488355328)) (by simp)
  rw [Qkf,decide_eq_true_eq] at g1
  rw [Qi7,Qom,QlF,decide_eq_true_eq] at g3
  have g2':n.den env (.int .i64)=k.den env (.int .i64):=by
   split at g2
   ·rename_i hx; rw [QaG hx]
   ·rw [Qne,decide_eq_true_eq] at g2; exact g2
  refine hk env _ _ ?_ (e1.toExt.setH _)
  have g1':(0:Int)≤n.den env (.int .i64):=g1
  have g3':(Int.toNat (n.den env (.int .i64))) * (c.ty e).bytes≤140737488355328:=g3
  simp only [SV.emb]
  rw [Qvf,he,Option.bind_some,if_pos g1',if_pos g2',if_pos g3',if_pos (Nat.le_of_ble_eq_true b1),if_pos b2,Qsq env hz,Qbn,e1.H]
  have hx:(Ex.o2 .rep (mk1 (.toN .i64) n) z).den env (.lst t)=List.replicate (Int.toNat (n.den env (.int .i64))) (z.den env t):=by
   show List.replicate ((mk1 (.toN .i64) n).den env .nat) (z.den env t)=_
   rw [QlF]
  simp only [Qcs,hx,Ev.hd,tg,List.length_replicate,Qd3]
  simp only [embH,List.map_cons,List.map_nil,SB.emb,hx,List.map_replicate]
  rfl
 ·simp only [Ok]
theorem Qss {i:TI}{x v:SV}{f:Nat}(env:Env)(h:Qm4 c i x f=some v):QgY c i (x.emb env) f=some (v.emb env):=by
 unfold Qm4 at h
 unfold QgY
 split at h
 ·cases h
 ·rename_i off u hf
  rw [hf]
  simp only
  split at h
  ·cases h
  ·rename_i hb
   rw [hb]
   simp only
   cases x<;>simp only [osi,reduceCtorEq] at h<;>subst h
   ·rfl
   ·simp only [SV.emb,Qat,Qg7]
theorem QzV {i:TI}{x v:SV}{f:Nat}(env:Env)(h:Qy5 c i x f=some v):QoJ c i (x.emb env) f=some (v.emb env):=by
 unfold Qy5 at h
 unfold QoJ
 split at h
 ·cases h
 ·rename_i off u hf
  rw [hf]
  simp only
  cases x<;>simp only [reduceCtorEq] at h
  simp only [SV.emb,Qg7,Qip,h]
  rfl
theorem QtM {e:TypeId}{k:IntKind}{n:Ex}{x:SV}(hi:Inv m env s)(hk:Next m (okV (embH env s.H) (QiY c e (embH env s.H) (n.den env (.int k)) (x.emb env))) env s K Q):Ok m (Qpn c e k n x s K) env Q:=by
 unfold Qpn
 split
 ·rename_i t l
  refine Qcc fun hb=>Qpy hi fun env' y s1 ha e1 hp hl hn=>hk.same e1 ?_
  obtain ⟨g1,g2,g3,g4⟩:=QlH ha
  simp only [SV.emb,QiY,List.length_map,g3,List.getElem?_map,g4,Option.map_some,Qd1,hb]
  rw [Qfs]
  rfl
 ·rename_i b off len
  refine Qcc fun hb=>?_
  have hsz:QgX (embH env s.H) b (c.ty e).size=true:=by rw [Qrm]; exact hb
  split
  ·simp only [Ok]
  ·rename_i t ht
   split
   ·simp only [Ok]
   ·rename_i l hl0
    split
    ·rename_i hw
     refine Qpy hi fun env' y s1 ha e1 hp hl hn=>hk.same e1 ?_
     obtain ⟨w1,w2⟩:=Qnd (env:=env) hw
     obtain ⟨g1,g2,g3,g4⟩:=QlH ha
     simp only [SV.emb]
     rw [Qwu,w1,w2,g3,Option.bind_some,if_pos hsz,QlF,hn,Nat.zero_add]
     rfl
    ·refine Qda hi fun s1 hg e1=>hk.same e1 ?_
     have h1:=hg (leE k (.il 0) n) (by simp)
     have h2:=hg (ltE k n (mk1 .ofN len)) (by simp)
     rw [Qkf,decide_eq_true_eq] at h1
     rw [Qvl,Qh8,decide_eq_true_eq] at h2
     simp only [SV.emb]
     rw [Qwu,Qsp h1 h2,Option.bind_some,if_pos hsz,Qi6,QlF]
     rfl
 ·simp only [Ok]
theorem QtN {mm:Nat}{n:Ex}{i:Nat}(h:Qwl mm n=some i):n=.il (.ofNat i)∧i<mm:=by
 unfold Qwl at h
 split at h
 ·rename_i j hj
  split at h
  ·rename_i hb
   simp only [osi] at h
   subst h
   unfold QCw at hj
   split at hj
   ·simp only [osi] at hj
    subst hj
    refine ⟨rfl,?_⟩
    simpa [Nat.blt_eq] using hb
   ·cases hj
  ·cases h
 ·cases h
theorem Qvu {mm:Nat}{e:TypeId}{k:IntKind}{n:Ex}{x v:SV}(env:Env)(h:Qsb c mm e n x=some v):QrN c mm e (n.den env (.int k)) (x.emb env)=some (v.emb env):=by
 unfold Qsb at h
 unfold QrN
 split at h
 ·rename_i i hi
  obtain ⟨rfl,h1⟩:=QtN hi
  have:atIdx ((Ex.il (.ofNat i)).den env (.int k)) mm=some i:=Qsp (Int.natCast_nonneg i) (Int.ofNat_lt.mpr h1)
  rw [this]
  simp only
  cases x<;>simp only [osi,reduceCtorEq] at h<;>subst h
  ·rfl
  ·simp only [SV.emb,Qat,Qg7]
 ·cases h
theorem Qst {i:TI}{x ix:SV}(hi:Inv m env s)(hk:Next m (okV (embH env s.H) (QdE c i (embH env s.H) (x.emb env) (ix.emb env))) env s K Q):Ok m (Qm5 c i x ix s K) env Q:=by
 unfold Qm5
 split
 ·rename_i k n
  simp only [SV.emb,QdE] at hk
  split
  ·rename_i e he
   rw [he] at hk
   exact QtM hi hk
  ·rename_i mm e he
   rw [he] at hk
   refine Qau fun v hv=>hk.pure hi (Qvu env hv)
  ·simp only [Ok]
 ·simp only [Ok]
theorem QtO (env:Env){t:Ty}:∀ {mm:Nat} {cs:List SV} {l:List Ex},chunks t mm cs=some l→l.length=mm∧∀ i x,l[i]?=some x→∃ r,(SV.embL env cs).drop (i * t.size)=row t (x.den env t)++r
 | 0,cs,l,h=>by
  simp only [chunks,osi] at h
  subst h
  exact ⟨rfl,fun i x h=>by simp at h⟩
 | mm+1,cs,l,h=>by
  simp only [chunks] at h
  split at h
  ·cases h
  ·rename_i x r hr
   split at h
   ·rename_i l' hl'
    simp only [osi] at h
    subst h
    obtain ⟨h1,h2⟩:=QtO env hl'
    refine ⟨by simp [h1],fun i y hy=>?_⟩
    have hcs:=Qon env hr
    cases i with
    | zero=>
     simp only [List.getElem?_cons_zero,osi] at hy
     subst hy
     exact ⟨_,by rw [Nat.zero_mul,List.drop_zero,hcs]⟩
    | succ i=>
     simp only [List.getElem?_cons_succ] at hy
     obtain ⟨r2,hr2⟩:=h2 i y hy
     refine ⟨r2,?_⟩
     rw [hcs,← hr2]
     have:(i+1) * t.size=(row t (x.den env t)).length+i * t.size:=by rw [Qd1,Nat.succ_mul,Nat.add_comm]
     rw [this,List.drop_append]
     simp
   ·cases h
theorem QBP {t:Ty}{e:TypeId}(ht:tyOf c e=some t)(hk:(c.ty e).known=true)(ha:Qwm.eqB (c.ty e).isAgg (Ql7 t)=true)(x:t.D)(r:List AV):pack (c.ty e) (row t x++r)=some (valT t x):=by
 have hsz:=QcK (Qmp ht)
 unfold pack
 rw [hk]
 simp only
 cases hg:(c.ty e).isAgg with
 | true=>
  have:Ql7 t=true:=by
   rw [hg] at ha
   cases h:Ql7 t with
   | true=>rfl
   | false=>rw [h] at ha; cases ha
  simp only
  have hb:Nat.ble (c.ty e).size (row t x++r).length=true:=Nat.ble_eq_true_of_le (by rw [List.length_append,Qd1]; omega)
  rw [hb,Qwz this]
  simp only
  rw [← hsz,List.take_append_of_le_length (by rw [Qd1]; omega),List.take_of_length_le (by rw [Qd1]; omega)]
 | false=>
  have:Ql7 t=false:=by
   rw [hg] at ha
   cases h:Ql7 t with
   | false=>rfl
   | true=>rw [h] at ha; cases ha
  simp only
  rw [← QtG this]
  rfl
theorem QzW {i:TI}{x ix:SV}(hi:Inv m env s)(hk:Next m (okV (embH env s.H) (QoK c i (x.emb env) (ix.emb env))) env s K Q):Ok m (Qwm c i x ix s K) env Q:=by
 unfold Qwm
 split
 ·rename_i k n
  simp only [SV.emb,QoK] at hk
  split
  ·rename_i mm e cs he
   rw [he] at hk
   simp only [SV.emb] at hk
   split
   ·rename_i j hj
    obtain ⟨rfl,h1⟩:=QtN hj
    refine Qau fun v hv=>hk.pure hi ?_
    have:atIdx ((Ex.il (.ofNat j)).den env (.int k)) mm=some j:=Qsp (Int.natCast_nonneg j) (Int.ofNat_lt.mpr h1)
    rw [Qre,this,Option.bind_some,Qg7,Qip,hv]
    rfl
   ·refine Qau fun t ht=>Qau fun l hl=>Qcc fun hb=>?_
    obtain ⟨b1,b2⟩:=Qam hb
    refine Qpy hi fun env' y s1 ha e1 hp hl' hn=>hk.same e1 ?_
    obtain ⟨g1,g2,g3,g4⟩:=QlH ha
    obtain ⟨c1,c2⟩:=QtO env hl
    rw [QpD] at g3 g4
    rw [List.length_map,c1] at g3
    rw [List.getElem?_map] at g4
    cases hx:l[(n.den env (.int k)).toNat]? with
    | none=>rw [hx] at g4; simp at g4
    | some x0=>
     rw [hx,Option.map_some,osi] at g4
     obtain ⟨r,hr⟩:=c2 _ _ hx
     rw [Qre,g3,Option.bind_some,← QcK (Qmp ht),hr,QBP ht b1 b2,Qsk,g4]
     rfl
  ·rename_i e he
   rw [he] at hk
   simp only [SV.emb] at hk
   refine Qpy hi fun env' y s1 ha e1 hp hl' hn=>hk.same e1 ?_
   obtain ⟨g1,g2,g3,g4⟩:=QlH ha
   have hbytes:(Ex.o1 .bytes e).den env (.lst (.int .u8))=(e.den env .str).map fun b=>(b.toNat:Int):=rfl
   rw [hbytes] at g3 g4
   rw [List.length_map] at g3
   rw [List.getElem?_map] at g4
   cases hx:(e.den env .str)[(n.den env (.int k)).toNat]? with
   | none=>rw [hx] at g4; simp at g4
   | some x0=>
    rw [hx,Option.map_some,osi] at g4
    have:Qoe (e.den env .str) (n.den env (.int k))=some (.int .u8 x0.toNat):=by
     unfold Qoe
     rw [g3]
     simp only [hx]
    rw [this]
    show some (AV.int .u8 (x0.toNat:Int),embH env s.H)=_
    rw [g4]
    rfl
  ·simp only [Ok]
 ·simp only [Ok]
theorem Qvv {i:Nat}{x v:SV}(env:Env)(h:Qsd i x=some v):QlZ i (x.emb env)=some (v.emb env):=by
 cases x<;>simp only [Qsd,reduceCtorEq] at h
 simp only [SV.emb,QlZ,Qbm,List.getElem?_map,h,Option.map_some]
end
end Go.Sy
