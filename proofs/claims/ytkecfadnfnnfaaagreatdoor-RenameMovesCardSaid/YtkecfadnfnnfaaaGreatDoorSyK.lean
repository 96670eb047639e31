/- Symbolic runs: slices, new blocks, addresses. -/
import Derived.Test.YtkecfadnfnnfaaaGreatDoorSyJ
set_option linter.unusedVariables false
set_option linter.unusedSimpArgs false
namespace Go.Sy
open Go Go.Ev
section
variable {P:Nat→List Ty} {O:Nat→List (List Ty)} {m:(f:Nat)→Pr (P f)→Option (Sm (O f))} {α:Type}
variable {c:Ctx}
variable {env:Env} {s:SS} {K:SV→SS→T α} {Q:Env→α→Prop}
theorem QwK {γ δ:Type}(f:γ→δ)(l:List γ):hd (l.map f)=l.length:=by simp [Ev.hd]
theorem Qc7 {n:Option SV}{d most e:Ex}{g:List Ex}(env:Env)(h:QiK n d most=some (e,g))(hg:∀ c∈g,c.den env .bool=true):
  bound (n.map (SV.emb env)) (d.den env .nat) (most.den env .nat)=some (e.den env .nat):=by
 unfold QiK at h
 split at h
 ·simp only [Option.some.injEq,Prod.mk.injEq] at h
  obtain ⟨rfl,rfl⟩:=h
  rfl
 ·rename_i k n
  simp only [Option.some.injEq,Prod.mk.injEq] at h
  obtain ⟨rfl,rfl⟩:=h
  have h1:=hg (leE k (.il 0) n) (by simp)
  have h2:=hg (leE k n (mk1 .ofN most)) (by simp)
  rw [Qlb,decide_eq_true_eq] at h1 h2
  rw [Qhg] at h2
  simp only [Option.map_some,SV.emb,QCx,bnd]
  rw [if_pos ⟨h1,h2⟩,Qpg]
 ·cases h
theorem Qra (env:Env)(H:SH)(b n:Nat):QfW (embH env H) b n=Qr1 H b n:=by
 unfold QfW Qr1 QfV Qkg
 rw [QbP]
 cases H[b]? with
 | none=>rfl
 | some k=>cases k<;>rfl
theorem Qvn (env:Env)(H:SH)(b:Nat):QfV (embH env H) b=Qkg H b:=by
 unfold QfV Qkg
 rw [QbP]
 cases H[b]? with
 | none=>rfl
 | some k=>cases k<;>rfl
theorem QAl {t:TypeId}{H:SH}{x v:SV}{lo hi:Option SV}{g:List Ex}(env:Env)(h:Qzx c t H x lo hi=some (v,g))(hg:∀ c∈g,c.den env .bool=true):
  QdC c t (embH env H) (x.emb env) (lo.map (SV.emb env)) (hi.map (SV.emb env))=some (v.emb env):=by
 unfold Qzx at h
 split at h
 ·rename_i e
  split at h
  ·rename_i ht
   split at h
   ·rename_i hh g1 h1
    split at h
    ·rename_i l g2 h2
     simp only [Option.some.injEq,Prod.mk.injEq] at h
     obtain ⟨rfl,rfl⟩:=h
     have b1:=Qc7 env h1 (fun c hc=>hg c (List.mem_append_left _ hc))
     have b2:=Qc7 env h2 (fun c hc=>hg c (List.mem_append_right _ hc))
     rw [Qoe] at b1
     simp only [SV.emb]
     rw [QxZ c t _ _ _ _ ht,show hd (e.den env .str)=(e.den env .str).length from rfl,b1,Option.bind_some,show (0:Nat)=(natE 0).den env .nat from rfl,b2]
     rfl
    ·cases h
   ·cases h
  ·cases h
 ·rename_i u e
  split at h
  ·rename_i el hh g1 he h1
   split at h
   ·rename_i l g2 h2
    split at h
    ·rename_i hs
     simp only [Option.some.injEq,Prod.mk.injEq] at h
     obtain ⟨rfl,rfl⟩:=h
     have b1:=Qc7 env h1 (fun c hc=>hg c (List.mem_append_left _ hc))
     have b2:=Qc7 env h2 (fun c hc=>hg c (List.mem_append_right _ hc))
     rw [QbO] at b1
     simp only [SV.emb]
     rw [Qx0,he,Option.bind_some,QwK,b1,Option.bind_some,show (0:Nat)=(natE 0).den env .nat from rfl,b2,Option.bind_some,if_pos (Qoh u _ hs)]
     have:(Ex.o2 .tk (mk2 .nsub hh l) (mk2 .dr l e)).den env (.lst u)=((e.den env (.lst u)).drop (l.den env .nat)).take ((hh.den env .nat:Nat) - (l.den env .nat:Nat)):=by
      show ((mk2 .dr l e).den env (.lst u)).take ((mk2 .nsub hh l).den env .nat)=_
      rw [Qz7,QwA]
     rw [this,List.map_take,List.map_drop]
    ·cases h
   ·cases h
  ·cases h
 ·rename_i b off len
  split at h
  ·rename_i el hh g1 he h1
   split at h
   ·rename_i l g2 h2
    split at h
    ·rename_i hs
     simp only [Option.some.injEq,Prod.mk.injEq] at h
     obtain ⟨rfl,rfl⟩:=h
     have b1:=Qc7 env h1 (fun c hc=>hg c (List.mem_append_left _ hc))
     have b2:=Qc7 env h2 (fun c hc=>hg c (List.mem_append_right _ hc))
     simp only [SV.emb]
     rw [Qz1,he,Option.bind_some,b1,Option.bind_some,show (0:Nat)=(natE 0).den env .nat from rfl,b2,Option.bind_some,Qra,if_pos hs,Qid,QwA]
    ·cases h
   ·cases h
  ·cases h
 ·split at h
  ·rename_i el a g1 b g2 he h1 h2
   simp only [Option.some.injEq,Prod.mk.injEq] at h
   obtain ⟨rfl,rfl⟩:=h
   have b1:=Qc7 env h1 (fun c hc=>hg c (List.mem_append_left _ hc))
   have b2:=Qc7 env h2 (fun c hc=>hg c (List.mem_append_right _ hc))
   have b1':bound (hi.map (SV.emb env)) 0 0=_:=b1
   have b2':bound (lo.map (SV.emb env)) 0 0=_:=b2
   simp only [SV.emb]
   rw [Qve,he,Option.bind_some,b1',Option.bind_some,b2']
   rfl
  ·cases h
 ·split at h
  ·rename_i el a g1 b g2 he h1 h2
   simp only [Option.some.injEq,Prod.mk.injEq] at h
   obtain ⟨rfl,rfl⟩:=h
   have b1:=Qc7 env h1 (fun c hc=>hg c (List.mem_append_left _ hc))
   have b2:=Qc7 env h2 (fun c hc=>hg c (List.mem_append_right _ hc))
   have b1':bound (hi.map (SV.emb env)) 0 0=_:=b1
   have b2':bound (lo.map (SV.emb env)) 0 0=_:=b2
   simp only [SV.emb,QdC,he,b1',b2']
  ·cases h
 ·cases h
theorem QAm {t:TypeId}{x:SV}{lo hi mx:Option SV}(h0:Inv m env s)
  (hk:Next m (okV (embH env s.H) (Qmy c t (embH env s.H) (x.emb env) (lo.map (SV.emb env)) (hi.map (SV.emb env)) (mx.map (SV.emb env)))) env s K Q):Ok m (QzA c t x lo hi mx s K) env Q:=by
 unfold QzA
 split
 ·refine Qas fun p hp=>?_
  obtain ⟨v,g⟩:=p
  refine QcK h0 fun s1 hg e1=>hk.same e1 ?_
  show okV _ (QdC c t (embH env s.H) (x.emb env) (lo.map (SV.emb env)) (hi.map (SV.emb env)))=_
  rw [QAl env hp hg]
  rfl
 ·simp only [Ok]
theorem QmX {e:TypeId}{t:Ty}{x:Ex}(hi:Inv m env s)(hk:Next m (Qbi c e (embH env s.H) (List.map (row t) (x.den env (.lst t)))) env s K Q):Ok m (Qjn c e t x s K) env Q:=by
 unfold Qjn
 refine Qbu fun hb=>Qkj hi fun s1 hg e1=>hk env _ _ ?_ (e1.toExt.setH _)
 rw [Qju,Qsd,QbO,decide_eq_true_eq] at hg
 rw [Qvc,List.length_map,if_pos ⟨hg,Nat.le_of_ble_eq_true hb⟩,QwK,e1.H,Qdw,Qa6]
 simp only [SV.emb,QbO]
 rfl
theorem QAn {e:TypeId}{args:List SV}(hi:Inv m env s)(hk:Next m (Qjh c e (SV.embL env args) (embH env s.H)) env s K Q):Ok m (Qzt c e args s K) env Q:=by
 unfold Qzt
 split
 ·rename_i x
  refine Qas fun t ht=>Qas fun p hp=>?_
  obtain ⟨l,g⟩:=p
  refine QcK hi fun s1 hg e1=>QmX e1.inv ?_
  obtain ⟨r1,r2⟩:=Qsh hp hg
  intro env' v s' h e2
  refine hk env' v s' ?_ (e1.toExt.trans e2)
  show Qjh c e [x.emb env] (embH env s.H)=_
  rw [QEh,r1,Option.bind_some,if_pos r2,if_pos (Qoh t _ (QlY ht)),← e1.H,h]
 ·simp only [Ok]
theorem Qx9 {t tx:TypeId}{a x:SV}(hi:Inv m env s)(hk:Next m (Qd6 c t tx (embH env s.H) (a.emb env) (x.emb env)) env s K Q):Ok m (QuY c t tx a x s K) env Q:=by
 unfold QuY
 refine Qas fun e' he'=>Qas fun e he=>Qas fun u hu=>Qas fun p hp=>?_
 obtain ⟨new,g⟩:=p
 refine QcK hi fun s1 hg e1=>?_
 obtain ⟨r1,r2⟩:=Qsh hp hg
 have key:Qd6 c t tx (embH env s.H) (a.emb env) (x.emb env)=Qz0 c e (embH env s1.H) (List.map (row u) (new.den env (.lst u))) (a.emb env):=by
  rw [QCv,he',he,Option.bind_some,r1,Option.bind_some,if_pos r2,if_pos (Qoh u _ (QlY hu)),e1.H]
  rfl
 rw [key] at hk
 split
 ·refine QmX e1.inv fun env' v s' h e2=>hk env' v s' h (e1.toExt.trans e2)
 ·refine QmX e1.inv fun env' v s' h e2=>hk env' v s' h (e1.toExt.trans e2)
 ·rename_i b off len
  refine Qbu fun ho=>?_
  have ho':off=natE 0:=QaB ho
  subst ho'
  split
  ·rename_i z w l hb
   refine Qbu fun hc=>Qkj e1.inv fun s2 hg2 e2=>?_
   obtain ⟨c1,c2⟩:=Qal hc
   obtain ⟨c2,c3⟩:=Qal c2
   have c1':=QaL c1
   subst c1'
   rw [Qju,Qsd,Qid,QbO,decide_eq_true_eq] at hg2
   have base:∀ hl:(len.den env .nat:Nat)≤(l.den env (.lst w)).length,Qz0 c e (embH env s1.H) (List.map (row w) (new.den env (.lst w))) ((SV.sl b (natE 0) len).emb env)=
     some (.sl s1.H.length 0 (((l.den env (.lst w)).take (len.den env .nat)++new.den env (.lst w)).length),(embH env s1.H).set b .dead++[.rows z true (List.map (row w) ((l.den env (.lst w)).take (len.den env .nat)++new.den env (.lst w)))]):=fun hl=>by
    unfold Qz0
    simp only [SV.emb]
    rw [if_pos (show ((natE 0).den env .nat:Nat)=0 from rfl),QbP,hb]
    simp only [Option.map_some,Option.bind_some,SB.emb]
    have hg2':((len.den env .nat:Nat)+(new.den env (.lst w)).length) * (c.ty e).bytes≤35184372088832:=hg2
    have hl':(len.den env .nat:Nat)≤(List.map (row w) (l.den env (.lst w))).length:=by rw [List.length_map]; exact hl
    rw [List.length_map,if_pos ⟨c2,hg2',hl',Nat.le_of_ble_eq_true c3⟩]
    rw [← List.map_take,← List.map_append,QwK,Qa6]
   split
   ·rename_i hw
    have hl:(len.den env .nat:Nat)=(l.den env (.lst w)).length:=by rw [QaB hw,QbO]
    have h0:=base (Nat.le_of_eq hl)
    refine hk env _ _ ?_ ((e1.trans e2).toExt.setH _)
    rw [h0,e2.H]
    rw [hl,List.take_length]
    simp only [SV.emb,QbO,Qph,Qdw,QgW]
    rw [show embH env [SB.rows z w (mk2 .app l new)]=[Blk.rows z true (List.map (row w) ((mk2 .app l new).den env (.lst w)))] from rfl,Qph]
    rfl
   ·refine Qkj e2.inv fun s3 hg3 e3=>?_
    rw [Qju,QbO,decide_eq_true_eq] at hg3
    have h0:=base hg3
    refine hk env _ _ ?_ (((e1.trans e2).trans e3).toExt.setH _)
    rw [h0,e3.H,e2.H]
    simp only [SV.emb,QbO,Qph,Qz8,Qdw,QgW]
    rw [show embH env [SB.rows z w (mk2 .app (mk2 .tk len l) new)]=[Blk.rows z true (List.map (row w) ((mk2 .app (mk2 .tk len l) new).den env (.lst w)))] from rfl,Qph,Qz8]
    rfl
  ·simp only [Ok]
 ·simp only [Ok]
theorem QCH {t:TypeId}{d x:SV}(hi:Inv m env s)(hk:Next m (Qnl c t (embH env s.H) (d.emb env) (x.emb env)) env s K Q):Ok m (QD9 c t d x s K) env Q:=by
 unfold QD9
 split
 ·rename_i b off len
  refine Qas fun e he=>Qas fun u hu=>Qas fun p hp=>?_
  obtain ⟨src,g⟩:=p
  refine QcK hi fun s1 hg e1=>?_
  obtain ⟨r1,r2⟩:=Qsh hp hg
  split
  ·rename_i z w l hb
   refine Qbu fun hc=>Qkj e1.inv fun s2 hg2 e2=>?_
   obtain ⟨c1,c23⟩:=Qal hc
   obtain ⟨c2,c3⟩:=Qal c23
   have c1':=QaL c1
   subst c1'
   have hlen:(off.den env .nat:Nat)+(len.den env .nat:Nat)≤(l.den env (.lst w)).length:=by
    split at hg2
    ·rename_i hw
     obtain ⟨w1,w2⟩:=QmU (env:=env) hw
     rw [w1,w2]
     simp
    ·rw [Qju,Qid,QbO,decide_eq_true_eq] at hg2
     exact hg2
   refine hk env _ _ ?_ ((e1.trans e2).toExt.setH _)
   simp only [SV.emb]
   rw [QFB,he,Option.bind_some,r1,Option.bind_some,← e1.H,QbP,hb]
   simp only [Option.map_some,Option.bind_some,SB.emb]
   rw [e1.H,if_pos r2,List.length_map,if_pos ⟨Qoh w _ c3,c2,hlen⟩]
   rw [← List.map_take,QwK,← List.map_take,← List.map_drop,← List.map_append,← List.map_append,e2.H,e1.H]
   have hnew:(Ex.o2 .tk len src).den env (.lst w)=(src.den env (.lst w)).take (len.den env .nat):=rfl
   simp only [Qhg,QbO,hnew,QgW,SB.emb,Qph,Qz8,Qz7,Qid]
   rw [List.append_assoc]
  ·simp only [Ok]
 ·simp only [Ok]
theorem QEr {i:TI}{H:SH}{x:SV}{e:Ex}(env:Env)(h:lenE c i H x=some e):QkI c i (embH env H) (x.emb env)=some (e.den env (.int .i64)):=by
 unfold lenE at h
 unfold QkI
 cases hd:i.d<;>simp only [hd,reduceCtorEq] at h ⊢
 ·cases x<;>simp only [reduceCtorEq,Option.some.injEq] at h
  subst h
  simp only [SV.emb,Qov,Qhg,Qoe]
 ·split at h
  ·rename_i he
   simp only [Option.some.injEq] at h
   subst h
   rw [he]
   rfl
  ·cases h
 ·cases x<;>simp only [reduceCtorEq,Option.some.injEq] at h
  ·subst h
   simp only [SV.emb,Qov,Qhg,QbO,List.length_map]
  ·subst h; rfl
  ·subst h; rfl
  ·subst h
   simp only [SV.emb,Qov,Qhg]
 ·simp only [Option.some.injEq] at h
  subst h
  rfl
 ·cases x<;>simp only [reduceCtorEq,Option.some.injEq] at h
  ·subst h; rfl
  ·split at h
   ·rename_i hb
    simp only [Option.some.injEq] at h
    subst h
    simp only [SV.emb,Qov,QbP,hb,Option.map_some,SB.emb,Qhg,QbO,List.length_map]
   ·cases h
theorem Qvo {b:Builtin}{argTypes:Array TypeId}{args:List SV}(hi:Inv m env s)(hk:Next m (Qe6 c b argTypes (embH env s.H) (SV.embL env args)) env s K Q):Ok m (Qr2 c b argTypes args s K) env Q:=by
 unfold Qr2
 split
 ·rename_i x
  refine Qbu fun hb=>Qas fun e he=>hk.same (ExtH.refl hi) ?_
  show (match Nat.ble 1 argTypes.size with |true=>Qs3 c (c.ty (argTypes.getD 0 0)) (embH env s.H) (x.emb env) |false=>none)=_
  rw [hb]
  show Qs3 c (c.ty (argTypes.getD 0 0)) (embH env s.H) (x.emb env)=_
  rw [QEi,QEr env he]
  rfl
 ·rename_i x
  refine Qbu fun hb=>Qas fun e he=>?_
  split
  ·refine hk.same (ExtH.refl hi) ?_
   show (match Nat.ble 1 argTypes.size with |true=>Qxu (c.ty (argTypes.getD 0 0)) (embH env s.H) AV.nils |false=>none)=_
   rw [hb]
   simp only [Qxu,he]
   rfl
  ·refine hk.same (ExtH.refl hi) ?_
   show (match Nat.ble 1 argTypes.size with |true=>Qxu (c.ty (argTypes.getD 0 0)) (embH env s.H) AV.emp |false=>none)=_
   rw [hb]
   simp only [Qxu,he]
   rfl
  ·simp only [Ok]
 ·rename_i a x
  refine Qbu fun hb=>Qx9 hi ?_
  have:Qe6 c .append argTypes (embH env s.H) (SV.embL env [a,x])=Qd6 c (argTypes.getD 0 0) (argTypes.getD 1 0) (embH env s.H) (a.emb env) (x.emb env):=by
   show (match Nat.beq argTypes.size 2 with |true=>Qd6 c (argTypes.getD 0 0) (argTypes.getD 1 0) (embH env s.H) (a.emb env) (x.emb env) |false=>none)=_
   rw [hb]
  rw [this] at hk
  exact hk
 ·rename_i d x
  refine Qbu fun hb=>QCH hi ?_
  have:Qe6 c .copy argTypes (embH env s.H) (SV.embL env [d,x])=Qnl c (argTypes.getD 0 0) (embH env s.H) (d.emb env) (x.emb env):=by
   show (match Nat.beq argTypes.size 2 with |true=>Qnl c (argTypes.getD 0 0) (embH env s.H) (d.emb env) (x.emb env) |false=>none)=_
   rw [hb]
  rw [this] at hk
  exact hk
 ·simp only [Ok]
theorem QCI {p a b:SV}(hi:Inv m env s)(hk:Next m (okV (embH env s.H) (QyU (p.emb env) (a.emb env) (b.emb env))) env s K Q):Ok m (QEa p a b s K) env Q:=by
 unfold QEa
 split
 ·rename_i e
  refine QlR hi fun x s1 hx e1=>?_
  simp only [SV.emb,hx] at hk
  cases x with
  | true=>exact hk.same e1 rfl
  | false=>exact hk.same e1 rfl
 ·simp only [Ok]
theorem QAo {t:TypeId}(hi:Inv m env s)(hk:Next m (Qox c (c.ty t) (embH env s.H)) env s K Q):Ok m (Qzy c t s K) env Q:=by
 unfold Qzy
 refine Qbu fun hb=>Qas fun z hz=>Qas fun p hp=>?_
 obtain ⟨cs,H⟩:=p
 refine hk env _ _ ?_ ((ExtH.refl hi).toExt.setH _)
 unfold Qox
 rw [hb]
 simp only
 rw [← Qog env hz,QfH hp]
 simp only [QqE,Qap,Qdw,Qa6]
 rfl
theorem QEs {t:TypeId}{v:SV}(hi:Inv m env s)(hk:Next m (QyV c (c.ty t).zs (v.emb env) (embH env s.H)) env s K Q):Ok m (boxT c t v s K) env Q:=by
 unfold boxT
 refine Qbu fun hb=>Qas fun p hp=>?_
 obtain ⟨cs,H⟩:=p
 refine hk env _ _ ?_ ((ExtH.refl hi).toExt.setH _)
 unfold QyV
 simp only [Qf9,Qga,hb,QeP]
 rw [QfH hp]
 simp only [QqE,Qap,Qdw,Qa6]
 rfl
theorem QtI {x v:SV}(env:Env)(h:Qpa x=some v):Qmx (x.emb env)=some (v.emb env):=by
 cases x<;>simp only [Qpa,Option.some.injEq,reduceCtorEq] at h<;>subst h<;>rfl
theorem Qld (env:Env):∀ (n:Nat) (v:SV),QdA n (v.emb env)=QmJ n v
 | 0,v=>rfl
 | n+1,v=>by
  cases v with
  | iface t v=>exact Qld env n v
  | agg cs=>
   show (SV.embL env cs).all (QdA n)=cs.all (QmJ n)
   rw [QaX,List.all_map]
   congr 1
   funext v
   exact Qld env n v
  | fn f caps=>cases caps<;>rfl
  | _=>rfl
theorem QAp {t:TypeId}{i:TI}{x v:SV}(env:Env)(h:Qzz t i x=some v):QrH t i (x.emb env)=some (v.emb env):=by
 unfold Qzz at h
 unfold QrH
 cases hd:i.d<;>simp only [hd,reduceCtorEq] at h ⊢<;>
  (split at h<;>first
   | (rename_i hp
      simp only [Option.some.injEq] at h
      subst h
      rw [show QDw (x.emb env)=QmJ 8 x from Qld env 8 x,hp]
      rfl)
   | (cases h))
theorem QtJ {fn:Fn}{first:Array Operand}{caps:List SV}{v:SV}(env:Env)(h:Qpb fn first caps=some v):Qj8 fn first (SV.embL env caps)=some (v.emb env):=by
 unfold Qpb at h
 unfold Qj8
 split at h
 ·split at h
  ·rename_i hb
   simp only [Option.some.injEq] at h
   subst h
   simp only [hb]
   rfl
  ·cases h
 ·cases h
theorem Qvp {i:TI}{r:Option SV}(hi:Inv m env s)(hk:Next m (Qhv i (embH env s.H) (r.map (SV.emb env))) env s K Q):Ok m (Qr3 c i r s K) env Q:=by
 unfold Qr3
 split
 ·rename_i kt e hd
  refine Qas fun tk htk=>Qas fun tv htv=>?_
  split
  ·refine hk env _ _ ?_ ((ExtH.refl hi).toExt.setH _)
   simp only [Option.map_none,Qhv,Qap,Qdw,Qa6]
   rfl
  ·refine hk env _ _ ?_ ((ExtH.refl hi).toExt.setH _)
   simp only [Option.map_some,SV.emb,Qhv,hd,Qap,Qdw,Qa6]
   rfl
  ·simp only [Ok]
 ·simp only [Ok]
theorem Qsk {i:TI}{l cp:SV}(hi:Inv m env s)(hk:Next m (QeK c i (l.emb env) (cp.emb env) (embH env s.H)) env s K Q):Ok m (QmK c i l cp s K) env Q:=by
 unfold QmK
 refine Qas fun e he=>Qas fun t ht=>Qas fun z hz=>?_
 split
 ·rename_i n k
  refine Qbu fun hb=>QcK hi fun s1 hg e1=>?_
  obtain ⟨b1,b2⟩:=Qal hb
  have g1:=hg (leE .i64 (.il 0) n) (by simp)
  have g2:=hg (match Ex.beq n k with |true=>.bl true |false=>eqE .i64 n k) (List.mem_cons_of_mem _ List.mem_cons_self)
  have g3:=hg (nleE (mk2 .nmul (mk1 (.toN .i64) n) (natE (c.ty e).bytes)) (natE 140737488355328)) (by simp)
  rw [Qlb,decide_eq_true_eq] at g1
  rw [Qju,Qsd,Qpg,decide_eq_true_eq] at g3
  have g2':n.den env (.int .i64)=k.den env (.int .i64):=by
   split at g2
   ·rename_i hx; rw [QaB hx]
   ·rw [QmV,decide_eq_true_eq] at g2; exact g2
  refine hk env _ _ ?_ (e1.toExt.setH _)
  have g1':(0:Int)≤n.den env (.int .i64):=g1
  have g3':(Int.toNat (n.den env (.int .i64))) * (c.ty e).bytes≤140737488355328:=g3
  simp only [SV.emb]
  rw [Qvd,he,Option.bind_some,if_pos g1',if_pos g2',if_pos g3',if_pos (Nat.le_of_ble_eq_true b1),if_pos b2,QwI env hz,Qa6,e1.H]
  have hx:(Ex.o2 .rep (mk1 (.toN .i64) n) z).den env (.lst t)=List.replicate (Int.toNat (n.den env (.int .i64))) (z.den env t):=by
   show List.replicate ((mk1 (.toN .i64) n).den env .nat) (z.den env t)=_
   rw [Qpg]
  simp only [QbO,hx,Ev.hd,tg,List.length_replicate,Qdw]
  simp only [embH,List.map_cons,List.map_nil,SB.emb,hx,List.map_replicate]
  rfl
 ·simp only [Ok]
theorem Qsl {i:TI}{x v:SV}{f:Nat}(env:Env)(h:QmL c i x f=some v):QfX c i (x.emb env) f=some (v.emb env):=by
 unfold QmL at h
 unfold QfX
 split at h
 ·cases h
 ·rename_i off u hf
  rw [hf]
  simp only
  split at h
  ·cases h
  ·rename_i hb
   rw [hb]
   simp only
   cases x<;>simp only [Option.some.injEq,reduceCtorEq] at h<;>subst h
   ·rfl
   ·simp only [SV.emb,Qap,Qf8]
theorem QAq {i:TI}{x v:SV}{f:Nat}(env:Env)(h:QzB c i x f=some v):Qoz c i (x.emb env) f=some (v.emb env):=by
 unfold QzB at h
 unfold Qoz
 split at h
 ·cases h
 ·rename_i off u hf
  rw [hf]
  simp only
  cases x<;>simp only [reduceCtorEq] at h
  simp only [SV.emb,Qf8,QhB,h]
  rfl
theorem QtK {e:TypeId}{k:IntKind}{n:Ex}{x:SV}(hi:Inv m env s)(hk:Next m (okV (embH env s.H) (Qh4 c e (embH env s.H) (n.den env (.int k)) (x.emb env))) env s K Q):Ok m (Qpc c e k n x s K) env Q:=by
 unfold Qpc
 split
 ·rename_i t l
  refine Qbu fun hb=>Qpo hi fun env' y s1 ha e1 hp hl hn=>hk.same e1 ?_
  obtain ⟨g1,g2,g3,g4⟩:=Qlc ha
  simp only [SV.emb,Qh4,List.length_map,g3,List.getElem?_map,g4,Option.map_some,QcT,hb]
  rw [Qec]
  rfl
 ·rename_i b off len
  refine Qbu fun hb=>?_
  have hsz:QfW (embH env s.H) b (c.ty e).size=true:=by rw [Qra]; exact hb
  split
  ·simp only [Ok]
  ·rename_i t ht
   split
   ·simp only [Ok]
   ·rename_i l hl0
    split
    ·rename_i hw
     refine Qpo hi fun env' y s1 ha e1 hp hl hn=>hk.same e1 ?_
     obtain ⟨w1,w2⟩:=QmU (env:=env) hw
     obtain ⟨g1,g2,g3,g4⟩:=Qlc ha
     simp only [SV.emb]
     rw [Qww,w1,w2,g3,Option.bind_some,if_pos hsz,Qpg,hn,Nat.zero_add]
     rfl
    ·refine QcK hi fun s1 hg e1=>hk.same e1 ?_
     have h1:=hg (leE k (.il 0) n) (by simp)
     have h2:=hg (ltE k n (mk1 .ofN len)) (by simp)
     rw [Qlb,decide_eq_true_eq] at h1
     rw [Qvj,Qhg,decide_eq_true_eq] at h2
     simp only [SV.emb]
     rw [Qww,Qsj h1 h2,Option.bind_some,if_pos hsz,Qid,Qpg]
     rfl
 ·simp only [Ok]
theorem QtL {mm:Nat}{n:Ex}{i:Nat}(h:Qwn mm n=some i):n=.il (.ofNat i)∧i<mm:=by
 unfold Qwn at h
 split at h
 ·rename_i j hj
  split at h
  ·rename_i hb
   simp only [Option.some.injEq] at h
   subst h
   unfold QDy at hj
   split at hj
   ·simp only [Option.some.injEq] at hj
    subst hj
    refine ⟨rfl,?_⟩
    simpa [Nat.blt_eq] using hb
   ·cases hj
  ·cases h
 ·cases h
theorem Qvq {mm:Nat}{e:TypeId}{k:IntKind}{n:Ex}{x v:SV}(env:Env)(h:Qr4 c mm e n x=some v):QrI c mm e (n.den env (.int k)) (x.emb env)=some (v.emb env):=by
 unfold Qr4 at h
 unfold QrI
 split at h
 ·rename_i i hi
  obtain ⟨rfl,h1⟩:=QtL hi
  have:atIdx ((Ex.il (.ofNat i)).den env (.int k)) mm=some i:=Qsj (Int.natCast_nonneg i) (Int.ofNat_lt.mpr h1)
  rw [this]
  simp only
  cases x<;>simp only [Option.some.injEq,reduceCtorEq] at h<;>subst h
  ·rfl
  ·simp only [SV.emb,Qap,Qf8]
 ·cases h
theorem Qsm {i:TI}{x ix:SV}(hi:Inv m env s)(hk:Next m (okV (embH env s.H) (QcJ c i (embH env s.H) (x.emb env) (ix.emb env))) env s K Q):Ok m (QmM c i x ix s K) env Q:=by
 unfold QmM
 split
 ·rename_i k n
  simp only [SV.emb,QcJ] at hk
  split
  ·rename_i e he
   rw [he] at hk
   exact QtK hi hk
  ·rename_i mm e he
   rw [he] at hk
   refine Qas fun v hv=>hk.pure hi (Qvq env hv)
  ·simp only [Ok]
 ·simp only [Ok]
theorem QtM (env:Env){t:Ty}:∀ {mm:Nat} {cs:List SV} {l:List Ex},chunks t mm cs=some l→l.length=mm∧∀ i x,l[i]?=some x→∃ r,(SV.embL env cs).drop (i * t.size)=row t (x.den env t)++r
 | 0,cs,l,h=>by
  simp only [chunks,Option.some.injEq] at h
  subst h
  exact ⟨rfl,fun i x h=>by simp at h⟩
 | mm+1,cs,l,h=>by
  simp only [chunks] at h
  split at h
  ·cases h
  ·rename_i x r hr
   split at h
   ·rename_i l' hl'
    simp only [Option.some.injEq] at h
    subst h
    obtain ⟨h1,h2⟩:=QtM env hl'
    refine ⟨by simp [h1],fun i y hy=>?_⟩
    have hcs:=Qof env hr
    cases i with
    | zero=>
     simp only [List.getElem?_cons_zero,Option.some.injEq] at hy
     subst hy
     exact ⟨_,by rw [Nat.zero_mul,List.drop_zero,hcs]⟩
    | succ i=>
     simp only [List.getElem?_cons_succ] at hy
     obtain ⟨r2,hr2⟩:=h2 i y hy
     refine ⟨r2,?_⟩
     rw [hcs,← hr2]
     have:(i+1) * t.size=(row t (x.den env t)).length+i * t.size:=by rw [QcT,Nat.succ_mul,Nat.add_comm]
     rw [this,List.drop_append]
     simp
   ·cases h
theorem QCJ {t:Ty}{e:TypeId}(ht:tyOf c e=some t)(hk:(c.ty e).known=true)(ha:Qwo.eqB (c.ty e).isAgg (QlF t)=true)(x:t.D)(r:List AV):pack (c.ty e) (row t x++r)=some (valT t x):=by
 have hsz:=QbQ (QlY ht)
 unfold pack
 rw [hk]
 simp only
 cases hg:(c.ty e).isAgg with
 | true=>
  have:QlF t=true:=by
   rw [hg] at ha
   cases h:QlF t with
   | true=>rfl
   | false=>rw [h] at ha; cases ha
  simp only
  have hb:Nat.ble (c.ty e).size (row t x++r).length=true:=Nat.ble_eq_true_of_le (by rw [List.length_append,QcT]; omega)
  rw [hb,QwB this]
  simp only
  rw [← hsz,List.take_append_of_le_length (by rw [QcT]; omega),List.take_of_length_le (by rw [QcT]; omega)]
 | false=>
  have:QlF t=false:=by
   rw [hg] at ha
   cases h:QlF t with
   | false=>rfl
   | true=>rw [h] at ha; cases ha
  simp only
  rw [← QtE this]
  rfl
theorem QAr {i:TI}{x ix:SV}(hi:Inv m env s)(hk:Next m (okV (embH env s.H) (QoA c i (x.emb env) (ix.emb env))) env s K Q):Ok m (Qwo c i x ix s K) env Q:=by
 unfold Qwo
 split
 ·rename_i k n
  simp only [SV.emb,QoA] at hk
  split
  ·rename_i mm e cs he
   rw [he] at hk
   simp only [SV.emb] at hk
   split
   ·rename_i j hj
    obtain ⟨rfl,h1⟩:=QtL hj
    refine Qas fun v hv=>hk.pure hi ?_
    have:atIdx ((Ex.il (.ofNat j)).den env (.int k)) mm=some j:=Qsj (Int.natCast_nonneg j) (Int.ofNat_lt.mpr h1)
    rw [Qq2,this,Option.bind_some,Qf8,QhB,hv]
    rfl
   ·refine Qas fun t ht=>Qas fun l hl=>Qbu fun hb=>?_
    obtain ⟨b1,b2⟩:=Qal hb
    refine Qpo hi fun env' y s1 ha e1 hp hl' hn=>hk.same e1 ?_
    obtain ⟨g1,g2,g3,g4⟩:=Qlc ha
    obtain ⟨c1,c2⟩:=QtM env hl
    rw [Qpt] at g3 g4
    rw [List.length_map,c1] at g3
    rw [List.getElem?_map] at g4
    cases hx:l[(n.den env (.int k)).toNat]? with
    | none=>rw [hx] at g4; simp at g4
    | some x0=>
     rw [hx,Option.map_some,Option.some.injEq] at g4
     obtain ⟨r,hr⟩:=c2 _ _ hx
     rw [Qq2,g3,Option.bind_some,← QbQ (QlY ht),hr,QCJ ht b1 b2,Qse,g4]
     rfl
  ·rename_i e he
   rw [he] at hk
   simp only [SV.emb] at hk
   refine Qpo hi fun env' y s1 ha e1 hp hl' hn=>hk.same e1 ?_
   obtain ⟨g1,g2,g3,g4⟩:=Qlc ha
   have hbytes:(Ex.o1 .bytes e).den env (.lst (.int .u8))=(e.den env .str).map fun b=>(b.toNat:Int):=rfl
   rw [hbytes] at g3 g4
   rw [List.length_map] at g3
   rw [List.getElem?_map] at g4
   cases hx:(e.den env .str)[(n.den env (.int k)).toNat]? with
   | none=>rw [hx] at g4; simp at g4
   | some x0=>
    rw [hx,Option.map_some,Option.some.injEq] at g4
    have:Qn7 (e.den env .str) (n.den env (.int k))=some (.int .u8 x0.toNat):=by
     unfold Qn7
     rw [g3]
     simp only [hx]
    rw [this]
    show some (AV.int .u8 (x0.toNat:Int),embH env s.H)=_
    rw [g4]
    rfl
  ·simp only [Ok]
 ·simp only [Ok]
theorem Qvr {i:Nat}{x v:SV}(env:Env)(h:Qr6 i x=some v):Qlw i (x.emb env)=some (v.emb env):=by
 cases x<;>simp only [Qr6,reduceCtorEq] at h
 simp only [SV.emb,Qlw,QaX,List.getElem?_map,h,Option.map_some]
end
end Go.Sy
