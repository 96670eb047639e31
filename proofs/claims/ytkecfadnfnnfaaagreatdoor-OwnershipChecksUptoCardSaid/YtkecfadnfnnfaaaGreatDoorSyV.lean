/- Operations read only what they name: temporaries that nothing later reads may be left out within a region. -/
import Derived.Test.YtkecfadnfnnfaaaGreatDoorSyM
set_option linter.unusedVariables false
set_option linter.unusedSimpArgs false
namespace Go.Sy
open Go Go.Ev
mutual
theorem QtH:∀ v:AV,AV.beq v v=true
 | .undef=>rfl
 | .bool b=>by simp [AV.beq]
 | .int k n=>by simp [AV.beq]
 | .str s=>by simp [AV.beq]
 | .nilp=>rfl
 | .ptr a b c=>by simp [AV.beq]
 | .iptr cs=>by simp only [AV.beq]; exact QcZ cs
 | .nils=>rfl
 | .emp=>rfl
 | .lst es=>by simp only [AV.beq]; exact QiJ es
 | .sl a b c=>by simp [AV.beq]
 | .nilm=>rfl
 | .map b=>by simp [AV.beq]
 | .nilf=>rfl
 | .fn f cs=>by simp only [AV.beq,Nat.beq_refl,Bool.true_and]; exact QcZ cs
 | .nili=>rfl
 | .iface t v=>by simp only [AV.beq,Nat.beq_refl,Bool.true_and]; exact QtH v
 | .agg cs=>by simp only [AV.beq]; exact QcZ cs
 | .tup cs=>by simp only [AV.beq]; exact QcZ cs
theorem QcZ:∀ l:List AV,AV.beqL l l=true
 | []=>rfl
 | v::l=>by simp only [AV.beqL,QtH v,QcZ l,Bool.and_self]
theorem QiJ:∀ l:List (List AV),AV.Qt0 l l=true
 | []=>rfl
 | v::l=>by simp only [AV.Qt0,QcZ v,QiJ l,Bool.and_self]
end
theorem Qwh (b:Blk):QlB b b=true∨∃ s p,b=.iter s p:=by
 cases b with
 | rows z p es=>left; simp [QlB,QiJ]
 | ro z es=>left; simp [QlB,QiJ]
 | map es=>left; simp [QlB,QcZ]
 | dead=>left; rfl
 | iter s p=>right; exact ⟨s,p,rfl⟩
theorem Qoa (env:Env):∀ H:SH,QiA (embH env H) (embH env H)=true
 | []=>rfl
 | b::H=>by
  show (QlB (b.emb env) (b.emb env)&&QiA (embH env H) (embH env H))=true
  rw [Qoa env H,Bool.and_true]
  rcases Qwh (b.emb env) with h |⟨s,p,h⟩
  ·exact h
  ·cases b<;>simp [SB.emb] at h
theorem Qob:∀ l:List Nat,QiB l l=true
 | []=>rfl
 | a::l=>by simp [QiB,Qob l]
theorem QxU (env:Env)(s:SS):QpG (s.emb env) (s.emb env)=true:=by
 unfold QpG
 rw [QcZ,Qob]
 exact Qoa env s.H
def Qle (env:Env)(rd:List (Nat×Nat×Option Ex)):List (Nat×Nat×Option Nat):=rd.map fun q=>(q.1,q.2.1,q.2.2.map fun i=>(i.den env .nat:Nat))
def STra.emb (env:Env)(t:STra):Tra:=⟨t.st.emb env,Qle env t.rd⟩
theorem Qkz {n:Nat}{e1 e2:Env}(h:Agree n e1 e2){rd:List (Nat×Nat×Option Ex)}(hb:QBH n rd=true):Qle e2 rd=Qle e1 rd:=by
 unfold QBH at hb
 rw [List.all_eq_true] at hb
 refine List.map_congr_left fun q hq=>?_
 have:=hb q hq
 cases hq2:q.2.2 with
 | none=>rfl
 | some i=>
  rw [hq2] at this
  simp only [Option.map_some,QaE h this]
theorem QrJ (env:Env)(a b:List (Nat×Nat×Option Ex)):Qle env (a++b)=Qle env a++Qle env b:=by simp [Qle]
theorem QAl (env:Env)(k:Nat)(o:Oper)(s:SS):QhV k o (s.emb env)=Qle env (QvS k o s.fr):=by
 unfold QhV QvS
 cases o.op<;>try rfl
 ·rename_i t a
  simp only [SS.emb,← QaF]
  cases opvS s.fr a<;>rfl
 ·rename_i t x lo hi mx
  simp only [SS.emb,← QaF]
  cases opvS s.fr x<;>rfl
 ·rename_i t x i
  simp only [SS.emb,← QaF]
  cases opvS s.fr x<;>rfl
section
variable {c:Ctx} {rec:Task→Option Res} {tb:Tab} {m:(f:Nat)→Pr (tb.P f)→Option (Sm (tb.O f))} {α:Type}
theorem QEA {env:Env}{t:Ty}{l i:Ex}{fs:List Fact}(hf:∀ f∈fs,Fact.holds m env f)(h:known t l i fs=true):∃ x,(l.den env (.lst t))[(i.den env .nat:Nat)]?=some x:=by
 unfold known at h
 cases hl:QsM t (asInt i).1 l (asInt i).2 fs with
 | none=>rw [hl] at h; cases h
 | some x=>
  obtain ⟨_,_,_,g4⟩:=Qnk (Qn3 hf hl)
  refine ⟨x.den env t,?_⟩
  ·have key:(i.den env .nat:Nat)=Int.toNat ((asInt i).2.den env (.int (asInt i).1)):=by
    unfold asInt
    split
    ·rfl
    ·simp only [Qjk,Int.toNat_natCast]
   rw [key]
   exact g4
theorem Qwi (env:Env)(H:SH)(b i:Nat):Ev.rowAt (embH env H) b i=match H[b]? with
  | some (.rows _ t e)=>((e.den env (.lst t))[i]?).map (row t)
  | some (.ro _ t e)=>((e.den env (.lst t))[i]?).map (row t)
  | some (.box _ _ es)=>(es[i]?).map (SV.embL env)
  | _=>none:=by
 unfold Ev.rowAt
 rw [QcU]
 cases H[b]? with
 | none=>rfl
 | some k=>cases k<;>simp [SB.emb]
theorem QAm {env:Env}{fs:List Fact}{H H':SH}{b:Nat}{i:Ex}(hf:∀ f∈fs,Fact.holds m env f)(h:Qux fs H H' b i=true):Qt7 (embH env H) (embH env H') b (i.den env .nat)=true:=by
 unfold Qt7
 rw [Qwi,Qwi]
 unfold Qux at h
 have same:∀ {t t':Ty} {e e':Ex},(Ty.beq t t'&&(Ex.beq e e'&&known t' e' i fs))=true→(match ((e.den env (.lst t))[(i.den env .nat:Nat)]?).map (row t),((e'.den env (.lst t'))[(i.den env .nat:Nat)]?).map (row t') with
   | some x,some y=>AV.beqL x y
   | _,_=>false)=true:=fun {t t' e e'} h=>by
  obtain ⟨h1,h2⟩:=Qaq h
  obtain ⟨h2,h3⟩:=Qaq h2
  have e1:=QaW h1
  have e2:=QaK h2
  subst e1 e2
  obtain ⟨x,hx⟩:=QEA hf h3
  rw [hx]
  exact QcZ _
 split at h
 ·rename_i h1 h2; rw [h1,h2]; exact same h
 ·rename_i h1 h2; rw [h1,h2]; exact same h
 ·rename_i h1 h2; rw [h1,h2]; exact same h
 ·rename_i h1 h2
  rw [h1,h2]
  split at h
  ·rename_i j hj
   have:i=.nn j:=by
    unfold Qtr at hj
    split at hj
    ·simp only [osi] at hj; rw [hj]
    ·cases hj
   subst this
   split at h
   ·rename_i r r' hr hr'
    simp only [show ((Ex.nn j).den env .nat:Nat)=j from rfl,hr,hr',Option.map_some]
    rw [QfX h]
    exact QcZ _
   ·cases h
  ·cases h
 ·cases h
theorem Qwj {env:Env}{fs:List Fact}{H H':SH}{q:Nat×Nat×Option Ex}(hf:∀ f∈fs,Fact.holds m env f)(h:QoX fs H H' q=true):QhU (embH env H) (embH env H') (q.1,q.2.1,q.2.2.map fun i=>(i.den env .nat:Nat))=true:=by
 unfold QhU
 unfold QoX at h
 cases hq:q.2.2 with
 | some i=>
  rw [hq] at h
  exact QAm hf h
 | none=>
  rw [hq] at h
  simp only [Option.map_none,QxK]
  exact h
variable {Q:Env→α→Prop}
theorem QuU (hs:Sound c rec tb m){n:Nat}{ops:Array Oper}{i:Nat}{w:List Nat}{env:Env}{t:STra}{K:STra→T α}(hi:Inv m env t.st)
  (hk:∀ env' t',Qbl c rec n ops i w (t.emb env)=some (t'.emb env')→Qf2 m env t.st env' t'.st→Ok m (K t') env' Q):Ok m (QBI c tb n ops i w t K) env Q:=by
 unfold QBI
 split
 ·simp only [Ok]
 ·rename_i o ho
  refine Qcm fun hb=>?_
  obtain ⟨b1,b2⟩:=Qaq hb
  refine QuT hs hi fun env' w' s' hw h1 e1=>?_
  simp only
  refine Qcm fun hall=>hk env' _ ?_ e1
  have hH:embH env' t.st.H=embH env t.st.H:=(QjE e1.agr b2).symm
  have hrd:Qle env' t.rd=Qle env t.rd:=Qkz e1.agr b1
  have hfil:(Qle env t.rd).filter (fun q=>w.contains q.1)=Qle env' (t.rd.filter fun q=>w.contains q.1):=by
   rw [← hrd]
   simp only [Qle,List.filter_map]
   rfl
  rw [QzZ,ho,Option.bind_some]
  have:(t.emb env).st=t.st.emb env:=rfl
  rw [this,h1,Option.bind_some]
  have h2:(t.emb env).rd=Qle env t.rd:=rfl
  rw [h2,hfil,if_pos]
  ·rfl
  ·rw [List.all_eq_true] at hall ⊢
   intro q hq
   simp only [Qle,List.mem_map] at hq
   obtain ⟨p,hp,rfl⟩:=hq
   have:=Qwj (m:=m) (env:=env') e1.inv (hall p hp)
   rw [hH] at this
   exact this
theorem Qwk {mm:Nat}{env:Env}{s:SS}{K:SS→T α}(hi:Inv m env s)
  (hk:∀ s',(∀ {β:Type} (k:St→Option β),(s.emb env).canon mm k=k (s'.emb env))→Qf2 m env s env s'→Ok m (K s') env Q):Ok m (QyP mm s K) env Q:=by
 unfold QyP
 refine Qax fun s' hs'=>hk s' (fun k=>(Qn6 hs' k).1) ?_
 obtain ⟨_,h1,h2⟩:=Qn6 (env:=env) hs' (fun s=>some s)
 exact ⟨fun f hf=>hi f (by rw [← h2]; exact hf),by rw [h1]; exact Nat.le_refl _,Agree.refl⟩
theorem QF2 {a b:SS}(h:beqS a b=true)(env:Env):b.emb env=a.emb env:=by
 obtain ⟨h1,h2⟩:=Qaq h
 unfold SS.emb
 rw [Qnh h1,Qo2 h2]
theorem QtI {n mm k:Nat}{ops:Array Oper}{run:List Nat→Nat→Plan→STra→(SS→T α)→T α}{t:STra}{c1:SS}{C:St}{T0:Tra}
  (hrun:∀ w i p env (t:STra) K,Inv m env t.st→(∀ env' s',((Qbl c rec n ops i w (t.emb env)).bind fun u=>Qby c rec mm n ops k p u)=some (s'.emb env')→Qf2 m env t.st env' s'→Ok m (K s') env' Q)→Ok m (run w i p t K) env Q):
  ∀ (r:List (Nat×List Nat×Plan)) (now:SS) (env:Env) (K:SS→T α),Inv m env now→c1.emb env=C→t.emb env=T0→
  (∀ env' s',r.all (Qjj c rec mm n ops k T0 C)=true→s'.emb env'=C→Inv m env' s'→now.nx≤s'.nx→Agree now.nx env env'→Ok m (K s') env' Q)→Ok m (Quy run mm t c1 r now K) env Q
 | [],now,env,K,hi,hC,hT,hk=>hk env _ rfl hC hi (Nat.le_refl _) Agree.refl
 | (i,w,p)::r,now,env,K,hi,hC,hT,hk=>by
  unfold Quy
  refine Qcm fun hb=>?_
  obtain ⟨b1,b2⟩:=Qaq hb
  obtain ⟨b2,b3⟩:=Qaq b2
  unfold QyQ at b3
  obtain ⟨b3,b4⟩:=Qaq b3
  obtain ⟨b4,b5⟩:=Qaq b4
  refine hrun w i p env _ _ hi fun env1 s1 h1 e1=>Qwk e1.inv fun s2 h2 e2=>Qcm fun hbe=>?_
  have hag:Agree now.nx env env1:=e1.agr
  have hC1:c1.emb env1=C:=by
   rw [← hC]
   unfold SS.emb
   rw [Qmz hag b1,QjE hag b2]
  have hT1:t.emb env1=T0:=by
   rw [← hT]
   unfold STra.emb SS.emb
   rw [Qmz hag b3,QjE hag b4,Qkz hag b5]
  refine QtI hrun r s2 env1 K e2.inv hC1 hT1 fun env' s' hall hs' hi' hn ha=>?_
  refine hk env' s' ?_ hs' hi' (Nat.le_trans (Nat.le_trans e1.nx e2.nx) hn) (hag.trans ha (Nat.le_trans e1.nx e2.nx))
  rw [List.all_cons,hall,Bool.and_true,QBS]
  have h1':((Qbl c rec n ops i w T0).bind fun u=>Qby c rec mm n ops k p u)=some (s1.emb env1):=by rw [← hT]; exact h1
  cases hfk:Qbl c rec n ops i w T0 with
  | none=>rw [hfk] at h1'; simp at h1'
  | some u=>
   rw [hfk,Option.bind_some] at h1'
   simp only [Option.bind_some]
   rw [h1',Option.bind_some,h2,QEd,QF2 hbe,hC1,← hC1]
   exact QxU env1 c1
theorem Qoc (hs:Sound c rec tb m){mm n:Nat}{ops:Array Oper}:∀ (k:Nat) (p:Plan) (env:Env) (t:STra) (K:SS→T α),Inv m env t.st→
  (∀ env' s',Qby c rec mm n ops k p (t.emb env)=some (s'.emb env')→Qf2 m env t.st env' s'→Ok m (K s') env' Q)→Ok m (Qqa c tb mm n ops k p t K) env Q
 | 0,p,env,t,K,hi,hk=>by simp only [Qqa,Ok]
 | k+1,.done,env,t,K,hi,hk=>by
  simp only [Qqa]
  exact hk env t.st rfl (.refl hi)
 | k+1,.take i p,env,t,K,hi,hk=>by
  simp only [Qqa]
  split
  ·simp only [Ok]
  ·rename_i o ho
   refine Qcm fun hb=>QuT hs hi fun env1 w s1 hw h1 e1=>?_
   refine Qoc hs k p env1 _ K e1.inv fun env' s' h2 e2=>hk env' s' ?_ (e1.trans e2)
   rw [QzY,ho,Option.bind_some]
   have hst:(t.emb env).st=t.st.emb env:=rfl
   have hfr:(t.st.emb env).fr=embF env t.st.fr:=rfl
   rw [hst,hfr,hw,Option.bind_some,h1,Option.bind_some]
   rw [← h2]
   congr 1
   unfold STra.emb
   congr 1
   have hrd:=Qkz e1.agr hb
   cases w with
   | true=>
    simp only [if_true]
    rw [hrd,QrJ,← QAl]
    try rfl
   | false=>
    simp only [if_neg (show ¬ (false=true) by simp)]
    rw [QrJ,QrJ] at hrd
    have hl:(Qle env1 (QvS i o t.st.fr)).length=(Qle env (QvS i o t.st.fr)).length:=by simp [Qle]
    exact ((List.append_inj hrd hl).2).symm
 | k+1,.fork [],env,t,K,hi,hk=>by simp only [Qqa,Ok]
 | k+1,.fork [(i,w,p)],env,t,K,hi,hk=>by
  simp only [Qqa]
  refine QuU hs hi fun env1 t1 h1 e1=>Qoc hs k p env1 t1 K e1.inv fun env' s' h2 e2=>hk env' s' ?_ (e1.trans e2)
  rw [QFN,h1,Option.bind_some,h2]
 | k+1,.fork ((i,w,p)::q::r),env,t,K,hi,hk=>by
  simp only [Qqa]
  refine Qcm fun hb=>QuU hs hi fun env1 t1 h1 e1=>Qoc hs k p env1 t1 _ e1.inv fun env2 s2 h2 e2=>Qwk e2.inv fun s3 h3 e3=>?_
  have e12:=e1.trans e2
  have hT:t.emb env2=t.emb env:=by
   unfold QyQ at hb
   obtain ⟨b1,b2⟩:=Qaq hb
   obtain ⟨b2,b3⟩:=Qaq b2
   unfold STra.emb SS.emb
   rw [Qmz e12.agr b1,QjE e12.agr b2,Qkz e12.agr b3]
  refine QtI (c:=c) (rec:=rec) (n:=n) (k:=k) (ops:=ops) (C:=s3.emb env2) (T0:=t.emb env) (fun w i p env t K hi hk=>?_) (q::r) s3 env2 K e3.inv rfl hT fun env' s' hall hC hi' hn ha=>?_
  ·refine QuU hs hi fun env1 t1 h1 e1=>Qoc hs k p env1 t1 K e1.inv fun env' s' h2 e2=>hk env' s' ?_ (e1.trans e2)
   rw [h1,Option.bind_some,h2]
  ·refine hk env' s' ?_ ((e12.trans e3).trans ⟨hi',hn,ha⟩)
   rw [QFO,h1,Option.bind_some,h2,Option.bind_some,h3,if_pos hall,hC]
end
end Go.Sy
noncomputable section
namespace Go.Sy
open Go Go.Ev
def QdY (d:Nat):Fr→Prop
 | []=>True
 | p::r=>d<p.1∧QdY d r
def Srt:Fr→Prop
 | []=>True
 | p::r=>QdY p.1 r∧Srt r
theorem QiK {d e:Nat}(h:e<d):∀ {fr:Fr},QdY d fr→QdY e fr
 | [],_=>trivial
 | p::r,hk=>⟨Nat.lt_trans h hk.1,QiK h hk.2⟩
theorem QgO {d M:Nat}:∀ {fr:Fr},QdY d fr→QdY d (fr.sift M)
 | [],_=>trivial
 | p::r,hk=>by
  rw [Fr.Qca]
  cases tb M p.1 with
  | true=>exact ⟨hk.1,QgO hk.2⟩
  | false=>exact QgO hk.2
theorem QuV {M:Nat}:∀ {fr:Fr},Srt fr→Srt (fr.sift M)
 | [],_=>trivial
 | p::r,hk=>by
  rw [Fr.Qca]
  cases tb M p.1 with
  | true=>exact ⟨QgO hk.1,QuV hk.2⟩
  | false=>exact QuV hk.2
theorem QCB {d:Nat}{v:AV}:∀ {fr:Fr},QdY d fr→fr.set d v=(d,v)::fr
 | [],_=>rfl
 | p::r,hk=>by
  rw [Fr.QfQ]
  have h1:Nat.beq p.1 d=false:=by
   cases hb:Nat.beq p.1 d with
   | false=>rfl
   | true=>have:=Nat.eq_of_beq_eq_true hb; have:=hk.1; omega
  have h2:Nat.blt d p.1=true:=by simpa [Nat.blt_eq] using hk.1
  rw [h1,h2]
theorem Qod {d e:Nat}{v:AV}(h:e<d):∀ {fr:Fr},QdY e fr→QdY e (fr.set d v)
 | [],_=>⟨h,trivial⟩
 | p::r,hk=>by
  rw [Fr.QfQ]
  cases Nat.beq p.1 d with
  | true=>exact ⟨h,hk.2⟩
  | false=>
   cases Nat.blt d p.1 with
   | true=>exact ⟨h,hk⟩
   | false=>exact ⟨hk.1,Qod h hk.2⟩
theorem QxV {d:Nat}{v:AV}:∀ {fr:Fr},Srt fr→Srt (fr.set d v)
 | [],_=>⟨trivial,trivial⟩
 | p::r,hk=>by
  rw [Fr.QfQ]
  cases hb:Nat.beq p.1 d with
  | true=>
   have:=Nat.eq_of_beq_eq_true hb
   exact ⟨this▸hk.1,hk.2⟩
  | false=>
   cases hl:Nat.blt d p.1 with
   | true=>
    have hlt:d<p.1:=by simpa [Nat.blt_eq] using hl
    exact ⟨⟨hlt,QiK hlt hk.1⟩,hk⟩
   | false=>
    have h1:¬ d<p.1:=fun h=>by
     have:Nat.blt d p.1=true:=by simpa [Nat.blt_eq] using h
     rw [this] at hl
     cases hl
    have h2:p.1≠d:=fun h=>by
     rw [h] at hb
     have:Nat.beq d d=true:=by simp
     rw [this] at hb
     cases hb
    exact ⟨Qod (by omega) hk.1,QxV hk.2⟩
theorem QuW {d M:Nat}{v:AV}:∀ {fr:Fr},Srt fr→(fr.set d v).sift M=(match tb M d with |true=>(fr.sift M).set d v |false=>fr.sift M)
 | [],_=>by
  rw [Fr.set_nil,Fr.Qca,Fr.Qt2]
  cases tb M d<;>rfl
 | p::r,hk=>by
  rw [Fr.QfQ]
  cases hb:Nat.beq p.1 d with
  | true=>
   have he:=Nat.eq_of_beq_eq_true hb
   show Fr.sift M ((d,v)::r)=_
   rw [Fr.Qca,Fr.Qca,he]
   cases tb M d with
   | true=>
    show (d,v)::Fr.sift M r=Fr.set (p::Fr.sift M r) d v
    rw [Fr.QfQ,hb]
   | false=>rfl
  | false=>
   cases hl:Nat.blt d p.1 with
   | true=>
    have hlt:d<p.1:=by simpa [Nat.blt_eq] using hl
    show Fr.sift M ((d,v)::p::r)=_
    rw [Fr.Qca]
    have ha:QdY d (p::r):=⟨hlt,QiK hlt hk.1⟩
    cases tb M d with
    | true=>
     show (d,v)::Fr.sift M (p::r)=Fr.set (Fr.sift M (p::r)) d v
     rw [QCB (QgO ha)]
    | false=>rfl
   | false=>
    show Fr.sift M (p::Fr.set r d v)=_
    rw [Fr.Qca,Fr.Qca]
    have ih:=QuW (d:=d) (M:=M) (v:=v) hk.2
    cases hp:tb M p.1 with
    | true=>
     show p::Fr.sift M (Fr.set r d v)=_
     rw [ih]
     cases tb M d with
     | true=>
      show p::Fr.set (Fr.sift M r) d v=Fr.set (p::Fr.sift M r) d v
      rw [Fr.QfQ,hb,hl]
     | false=>rfl
    | false=>
     show Fr.sift M (Fr.set r d v)=_
     rw [ih]
theorem Qqy {d M:Nat}(h:tb M d=true):∀ (fr:Fr),(fr.sift M).get d=fr.get d
 | []=>rfl
 | p::r=>by
  rw [Fr.Qca]
  cases hp:tb M p.1 with
  | true=>
   show Fr.get (p::Fr.sift M r) d=_
   rw [Fr.Qci,Fr.Qci,Qqy h r]
  | false=>
   show Fr.get (Fr.sift M r) d=_
   rw [Fr.Qci,Qqy h r]
   cases hb:Nat.beq p.1 d with
   | false=>rfl
   | true=>
    have:=Nat.eq_of_beq_eq_true hb
    rw [this,h] at hp
    cases hp
theorem QjM {M K:Nat}(h:∀ i,tb K i=true→tb M i=true):∀ (fr:Fr),(fr.sift M).sift K=fr.sift K
 | []=>rfl
 | p::r=>by
  rw [Fr.Qca,Fr.Qca]
  cases hk:tb K p.1 with
  | true=>
   rw [h _ hk]
   show Fr.sift K (p::Fr.sift M r)=p::Fr.sift K r
   rw [Fr.Qca,hk,QjM h r]
  | false=>
   cases tb M p.1 with
   | true=>
    show Fr.sift K (p::Fr.sift M r)=Fr.sift K r
    rw [Fr.Qca,hk,QjM h r]
   | false=>exact QjM h r
theorem QrK {fr fr':Fr}{l:List Operand}(h:∀ x∈l,opv fr x=opv fr' x):l.map (opv fr)=l.map (opv fr'):=List.map_congr_left h
theorem QmE {fr fr':Fr}{l:Option Operand}(h:∀ x∈l.toList,opv fr x=opv fr' x):l.map (opv fr)=l.map (opv fr'):=by
 cases l with
 | none=>rfl
 | some x=>simp only [Option.map_some,h x (by simp)]
theorem QAn (c:Ctx)(rec:Task→Option Res)(o:Oper)(fr fr':Fr)(H:Heap)(h:∀ x∈QuA o.op,opv fr x=opv fr' x):evOp c rec o fr H=evOp c rec o fr' H:=by
 unfold evOp
 cases ho:o.op<;>rw [ho] at h<;>simp only [QuA] at h ⊢
 case move x=>rw [h x (by simp)]
 case assign x=>rw [h x (by simp)]
 case pick p a b=>rw [h p (by simp),h a (by simp),h b (by simp)]
 case box e x=>rw [h x (by simp)]
 case build t parts=>
  have:(parts.toList.map fun p=>(p.1,opv fr p.2))=parts.toList.map fun p=>(p.1,opv fr' p.2):=List.map_congr_left fun p hp=>by rw [h p.2 (List.mem_map.mpr ⟨p,hp,rfl⟩)]
  rw [this]
 case buildSlice t len parts=>
  have:(parts.toList.map fun p=>(p.1,opv fr p.2))=parts.toList.map fun p=>(p.1,opv fr' p.2):=List.map_congr_left fun p hp=>by rw [h p.2 (List.mem_map.mpr ⟨p,hp,rfl⟩)]
  rw [this]
 case load t a=>rw [h a (by simp)]
 case store t a v=>rw [h a (by simp),h v (by simp)]
 case nilCheck x=>rw [h x (by simp)]
 case binOp op t x y k=>rw [h x (by simp),h y (by simp)]
 case unOp op t x=>rw [h x (by simp)]
 case convert s d x=>rw [h x (by simp)]
 case makeInterface t x=>rw [h x (by simp)]
 case makeFunc fn first caps=>rw [QrK h]
 case makeMap t r=>rw [QmE h]
 case makeSlice t l cp=>rw [h l (by simp),h cp (by simp)]
 case slice t x lo hi mx=>rw [h x (by simp),QmE (l:=lo) fun y hy=>h y (by simp only [List.mem_cons,List.mem_append]; exact .inr (.inl hy)),QmE (l:=hi) fun y hy=>h y (by simp only [List.mem_cons,List.mem_append]; exact .inr (.inr (.inl hy))),QmE (l:=mx) fun y hy=>h y (by simp only [List.mem_cons,List.mem_append]; exact .inr (.inr (.inr hy)))]
 case fieldAddr t x f=>rw [h x (by simp)]
 case field t x f=>rw [h x (by simp)]
 case indexAddr t x ix=>rw [h x (by simp),h ix (by simp)]
 case index t x ix=>rw [h x (by simp),h ix (by simp)]
 case lookup t x ix ok=>rw [h x (by simp),h ix (by simp)]
 case mapUpdate t m k v=>rw [h m (by simp),h k (by simp),h v (by simp)]
 case insert t m k v=>rw [h m (by simp),h k (by simp),h v (by simp)]
 case extract t i=>rw [h t (by simp)]
 case call cl=>
  unfold Qkm
  cases hc:cl.callee with
  | value f=>
   rw [hc] at h
   simp only
   rw [h f (by simp),QrK fun x hx=>h x (by simp only [List.mem_append]; exact .inr hx)]
  | builtin b=>
   rw [hc] at h
   simp only
   rw [QrK fun x hx=>h x (by simp only [List.mem_append]; exact .inr hx)]
  | _=>rfl
def FrM (M:Nat)(fr fr':Fr):Prop:=Srt fr∧Srt fr'∧fr.sift M=fr'.sift M
theorem FrM.get {M:Nat}{fr fr':Fr}(h:FrM M fr fr'){d:Nat}(hd:tb M d=true):fr.get d=fr'.get d:=by
 rw [← Qqy hd fr,← Qqy hd fr',h.2.2]
theorem FrM.set {M:Nat}{fr fr':Fr}(h:FrM M fr fr')(d:Nat)(v:AV):FrM M (fr.set d v) (fr'.set d v):=by
 refine ⟨QxV h.1,QxV h.2.1,?_⟩
 rw [QuW h.1,QuW h.2.1,h.2.2]
theorem FrM.put {M:Nat}{fr fr':Fr}(h:FrM M fr fr')(d:Option Tmp)(v:AV):FrM M (fr.put d v) (fr'.put d v):=by
 cases d with
 | none=>exact h
 | some d=>exact h.set d v
theorem FrM.opv {M:Nat}{fr fr':Fr}(h:FrM M fr fr'){x:Operand}(hx:QFb M x=true):Ev.opv fr x=Ev.opv fr' x:=by
 cases x with
 | tmp t=>exact h.get hx
 | _=>rfl
def StO (M:Nat):Option St→Option St→Prop
 | none,none=>True
 | some s,some t=>s.H=t.H∧FrM M s.fr t.fr
 | _,_=>False
theorem QxW (c:Ctx)(rec:Task→Option Res)(n:Nat)(ops:Array Oper){M:Nat}{o:Oper}(ho:QvT M ops o=true){fr fr':Fr}(H:Heap)(h:FrM M fr fr'):
  StO M (QcP c rec n ops o ⟨fr,H⟩) (QcP c rec n ops o ⟨fr',H⟩):=by
 unfold QvT at ho
 obtain ⟨h1,h2⟩:=Qaq ho
 have hop:evOp c rec o fr H=evOp c rec o fr' H:=QAn c rec o fr fr' H fun x hx=>h.opv (List.all_eq_true.mp h1 x hx)
 have hw:Qbk ops o fr=Qbk ops o fr':=by
  unfold Qbk
  cases hg:o.guard with
  | none=>rfl
  | some g=>
   obtain ⟨j,want⟩:=g
   rw [hg] at h2
   simp only at h2 ⊢
   cases hd:(ops[j]?).bind (·.dst) with
   | none=>rfl
   | some d=>
    rw [hd] at h2
    simp only at h2 ⊢
    rw [h.get h2]
 unfold QcP
 cases QsH n o.dst with
 | false=>exact trivial
 | true=>
  simp only
  rw [hw]
  cases Qbk ops o fr' with
  | none=>exact trivial
  | some b=>
   cases b with
   | false=>exact ⟨rfl,h.put _ _⟩
   | true=>
    simp only
    unfold evDo
    simp only
    rw [hop]
    cases evOp c rec o fr' H with
    | none=>exact trivial
    | some r=>
     obtain ⟨v,H1⟩:=r
     simp only [Qt1,Fr.QwY]
     exact ⟨rfl,h.put _ _⟩
theorem QrL (c:Ctx)(rec:Task→Option Res)(n:Nat)(ops:Array Oper){M:Nat}:∀ (l:List Oper),(l.all (QvT M ops))=true→∀ (fr fr':Fr) (H:Heap),FrM M fr fr'→
  StO M (Qcp c rec n ops l ⟨fr,H⟩) (Qcp c rec n ops l ⟨fr',H⟩)
 | [],_,fr,fr',H,h=>⟨rfl,h⟩
 | o::l,ha,fr,fr',H,h=>by
  rw [List.all_cons] at ha
  obtain ⟨h1,h2⟩:=Qaq ha
  rw [QgE,QgE]
  have:=QxW c rec n ops h1 H h
  unfold QsI
  cases hs:QcP c rec n ops o ⟨fr,H⟩ with
  | none=>
   rw [hs] at this
   cases ht:QcP c rec n ops o ⟨fr',H⟩ with
   | none=>exact trivial
   | some t=>rw [ht] at this; exact this.elim
  | some s=>
   rw [hs] at this
   cases ht:QcP c rec n ops o ⟨fr',H⟩ with
   | none=>rw [ht] at this; exact this.elim
   | some t=>
    rw [ht] at this
    obtain ⟨e1,e2⟩:=this
    obtain ⟨fr1,H1⟩:=s
    obtain ⟨fr2,H2⟩:=t
    simp only at e1 e2
    subst e1
    exact QrL c rec n ops l h2 fr1 fr2 H1 e2
theorem QtJ {K M:Nat}(h:Qxo K M=true)(i:Nat)(hi:tb K i=true):tb M i=true:=by
 have he:K &&& M=K:=Nat.eq_of_beq_eq_true h
 have t:∀ m:Nat,tb m i=m.testBit i:=fun m=>by
  rw [QIq,Nat.and_one_is_mod]
  simp only [Nat.testBit,Nat.one_and_eq_mod_two]
  rcases Nat.mod_two_eq_zero_or_one (m >>> i) with h |h<;>rw [h]<;>rfl
 rw [t] at hi ⊢
 rw [← he,Nat.testBit_and] at hi
 exact (Qaq hi).2
theorem QxX (c:Ctx)(rec:Task→Option Res)(n:Nat)(ops:Array Oper){M K:Nat}(hK:K≠0)(hsub:Qxo K M=true)(l:List Oper)(hl:(l.all (QvT M ops))=true)(fr:Fr)(hs:Srt fr)(H:Heap):
  ((Qcp c rec n ops l ⟨fr,H⟩).map fun s=>(⟨s.fr.only K,s.H⟩:St))=(Qcp c rec n ops l ⟨fr.sift M,H⟩).map fun s=>(⟨s.fr.only K,s.H⟩:St):=by
 have:=QrL c rec n ops l hl fr (fr.sift M) H ⟨hs,QuV hs,(QjM (fun _ h=>h) fr).symm⟩
 have ho:∀ f:Fr,f.only K=f.sift K:=fun f=>by
  unfold Fr.only
  have:Nat.beq K 0=false:=by cases K with |zero=>exact absurd rfl hK |succ k=>rfl
  rw [this]
 cases h1:Qcp c rec n ops l ⟨fr,H⟩ with
 | none=>
  rw [h1] at this
  cases h2:Qcp c rec n ops l ⟨fr.sift M,H⟩ with
  | none=>rfl
  | some t=>rw [h2] at this; exact this.elim
 | some s=>
  rw [h1] at this
  cases h2:Qcp c rec n ops l ⟨fr.sift M,H⟩ with
  | none=>rw [h2] at this; exact this.elim
  | some t=>
   rw [h2] at this
   obtain ⟨e1,e2⟩:=this
   simp only [Option.map_some,ho]
   rw [e1,← QjM (QtJ hsub) s.fr,e2.2.2,QjM (QtJ hsub)]
end Go.Sy
end
