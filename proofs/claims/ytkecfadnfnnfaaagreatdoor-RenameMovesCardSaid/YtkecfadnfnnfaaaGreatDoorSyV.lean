/- Operations read only what they name: temporaries that nothing later reads may be left out within a region. -/
import Derived.Test.YtkecfadnfnnfaaaGreatDoorSyM
set_option linter.unusedVariables false
set_option linter.unusedSimpArgs false
namespace Go.Sy
open Go Go.Ev
mutual
theorem Qrd:∀ v:AV,AV.beq v v=true
 | .undef=>rfl
 | .bool b=>by simp [AV.beq]
 | .int k n=>by simp [AV.beq]
 | .str s=>by simp [AV.beq]
 | .nilp=>rfl
 | .ptr a b c=>by simp [AV.beq]
 | .iptr cs=>by simp only [AV.beq]; exact QbX cs
 | .nils=>rfl
 | .emp=>rfl
 | .lst es=>by simp only [AV.beq]; exact QgZ es
 | .sl a b c=>by simp [AV.beq]
 | .nilm=>rfl
 | .map b=>by simp [AV.beq]
 | .nilf=>rfl
 | .fn f cs=>by simp only [AV.beq,Nat.beq_refl,Bool.true_and]; exact QbX cs
 | .nili=>rfl
 | .iface t v=>by simp only [AV.beq,Nat.beq_refl,Bool.true_and]; exact Qrd v
 | .agg cs=>by simp only [AV.beq]; exact QbX cs
 | .tup cs=>by simp only [AV.beq]; exact QbX cs
theorem QbX:∀ l:List AV,AV.beqL l l=true
 | []=>rfl
 | v::l=>by simp only [AV.beqL,Qrd v,QbX l,Bool.and_self]
theorem QgZ:∀ l:List (List AV),AV.QrC l l=true
 | []=>rfl
 | v::l=>by simp only [AV.QrC,QbX v,QgZ l,Bool.and_self]
end
theorem QtS (b:Blk):Qjj b b=true∨∃ s p,b=.iter s p:=by
 cases b with
 | rows z p es=>left; simp [Qjj,QgZ]
 | ro z es=>left; simp [Qjj,QgZ]
 | map es=>left; simp [Qjj,QbX]
 | dead=>left; rfl
 | iter s p=>right; exact ⟨s,p,rfl⟩
theorem QlZ (env:Env):∀ H:SH,QgQ (embH env H) (embH env H)=true
 | []=>rfl
 | b::H=>by
  show (Qjj (b.emb env) (b.emb env)&&QgQ (embH env H) (embH env H))=true
  rw [QlZ env H,Bool.and_true]
  rcases QtS (b.emb env) with h |⟨s,p,h⟩
  ·exact h
  ·cases b<;>simp [SB.emb] at h
theorem Ql0:∀ l:List Nat,QgR l l=true
 | []=>rfl
 | a::l=>by simp [QgR,Ql0 l]
theorem Qvv (env:Env)(s:SS):Qno (s.emb env) (s.emb env)=true:=by
 unfold Qno
 rw [QbX,Ql0]
 exact QlZ env s.H
def QiZ (env:Env)(rd:List (Nat×Nat×Option Ex)):List (Nat×Nat×Option Nat):=rd.map fun q=>(q.1,q.2.1,q.2.2.map fun i=>(i.den env .nat:Nat))
def STra.emb (env:Env)(t:STra):Tra:=⟨t.st.emb env,QiZ env t.rd⟩
theorem Qii {n:Nat}{e1 e2:Env}(h:Agree n e1 e2){rd:List (Nat×Nat×Option Ex)}(hb:QzE n rd=true):QiZ e2 rd=QiZ e1 rd:=by
 unfold QzE at hb
 rw [List.all_eq_true] at hb
 refine List.map_congr_left fun q hq=>?_
 have:=hb q hq
 cases hq2:q.2.2 with
 | none=>rfl
 | some i=>
  rw [hq2] at this
  simp only [Option.map_some,Qaw h this]
theorem Qpw (env:Env)(a b:List (Nat×Nat×Option Ex)):QiZ env (a++b)=QiZ env a++QiZ env b:=by simp [QiZ]
theorem Qye (env:Env)(k:Nat)(o:Oper)(s:SS):QfZ k o (s.emb env)=QiZ env (Qtt k o s.fr):=by
 unfold QfZ Qtt
 cases o.op<;>try rfl
 ·rename_i t a
  simp only [SS.emb,← Qax]
  cases opvS s.fr a<;>rfl
 ·rename_i t x lo hi mx
  simp only [SS.emb,← Qax]
  cases opvS s.fr x<;>rfl
 ·rename_i t x i
  simp only [SS.emb,← Qax]
  cases opvS s.fr x<;>rfl
section
variable {c:Ctx} {rec:Task→Option Res} {tb:Tab} {m:(f:Nat)→Pr (tb.P f)→Option (Sm (tb.O f))} {α:Type}
theorem QCN {env:Env}{t:Ty}{l i:Ex}{fs:List Fact}(hf:∀ f∈fs,Fact.holds m env f)(h:known t l i fs=true):∃ x,(l.den env (.lst t))[(i.den env .nat:Nat)]?=some x:=by
 unfold known at h
 cases hl:Qqp t (asInt i).1 l (asInt i).2 fs with
 | none=>rw [hl] at h; cases h
 | some x=>
  obtain ⟨_,_,_,g4⟩:=Qlc (QlS hf hl)
  refine ⟨x.den env t,?_⟩
  ·have key:(i.den env .nat:Nat)=Int.toNat ((asInt i).2.den env (.int (asInt i).1)):=by
    unfold asInt
    split
    ·rfl
    ·simp only [Qhg,Int.toNat_natCast]
   rw [key]
   exact g4
theorem QtT (env:Env)(H:SH)(b i:Nat):Ev.rowAt (embH env H) b i=match H[b]? with
  | some (.rows _ t e)=>((e.den env (.lst t))[i]?).map (row t)
  | some (.ro _ t e)=>((e.den env (.lst t))[i]?).map (row t)
  | some (.box _ _ es)=>(es[i]?).map (SV.embL env)
  | _=>none:=by
 unfold Ev.rowAt
 rw [QbP]
 cases H[b]? with
 | none=>rfl
 | some k=>cases k<;>simp [SB.emb]
theorem Qyf {env:Env}{fs:List Fact}{H H':SH}{b:Nat}{i:Ex}(hf:∀ f∈fs,Fact.holds m env f)(h:Qr7 fs H H' b i=true):QrJ (embH env H) (embH env H') b (i.den env .nat)=true:=by
 unfold QrJ
 rw [QtT,QtT]
 unfold Qr7 at h
 have same:∀ {t t':Ty} {e e':Ex},(Ty.beq t t'&&(Ex.beq e e'&&known t' e' i fs))=true→(match ((e.den env (.lst t))[(i.den env .nat:Nat)]?).map (row t),((e'.den env (.lst t'))[(i.den env .nat:Nat)]?).map (row t') with
   | some x,some y=>AV.beqL x y
   | _,_=>false)=true:=fun {t t' e e'} h=>by
  obtain ⟨h1,h2⟩:=Qal h
  obtain ⟨h2,h3⟩:=Qal h2
  have e1:=QaL h1
  have e2:=QaB h2
  subst e1 e2
  obtain ⟨x,hx⟩:=QCN hf h3
  rw [hx]
  exact QbX _
 split at h
 ·rename_i h1 h2; rw [h1,h2]; exact same h
 ·rename_i h1 h2; rw [h1,h2]; exact same h
 ·rename_i h1 h2; rw [h1,h2]; exact same h
 ·rename_i h1 h2
  rw [h1,h2]
  split at h
  ·rename_i j hj
   have:i=.nn j:=by
    unfold QqX at hj
    split at hj
    ·simp only [Option.some.injEq] at hj; rw [hj]
    ·cases hj
   subst this
   split at h
   ·rename_i r r' hr hr'
    simp only [show ((Ex.nn j).den env .nat:Nat)=j from rfl,hr,hr',Option.map_some]
    rw [Qea h]
    exact QbX _
   ·cases h
  ·cases h
 ·cases h
theorem QtU {env:Env}{fs:List Fact}{H H':SH}{q:Nat×Nat×Option Ex}(hf:∀ f∈fs,Fact.holds m env f)(h:QmN fs H H' q=true):QfY (embH env H) (embH env H') (q.1,q.2.1,q.2.2.map fun i=>(i.den env .nat:Nat))=true:=by
 unfold QfY
 unfold QmN at h
 cases hq:q.2.2 with
 | some i=>
  rw [hq] at h
  exact Qyf hf h
 | none=>
  rw [hq] at h
  simp only [Option.map_none,Qvn]
  exact h
variable {Q:Env→α→Prop}
theorem Qsu (hs:Sound c rec tb m){n:Nat}{ops:Array Oper}{i:Nat}{w:List Nat}{env:Env}{t:STra}{K:STra→T α}(hi:Inv m env t.st)
  (hk:∀ env' t',QaU c rec n ops i w (t.emb env)=some (t'.emb env')→Qef m env t.st env' t'.st→Ok m (K t') env' Q):Ok m (QzF c tb n ops i w t K) env Q:=by
 unfold QzF
 split
 ·simp only [Ok]
 ·rename_i o ho
  refine Qbu fun hb=>?_
  obtain ⟨b1,b2⟩:=Qal hb
  refine Qst hs hi fun env' w' s' hw h1 e1=>?_
  simp only
  refine Qbu fun hall=>hk env' _ ?_ e1
  have hH:embH env' t.st.H=embH env t.st.H:=(QhA e1.agr b2).symm
  have hrd:QiZ env' t.rd=QiZ env t.rd:=Qii e1.agr b1
  have hfil:(QiZ env t.rd).filter (fun q=>w.contains q.1)=QiZ env' (t.rd.filter fun q=>w.contains q.1):=by
   rw [← hrd]
   simp only [QiZ,List.filter_map]
   rfl
  rw [QxS,ho,Option.bind_some]
  have:(t.emb env).st=t.st.emb env:=rfl
  rw [this,h1,Option.bind_some]
  have h2:(t.emb env).rd=QiZ env t.rd:=rfl
  rw [h2,hfil,if_pos]
  ·rfl
  ·rw [List.all_eq_true] at hall ⊢
   intro q hq
   simp only [QiZ,List.mem_map] at hq
   obtain ⟨p,hp,rfl⟩:=hq
   have:=QtU (m:=m) (env:=env') e1.inv (hall p hp)
   rw [hH] at this
   exact this
theorem QtV {mm:Nat}{env:Env}{s:SS}{K:SS→T α}(hi:Inv m env s)
  (hk:∀ s',(∀ {β:Type} (k:St→Option β),(s.emb env).canon mm k=k (s'.emb env))→Qef m env s env s'→Ok m (K s') env Q):Ok m (Qwp mm s K) env Q:=by
 unfold Qwp
 refine Qas fun s' hs'=>hk s' (fun k=>(QlV hs' k).1) ?_
 obtain ⟨_,h1,h2⟩:=QlV (env:=env) hs' (fun s=>some s)
 exact ⟨fun f hf=>hi f (by rw [← h2]; exact hf),by rw [h1]; exact Nat.le_refl _,Agree.refl⟩
theorem QEt {a b:SS}(h:beqS a b=true)(env:Env):b.emb env=a.emb env:=by
 obtain ⟨h1,h2⟩:=Qal h
 unfold SS.emb
 rw [Qk9 h1,QmS h2]
theorem Qre {n mm k:Nat}{ops:Array Oper}{run:List Nat→Nat→Plan→STra→(SS→T α)→T α}{t:STra}{c1:SS}{C:St}{T0:Tra}
  (hrun:∀ w i p env (t:STra) K,Inv m env t.st→(∀ env' s',((QaU c rec n ops i w (t.emb env)).bind fun u=>QaZ c rec mm n ops k p u)=some (s'.emb env')→Qef m env t.st env' s'→Ok m (K s') env' Q)→Ok m (run w i p t K) env Q):
  ∀ (r:List (Nat×List Nat×Plan)) (now:SS) (env:Env) (K:SS→T α),Inv m env now→c1.emb env=C→t.emb env=T0→
  (∀ env' s',r.all (Qhf c rec mm n ops k T0 C)=true→s'.emb env'=C→Inv m env' s'→now.nx≤s'.nx→Agree now.nx env env'→Ok m (K s') env' Q)→Ok m (Qr8 run mm t c1 r now K) env Q
 | [],now,env,K,hi,hC,hT,hk=>hk env _ rfl hC hi (Nat.le_refl _) Agree.refl
 | (i,w,p)::r,now,env,K,hi,hC,hT,hk=>by
  unfold Qr8
  refine Qbu fun hb=>?_
  obtain ⟨b1,b2⟩:=Qal hb
  obtain ⟨b2,b3⟩:=Qal b2
  unfold Qwq at b3
  obtain ⟨b3,b4⟩:=Qal b3
  obtain ⟨b4,b5⟩:=Qal b4
  refine hrun w i p env _ _ hi fun env1 s1 h1 e1=>QtV e1.inv fun s2 h2 e2=>Qbu fun hbe=>?_
  have hag:Agree now.nx env env1:=e1.agr
  have hC1:c1.emb env1=C:=by
   rw [← hC]
   unfold SS.emb
   rw [Qki hag b1,QhA hag b2]
  have hT1:t.emb env1=T0:=by
   rw [← hT]
   unfold STra.emb SS.emb
   rw [Qki hag b3,QhA hag b4,Qii hag b5]
  refine Qre hrun r s2 env1 K e2.inv hC1 hT1 fun env' s' hall hs' hi' hn ha=>?_
  refine hk env' s' ?_ hs' hi' (Nat.le_trans (Nat.le_trans e1.nx e2.nx) hn) (hag.trans ha (Nat.le_trans e1.nx e2.nx))
  rw [List.all_cons,hall,Bool.and_true,QzP]
  have h1':((QaU c rec n ops i w T0).bind fun u=>QaZ c rec mm n ops k p u)=some (s1.emb env1):=by rw [← hT]; exact h1
  cases hfk:QaU c rec n ops i w T0 with
  | none=>rw [hfk] at h1'; simp at h1'
  | some u=>
   rw [hfk,Option.bind_some] at h1'
   simp only [Option.bind_some]
   rw [h1',Option.bind_some,h2,QCp,QEt hbe,hC1,← hC1]
   exact Qvv env1 c1
theorem Ql1 (hs:Sound c rec tb m){mm n:Nat}{ops:Array Oper}:∀ (k:Nat) (p:Plan) (env:Env) (t:STra) (K:SS→T α),Inv m env t.st→
  (∀ env' s',QaZ c rec mm n ops k p (t.emb env)=some (s'.emb env')→Qef m env t.st env' s'→Ok m (K s') env' Q)→Ok m (QnV c tb mm n ops k p t K) env Q
 | 0,p,env,t,K,hi,hk=>by simp only [QnV,Ok]
 | k+1,.done,env,t,K,hi,hk=>by
  simp only [QnV]
  exact hk env t.st rfl (.refl hi)
 | k+1,.take i p,env,t,K,hi,hk=>by
  simp only [QnV]
  split
  ·simp only [Ok]
  ·rename_i o ho
   refine Qbu fun hb=>Qst hs hi fun env1 w s1 hw h1 e1=>?_
   refine Ql1 hs k p env1 _ K e1.inv fun env' s' h2 e2=>hk env' s' ?_ (e1.trans e2)
   rw [QxR,ho,Option.bind_some]
   have hst:(t.emb env).st=t.st.emb env:=rfl
   have hfr:(t.st.emb env).fr=embF env t.st.fr:=rfl
   rw [hst,hfr,hw,Option.bind_some,h1,Option.bind_some]
   rw [← h2]
   congr 1
   unfold STra.emb
   congr 1
   have hrd:=Qii e1.agr hb
   cases w with
   | true=>
    simp only [if_true]
    rw [hrd,Qpw,← Qye]
    try rfl
   | false=>
    simp only [if_neg (show ¬ (false=true) by simp)]
    rw [Qpw,Qpw] at hrd
    have hl:(QiZ env1 (Qtt i o t.st.fr)).length=(QiZ env (Qtt i o t.st.fr)).length:=by simp [QiZ]
    exact ((List.append_inj hrd hl).2).symm
 | k+1,.fork [],env,t,K,hi,hk=>by simp only [QnV,Ok]
 | k+1,.fork [(i,w,p)],env,t,K,hi,hk=>by
  simp only [QnV]
  refine Qsu hs hi fun env1 t1 h1 e1=>Ql1 hs k p env1 t1 K e1.inv fun env' s' h2 e2=>hk env' s' ?_ (e1.trans e2)
  rw [QEe,h1,Option.bind_some,h2]
 | k+1,.fork ((i,w,p)::q::r),env,t,K,hi,hk=>by
  simp only [QnV]
  refine Qbu fun hb=>Qsu hs hi fun env1 t1 h1 e1=>Ql1 hs k p env1 t1 _ e1.inv fun env2 s2 h2 e2=>QtV e2.inv fun s3 h3 e3=>?_
  have e12:=e1.trans e2
  have hT:t.emb env2=t.emb env:=by
   unfold Qwq at hb
   obtain ⟨b1,b2⟩:=Qal hb
   obtain ⟨b2,b3⟩:=Qal b2
   unfold STra.emb SS.emb
   rw [Qki e12.agr b1,QhA e12.agr b2,Qii e12.agr b3]
  refine Qre (c:=c) (rec:=rec) (n:=n) (k:=k) (ops:=ops) (C:=s3.emb env2) (T0:=t.emb env) (fun w i p env t K hi hk=>?_) (q::r) s3 env2 K e3.inv rfl hT fun env' s' hall hC hi' hn ha=>?_
  ·refine Qsu hs hi fun env1 t1 h1 e1=>Ql1 hs k p env1 t1 K e1.inv fun env' s' h2 e2=>hk env' s' ?_ (e1.trans e2)
   rw [h1,Option.bind_some,h2]
  ·refine hk env' s' ?_ ((e12.trans e3).trans ⟨hi',hn,ha⟩)
   rw [QEf,h1,Option.bind_some,h2,Option.bind_some,h3,if_pos hall,hC]
end
end Go.Sy
noncomputable section
namespace Go.Sy
open Go Go.Ev
def QcL (d:Nat):Fr→Prop
 | []=>True
 | p::r=>d<p.1∧QcL d r
def Srt:Fr→Prop
 | []=>True
 | p::r=>QcL p.1 r∧Srt r
theorem Qg0 {d e:Nat}(h:e<d):∀ {fr:Fr},QcL d fr→QcL e fr
 | [],_=>trivial
 | p::r,hk=>⟨Nat.lt_trans h hk.1,Qg0 h hk.2⟩
theorem Qe2 {d M:Nat}:∀ {fr:Fr},QcL d fr→QcL d (fr.sift M)
 | [],_=>trivial
 | p::r,hk=>by
  rw [Fr.Qbh]
  cases tb M p.1 with
  | true=>exact ⟨hk.1,Qe2 hk.2⟩
  | false=>exact Qe2 hk.2
theorem Qsv {M:Nat}:∀ {fr:Fr},Srt fr→Srt (fr.sift M)
 | [],_=>trivial
 | p::r,hk=>by
  rw [Fr.Qbh]
  cases tb M p.1 with
  | true=>exact ⟨Qe2 hk.1,Qsv hk.2⟩
  | false=>exact Qsv hk.2
theorem QAx {d:Nat}{v:AV}:∀ {fr:Fr},QcL d fr→fr.set d v=(d,v)::fr
 | [],_=>rfl
 | p::r,hk=>by
  rw [Fr.Qd3]
  have h1:Nat.beq p.1 d=false:=by
   cases hb:Nat.beq p.1 d with
   | false=>rfl
   | true=>have:=Nat.eq_of_beq_eq_true hb; have:=hk.1; omega
  have h2:Nat.blt d p.1=true:=by simpa [Nat.blt_eq] using hk.1
  rw [h1,h2]
theorem Ql2 {d e:Nat}{v:AV}(h:e<d):∀ {fr:Fr},QcL e fr→QcL e (fr.set d v)
 | [],_=>⟨h,trivial⟩
 | p::r,hk=>by
  rw [Fr.Qd3]
  cases Nat.beq p.1 d with
  | true=>exact ⟨h,hk.2⟩
  | false=>
   cases Nat.blt d p.1 with
   | true=>exact ⟨h,hk⟩
   | false=>exact ⟨hk.1,Ql2 h hk.2⟩
theorem Qvw {d:Nat}{v:AV}:∀ {fr:Fr},Srt fr→Srt (fr.set d v)
 | [],_=>⟨trivial,trivial⟩
 | p::r,hk=>by
  rw [Fr.Qd3]
  cases hb:Nat.beq p.1 d with
  | true=>
   have:=Nat.eq_of_beq_eq_true hb
   exact ⟨this▸hk.1,hk.2⟩
  | false=>
   cases hl:Nat.blt d p.1 with
   | true=>
    have hlt:d<p.1:=by simpa [Nat.blt_eq] using hl
    exact ⟨⟨hlt,Qg0 hlt hk.1⟩,hk⟩
   | false=>
    have h1:¬ d<p.1:=fun h=>by
     have:Nat.blt d p.1=true:=by simpa [Nat.blt_eq] using h
     rw [this] at hl
     cases hl
    have h2:p.1≠d:=fun h=>by
     rw [h] at hb
     have:Nat.beq d d=true:=by simp
     rw [this] at hb
     cases hb
    exact ⟨Ql2 (by omega) hk.1,Qvw hk.2⟩
theorem Qsw {d M:Nat}{v:AV}:∀ {fr:Fr},Srt fr→(fr.set d v).sift M=(match tb M d with |true=>(fr.sift M).set d v |false=>fr.sift M)
 | [],_=>by
  rw [Fr.set_nil,Fr.Qbh,Fr.QrE]
  cases tb M d<;>rfl
 | p::r,hk=>by
  rw [Fr.Qd3]
  cases hb:Nat.beq p.1 d with
  | true=>
   have he:=Nat.eq_of_beq_eq_true hb
   show Fr.sift M ((d,v)::r)=_
   rw [Fr.Qbh,Fr.Qbh,he]
   cases tb M d with
   | true=>
    show (d,v)::Fr.sift M r=Fr.set (p::Fr.sift M r) d v
    rw [Fr.Qd3,hb]
   | false=>rfl
  | false=>
   cases hl:Nat.blt d p.1 with
   | true=>
    have hlt:d<p.1:=by simpa [Nat.blt_eq] using hl
    show Fr.sift M ((d,v)::p::r)=_
    rw [Fr.Qbh]
    have ha:QcL d (p::r):=⟨hlt,Qg0 hlt hk.1⟩
    cases tb M d with
    | true=>
     show (d,v)::Fr.sift M (p::r)=Fr.set (Fr.sift M (p::r)) d v
     rw [QAx (Qe2 ha)]
    | false=>rfl
   | false=>
    show Fr.sift M (p::Fr.set r d v)=_
    rw [Fr.Qbh,Fr.Qbh]
    have ih:=Qsw (d:=d) (M:=M) (v:=v) hk.2
    cases hp:tb M p.1 with
    | true=>
     show p::Fr.sift M (Fr.set r d v)=_
     rw [ih]
     cases tb M d with
     | true=>
      show p::Fr.set (Fr.sift M r) d v=Fr.set (p::Fr.sift M r) d v
      rw [Fr.Qd3,hb,hl]
     | false=>rfl
    | false=>
     show Fr.sift M (Fr.set r d v)=_
     rw [ih]
theorem Qol {d M:Nat}(h:tb M d=true):∀ (fr:Fr),(fr.sift M).get d=fr.get d
 | []=>rfl
 | p::r=>by
  rw [Fr.Qbh]
  cases hp:tb M p.1 with
  | true=>
   show Fr.get (p::Fr.sift M r) d=_
   rw [Fr.Qbo,Fr.Qbo,Qol h r]
  | false=>
   show Fr.get (Fr.sift M r) d=_
   rw [Fr.Qbo,Qol h r]
   cases hb:Nat.beq p.1 d with
   | false=>rfl
   | true=>
    have:=Nat.eq_of_beq_eq_true hb
    rw [this,h] at hp
    cases hp
theorem QhI {M K:Nat}(h:∀ i,tb K i=true→tb M i=true):∀ (fr:Fr),(fr.sift M).sift K=fr.sift K
 | []=>rfl
 | p::r=>by
  rw [Fr.Qbh,Fr.Qbh]
  cases hk:tb K p.1 with
  | true=>
   rw [h _ hk]
   show Fr.sift K (p::Fr.sift M r)=p::Fr.sift K r
   rw [Fr.Qbh,hk,QhI h r]
  | false=>
   cases tb M p.1 with
   | true=>
    show Fr.sift K (p::Fr.sift M r)=Fr.sift K r
    rw [Fr.Qbh,hk,QhI h r]
   | false=>exact QhI h r
theorem Qpx {fr fr':Fr}{l:List Operand}(h:∀ x∈l,opv fr x=opv fr' x):l.map (opv fr)=l.map (opv fr'):=List.map_congr_left h
theorem Qkn {fr fr':Fr}{l:Option Operand}(h:∀ x∈l.toList,opv fr x=opv fr' x):l.map (opv fr)=l.map (opv fr'):=by
 cases l with
 | none=>rfl
 | some x=>simp only [Option.map_some,h x (by simp)]
theorem Qyg (c:Ctx)(rec:Task→Option Res)(o:Oper)(fr fr':Fr)(H:Heap)(h:∀ x∈Qsa o.op,opv fr x=opv fr' x):evOp c rec o fr H=evOp c rec o fr' H:=by
 unfold evOp
 cases ho:o.op<;>rw [ho] at h<;>simp only [Qsa] at h ⊢
 case move x=>rw [h x (by simp)]
 case assign x=>rw [h x (by simp)]
 case pick p a b=>rw [h p (by simp),h a (by simp),h b (by simp)]
 case box e x=>rw [h x (by simp)]
 case build t parts=>
  have:(parts.toList.map fun p=>(p.1,opv fr p.2))=parts.toList.map fun p=>(p.1,opv fr' p.2):=List.map_congr_left fun p hp=>by rw [h p.2 (List.mem_map.mpr ⟨p,hp,rfl⟩)]
  rw [this]
 case buildSlice t len parts=>
  have:(parts.toList.map fun p=>(p.1,opv fr p.2))=parts.toList.map fun p=>(p.1,opv fr' p.2):=List.map_congr_left fun p hp=>by rw [h p.2 (List.mem_map.mpr ⟨p,hp,rfl⟩)]
  rw [this]
 case load t a=>rw [h a (by simp)]
 case store t a v=>rw [h a (by simp),h v (by simp)]
 case nilCheck x=>rw [h x (by simp)]
 case binOp op t x y k=>rw [h x (by simp),h y (by simp)]
 case unOp op t x=>rw [h x (by simp)]
 case convert s d x=>rw [h x (by simp)]
 case makeInterface t x=>rw [h x (by simp)]
 case makeFunc fn first caps=>rw [Qpx h]
 case makeMap t r=>rw [Qkn h]
 case makeSlice t l cp=>rw [h l (by simp),h cp (by simp)]
 case slice t x lo hi mx=>rw [h x (by simp),Qkn (l:=lo) fun y hy=>h y (by simp only [List.mem_cons,List.mem_append]; exact .inr (.inl hy)),Qkn (l:=hi) fun y hy=>h y (by simp only [List.mem_cons,List.mem_append]; exact .inr (.inr (.inl hy))),Qkn (l:=mx) fun y hy=>h y (by simp only [List.mem_cons,List.mem_append]; exact .inr (.inr (.inr hy)))]
 case fieldAddr t x f=>rw [h x (by simp)]
 case field t x f=>rw [h x (by simp)]
 case indexAddr t x ix=>rw [h x (by simp),h ix (by simp)]
 case index t x ix=>rw [h x (by simp),h ix (by simp)]
 case lookup t x ix ok=>rw [h x (by simp),h ix (by simp)]
 case mapUpdate t m k v=>rw [h m (by simp),h k (by simp),h v (by simp)]
 case insert t m k v=>rw [h m (by simp),h k (by simp),h v (by simp)]
 case extract t i=>rw [h t (by simp)]
 case call cl=>
  unfold Qh5
  cases hc:cl.callee with
  | value f=>
   rw [hc] at h
   simp only
   rw [h f (by simp),Qpx fun x hx=>h x (by simp only [List.mem_append]; exact .inr hx)]
  | builtin b=>
   rw [hc] at h
   simp only
   rw [Qpx fun x hx=>h x (by simp only [List.mem_append]; exact .inr hx)]
  | _=>rfl
def FrM (M:Nat)(fr fr':Fr):Prop:=Srt fr∧Srt fr'∧fr.sift M=fr'.sift M
theorem FrM.get {M:Nat}{fr fr':Fr}(h:FrM M fr fr'){d:Nat}(hd:tb M d=true):fr.get d=fr'.get d:=by
 rw [← Qol hd fr,← Qol hd fr',h.2.2]
theorem FrM.set {M:Nat}{fr fr':Fr}(h:FrM M fr fr')(d:Nat)(v:AV):FrM M (fr.set d v) (fr'.set d v):=by
 refine ⟨Qvw h.1,Qvw h.2.1,?_⟩
 rw [Qsw h.1,Qsw h.2.1,h.2.2]
theorem FrM.put {M:Nat}{fr fr':Fr}(h:FrM M fr fr')(d:Option Tmp)(v:AV):FrM M (fr.put d v) (fr'.put d v):=by
 cases d with
 | none=>exact h
 | some d=>exact h.set d v
theorem FrM.opv {M:Nat}{fr fr':Fr}(h:FrM M fr fr'){x:Operand}(hx:QDz M x=true):Ev.opv fr x=Ev.opv fr' x:=by
 cases x with
 | tmp t=>exact h.get hx
 | _=>rfl
def StO (M:Nat):Option St→Option St→Prop
 | none,none=>True
 | some s,some t=>s.H=t.H∧FrM M s.fr t.fr
 | _,_=>False
theorem Qvx (c:Ctx)(rec:Task→Option Res)(n:Nat)(ops:Array Oper){M:Nat}{o:Oper}(ho:Qtu M ops o=true){fr fr':Fr}(H:Heap)(h:FrM M fr fr'):
  StO M (QbL c rec n ops o ⟨fr,H⟩) (QbL c rec n ops o ⟨fr',H⟩):=by
 unfold Qtu at ho
 obtain ⟨h1,h2⟩:=Qal ho
 have hop:evOp c rec o fr H=evOp c rec o fr' H:=Qyg c rec o fr fr' H fun x hx=>h.opv (List.all_eq_true.mp h1 x hx)
 have hw:QaT ops o fr=QaT ops o fr':=by
  unfold QaT
  cases hg:o.guard with
  | none=>rfl
  | some g=>
   obtain ⟨j,want⟩:=g
   rw [hg] at h2
   simp only at h2 ⊢
   cases hd:(ops[j]?).bind (·.dst) with
   | none=>rfl
   | some d=>
    rw [hd] at h2
    simp only at h2 ⊢
    rw [h.get h2]
 unfold QbL
 cases Qql n o.dst with
 | false=>exact trivial
 | true=>
  simp only
  rw [hw]
  cases QaT ops o fr' with
  | none=>exact trivial
  | some b=>
   cases b with
   | false=>exact ⟨rfl,h.put _ _⟩
   | true=>
    simp only
    unfold evDo
    simp only
    rw [hop]
    cases evOp c rec o fr' H with
    | none=>exact trivial
    | some r=>
     obtain ⟨v,H1⟩:=r
     simp only [QrD,Fr.QuD]
     exact ⟨rfl,h.put _ _⟩
theorem Qpy (c:Ctx)(rec:Task→Option Res)(n:Nat)(ops:Array Oper){M:Nat}:∀ (l:List Oper),(l.all (Qtu M ops))=true→∀ (fr fr':Fr) (H:Heap),FrM M fr fr'→
  StO M (Qbs c rec n ops l ⟨fr,H⟩) (Qbs c rec n ops l ⟨fr',H⟩)
 | [],_,fr,fr',H,h=>⟨rfl,h⟩
 | o::l,ha,fr,fr',H,h=>by
  rw [List.all_cons] at ha
  obtain ⟨h1,h2⟩:=Qal ha
  rw [QeL,QeL]
  have:=Qvx c rec n ops h1 H h
  unfold Qqm
  cases hs:QbL c rec n ops o ⟨fr,H⟩ with
  | none=>
   rw [hs] at this
   cases ht:QbL c rec n ops o ⟨fr',H⟩ with
   | none=>exact trivial
   | some t=>rw [ht] at this; exact this.elim
  | some s=>
   rw [hs] at this
   cases ht:QbL c rec n ops o ⟨fr',H⟩ with
   | none=>rw [ht] at this; exact this.elim
   | some t=>
    rw [ht] at this
    obtain ⟨e1,e2⟩:=this
    obtain ⟨fr1,H1⟩:=s
    obtain ⟨fr2,H2⟩:=t
    simp only at e1 e2
    subst e1
    exact Qpy c rec n ops l h2 fr1 fr2 H1 e2
theorem Qrf {K M:Nat}(h:Qu1 K M=true)(i:Nat)(hi:tb K i=true):tb M i=true:=by
 have he:K &&& M=K:=Nat.eq_of_beq_eq_true h
 have t:∀ m:Nat,tb m i=m.testBit i:=fun m=>by
  rw [QGQ,Nat.and_one_is_mod]
  simp only [Nat.testBit,Nat.one_and_eq_mod_two]
  rcases Nat.mod_two_eq_zero_or_one (m >>> i) with h |h<;>rw [h]<;>rfl
 rw [t] at hi ⊢
 rw [← he,Nat.testBit_and] at hi
 exact (Qal hi).2
theorem Qvy (c:Ctx)(rec:Task→Option Res)(n:Nat)(ops:Array Oper){M K:Nat}(hK:K≠0)(hsub:Qu1 K M=true)(l:List Oper)(hl:(l.all (Qtu M ops))=true)(fr:Fr)(hs:Srt fr)(H:Heap):
  ((Qbs c rec n ops l ⟨fr,H⟩).map fun s=>(⟨s.fr.only K,s.H⟩:St))=(Qbs c rec n ops l ⟨fr.sift M,H⟩).map fun s=>(⟨s.fr.only K,s.H⟩:St):=by
 have:=Qpy c rec n ops l hl fr (fr.sift M) H ⟨hs,Qsv hs,(QhI (fun _ h=>h) fr).symm⟩
 have ho:∀ f:Fr,f.only K=f.sift K:=fun f=>by
  unfold Fr.only
  have:Nat.beq K 0=false:=by cases K with |zero=>exact absurd rfl hK |succ k=>rfl
  rw [this]
 cases h1:Qbs c rec n ops l ⟨fr,H⟩ with
 | none=>
  rw [h1] at this
  cases h2:Qbs c rec n ops l ⟨fr.sift M,H⟩ with
  | none=>rfl
  | some t=>rw [h2] at this; exact this.elim
 | some s=>
  rw [h1] at this
  cases h2:Qbs c rec n ops l ⟨fr.sift M,H⟩ with
  | none=>rw [h2] at this; exact this.elim
  | some t=>
   rw [h2] at this
   obtain ⟨e1,e2⟩:=this
   simp only [Option.map_some,ho]
   rw [e1,← QhI (Qrf hsub) s.fr,e2.2.2,QhI (Qrf hsub)]
end Go.Sy
end
