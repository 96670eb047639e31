/- Operations read only what they name: temporaries that nothing later reads may be left out within a region. -/
import Derived.Test.YtkecfadnfnnfaaaGreatDoorSyM
set_option linter.unusedVariables false
set_option linter.unusedSimpArgs false
namespace Go.Sy
open Go Go.Ev
mutual
theorem QsD:∀ v:AV,AV.beq v v=true
 | .undef=>rfl
 | .bool b=>by simp [AV.beq]
 | .int k n=>by simp [AV.beq]
 | .str s=>by simp [AV.beq]
 | .nilp=>rfl
 | .ptr a b c=>by simp [AV.beq]
 | .iptr cs=>by simp only [AV.beq]; exact Qcp cs
 | .nils=>rfl
 | .emp=>rfl
 | .lst es=>by simp only [AV.beq]; exact QhF es
 | .sl a b c=>by simp [AV.beq]
 | .nilm=>rfl
 | .map b=>by simp [AV.beq]
 | .nilf=>rfl
 | .fn f cs=>by simp only [AV.beq,Nat.beq_refl,Bool.true_and]; exact Qcp cs
 | .nili=>rfl
 | .iface t v=>by simp only [AV.beq,Nat.beq_refl,Bool.true_and]; exact QsD v
 | .agg cs=>by simp only [AV.beq]; exact Qcp cs
 | .tup cs=>by simp only [AV.beq]; exact Qcp cs
theorem Qcp:∀ l:List AV,AV.beqL l l=true
 | []=>rfl
 | v::l=>by simp only [AV.beqL,QsD v,Qcp l,Bool.and_self]
theorem QhF:∀ l:List (List AV),AV.QsX l l=true
 | []=>rfl
 | v::l=>by simp only [AV.QsX,Qcp v,QhF l,Bool.and_self]
end
theorem Qvl (b:Blk):QkC b b=true∨∃ s p,b=.iter s p:=by
 cases b with
 | rows z p es=>left; simp [QkC,QhF]
 | ro z es=>left; simp [QkC,QhF]
 | map es=>left; simp [QkC,Qcp]
 | dead=>left; rfl
 | iter s p=>right; exact ⟨s,p,rfl⟩
theorem Qm8 (env:Env):∀ H:SH,Qhw (embH env H) (embH env H)=true
 | []=>rfl
 | b::H=>by
  show (QkC (b.emb env) (b.emb env)&&Qhw (embH env H) (embH env H))=true
  rw [Qm8 env H,Bool.and_true]
  rcases Qvl (b.emb env) with h |⟨s,p,h⟩
  ·exact h
  ·cases b<;>simp [SB.emb] at h
theorem Qm9:∀ l:List Nat,Qhx l l=true
 | []=>rfl
 | a::l=>by simp [Qhx,Qm9 l]
theorem QwZ (env:Env)(s:SS):QoE (s.emb env) (s.emb env)=true:=by
 unfold QoE
 rw [Qcp,Qm9]
 exact Qm8 env s.H
def Qkh (env:Env)(rd:List (Nat×Nat×Option Ex)):List (Nat×Nat×Option Nat):=rd.map fun q=>(q.1,q.2.1,q.2.2.map fun i=>(i.den env .nat:Nat))
def STra.emb (env:Env)(t:STra):Tra:=⟨t.st.emb env,Qkh env t.rd⟩
theorem Qjw {n:Nat}{e1 e2:Env}(h:Agree n e1 e2){rd:List (Nat×Nat×Option Ex)}(hb:QAL n rd=true):Qkh e2 rd=Qkh e1 rd:=by
 unfold QAL at hb
 rw [List.all_eq_true] at hb
 refine List.map_congr_left fun q hq=>?_
 have:=hb q hq
 cases hq2:q.2.2 with
 | none=>rfl
 | some i=>
  rw [hq2] at this
  simp only [Option.map_some,QaB h this]
theorem QqG (env:Env)(a b:List (Nat×Nat×Option Ex)):Qkh env (a++b)=Qkh env a++Qkh env b:=by simp [Qkh]
theorem Qzo (env:Env)(k:Nat)(o:Oper)(s:SS):QgU k o (s.emb env)=Qkh env (QuW k o s.fr):=by
 unfold QgU QuW
 cases o.op<;>try rfl
 ·rename_i t a
  simp only [SS.emb,← QaC]
  cases opvS s.fr a<;>rfl
 ·rename_i t x lo hi mx
  simp only [SS.emb,← QaC]
  cases opvS s.fr x<;>rfl
 ·rename_i t x i
  simp only [SS.emb,← QaC]
  cases opvS s.fr x<;>rfl
section
variable {c:Ctx} {rec:Task→Option Res} {tb:Tab} {m:(f:Nat)→Pr (tb.P f)→Option (Sm (tb.O f))} {α:Type}
theorem QDx {env:Env}{t:Ty}{l i:Ex}{fs:List Fact}(hf:∀ f∈fs,Fact.holds m env f)(h:known t l i fs=true):∃ x,(l.den env (.lst t))[(i.den env .nat:Nat)]?=some x:=by
 unfold known at h
 cases hl:QrI t (asInt i).1 l (asInt i).2 fs with
 | none=>rw [hl] at h; cases h
 | some x=>
  obtain ⟨_,_,_,g4⟩:=Qmi (Qm1 hf hl)
  refine ⟨x.den env t,?_⟩
  ·have key:(i.den env .nat:Nat)=Int.toNat ((asInt i).2.den env (.int (asInt i).1)):=by
    unfold asInt
    split
    ·rfl
    ·simp only [Qik,Int.toNat_natCast]
   rw [key]
   exact g4
theorem Qvm (env:Env)(H:SH)(b i:Nat):Ev.rowAt (embH env H) b i=match H[b]? with
  | some (.rows _ t e)=>((e.den env (.lst t))[i]?).map (row t)
  | some (.ro _ t e)=>((e.den env (.lst t))[i]?).map (row t)
  | some (.box _ _ es)=>(es[i]?).map (SV.embL env)
  | _=>none:=by
 unfold Ev.rowAt
 rw [Qck]
 cases H[b]? with
 | none=>rfl
 | some k=>cases k<;>simp [SB.emb]
theorem Qzp {env:Env}{fs:List Fact}{H H':SH}{b:Nat}{i:Ex}(hf:∀ f∈fs,Fact.holds m env f)(h:Qtu fs H H' b i=true):Qs4 (embH env H) (embH env H') b (i.den env .nat)=true:=by
 unfold Qs4
 rw [Qvm,Qvm]
 unfold Qtu at h
 have same:∀ {t t':Ty} {e e':Ex},(Ty.beq t t'&&(Ex.beq e e'&&known t' e' i fs))=true→(match ((e.den env (.lst t))[(i.den env .nat:Nat)]?).map (row t),((e'.den env (.lst t'))[(i.den env .nat:Nat)]?).map (row t') with
   | some x,some y=>AV.beqL x y
   | _,_=>false)=true:=fun {t t' e e'} h=>by
  obtain ⟨h1,h2⟩:=Qan h
  obtain ⟨h2,h3⟩:=Qan h2
  have e1:=QaT h1
  have e2:=QaH h2
  subst e1 e2
  obtain ⟨x,hx⟩:=QDx hf h3
  rw [hx]
  exact Qcp _
 split at h
 ·rename_i h1 h2; rw [h1,h2]; exact same h
 ·rename_i h1 h2; rw [h1,h2]; exact same h
 ·rename_i h1 h2; rw [h1,h2]; exact same h
 ·rename_i h1 h2
  rw [h1,h2]
  split at h
  ·rename_i j hj
   have:i=.nn j:=by
    unfold Qsn at hj
    split at hj
    ·simp only [osi] at hj; rw [hj]
    ·cases hj
   subst this
   split at h
   ·rename_i r r' hr hr'
    simp only [show ((Ex.nn j).den env .nat:Nat)=j from rfl,hr,hr',Option.map_some]
    rw [Qe0 h]
    exact Qcp _
   ·cases h
  ·cases h
 ·cases h
theorem Qvn {env:Env}{fs:List Fact}{H H':SH}{q:Nat×Nat×Option Ex}(hf:∀ f∈fs,Fact.holds m env f)(h:QnT fs H H' q=true):QgT (embH env H) (embH env H') (q.1,q.2.1,q.2.2.map fun i=>(i.den env .nat:Nat))=true:=by
 unfold QgT
 unfold QnT at h
 cases hq:q.2.2 with
 | some i=>
  rw [hq] at h
  exact Qzp hf h
 | none=>
  rw [hq] at h
  simp only [Option.map_none,QwP]
  exact h
variable {Q:Env→α→Prop}
theorem QtR (hs:Sound c rec tb m){n:Nat}{ops:Array Oper}{i:Nat}{w:List Nat}{env:Env}{t:STra}{K:STra→T α}(hi:Inv m env t.st)
  (hk:∀ env' t',Qa5 c rec n ops i w (t.emb env)=some (t'.emb env')→Qe5 m env t.st env' t'.st→Ok m (K t') env' Q):Ok m (QAM c tb n ops i w t K) env Q:=by
 unfold QAM
 split
 ·simp only [Ok]
 ·rename_i o ho
  refine QbR fun hb=>?_
  obtain ⟨b1,b2⟩:=Qan hb
  refine QtQ hs hi fun env' w' s' hw h1 e1=>?_
  simp only
  refine QbR fun hall=>hk env' _ ?_ e1
  have hH:embH env' t.st.H=embH env t.st.H:=(QiD e1.agr b2).symm
  have hrd:Qkh env' t.rd=Qkh env t.rd:=Qjw e1.agr b1
  have hfil:(Qkh env t.rd).filter (fun q=>w.contains q.1)=Qkh env' (t.rd.filter fun q=>w.contains q.1):=by
   rw [← hrd]
   simp only [Qkh,List.filter_map]
   rfl
  rw [Qy2,ho,Option.bind_some]
  have:(t.emb env).st=t.st.emb env:=rfl
  rw [this,h1,Option.bind_some]
  have h2:(t.emb env).rd=Qkh env t.rd:=rfl
  rw [h2,hfil,if_pos]
  ·rfl
  ·rw [List.all_eq_true] at hall ⊢
   intro q hq
   simp only [Qkh,List.mem_map] at hq
   obtain ⟨p,hp,rfl⟩:=hq
   have:=Qvn (m:=m) (env:=env') e1.inv (hall p hp)
   rw [hH] at this
   exact this
theorem Qvo {mm:Nat}{env:Env}{s:SS}{K:SS→T α}(hi:Inv m env s)
  (hk:∀ s',(∀ {β:Type} (k:St→Option β),(s.emb env).canon mm k=k (s'.emb env))→Qe5 m env s env s'→Ok m (K s') env Q):Ok m (QxR mm s K) env Q:=by
 unfold QxR
 refine Qau fun s' hs'=>hk s' (fun k=>(Qm4 hs' k).1) ?_
 obtain ⟨_,h1,h2⟩:=Qm4 (env:=env) hs' (fun s=>some s)
 exact ⟨fun f hf=>hi f (by rw [← h2]; exact hf),by rw [h1]; exact Nat.le_refl _,Agree.refl⟩
theorem QEZ {a b:SS}(h:beqS a b=true)(env:Env):b.emb env=a.emb env:=by
 obtain ⟨h1,h2⟩:=Qan h
 unfold SS.emb
 rw [Qmf h1,QnY h2]
theorem QsE {n mm k:Nat}{ops:Array Oper}{run:List Nat→Nat→Plan→STra→(SS→T α)→T α}{t:STra}{c1:SS}{C:St}{T0:Tra}
  (hrun:∀ w i p env (t:STra) K,Inv m env t.st→(∀ env' s',((Qa5 c rec n ops i w (t.emb env)).bind fun u=>Qbj c rec mm n ops k p u)=some (s'.emb env')→Qe5 m env t.st env' s'→Ok m (K s') env' Q)→Ok m (run w i p t K) env Q):
  ∀ (r:List (Nat×List Nat×Plan)) (now:SS) (env:Env) (K:SS→T α),Inv m env now→c1.emb env=C→t.emb env=T0→
  (∀ env' s',r.all (Qij c rec mm n ops k T0 C)=true→s'.emb env'=C→Inv m env' s'→now.nx≤s'.nx→Agree now.nx env env'→Ok m (K s') env' Q)→Ok m (Qtv run mm t c1 r now K) env Q
 | [],now,env,K,hi,hC,hT,hk=>hk env _ rfl hC hi (Nat.le_refl _) Agree.refl
 | (i,w,p)::r,now,env,K,hi,hC,hT,hk=>by
  unfold Qtv
  refine QbR fun hb=>?_
  obtain ⟨b1,b2⟩:=Qan hb
  obtain ⟨b2,b3⟩:=Qan b2
  unfold QxS at b3
  obtain ⟨b3,b4⟩:=Qan b3
  obtain ⟨b4,b5⟩:=Qan b4
  refine hrun w i p env _ _ hi fun env1 s1 h1 e1=>Qvo e1.inv fun s2 h2 e2=>QbR fun hbe=>?_
  have hag:Agree now.nx env env1:=e1.agr
  have hC1:c1.emb env1=C:=by
   rw [← hC]
   unfold SS.emb
   rw [Qlw hag b1,QiD hag b2]
  have hT1:t.emb env1=T0:=by
   rw [← hT]
   unfold STra.emb SS.emb
   rw [Qlw hag b3,QiD hag b4,Qjw hag b5]
  refine QsE hrun r s2 env1 K e2.inv hC1 hT1 fun env' s' hall hs' hi' hn ha=>?_
  refine hk env' s' ?_ hs' hi' (Nat.le_trans (Nat.le_trans e1.nx e2.nx) hn) (hag.trans ha (Nat.le_trans e1.nx e2.nx))
  rw [List.all_cons,hall,Bool.and_true,QAW]
  have h1':((Qa5 c rec n ops i w T0).bind fun u=>Qbj c rec mm n ops k p u)=some (s1.emb env1):=by rw [← hT]; exact h1
  cases hfk:Qa5 c rec n ops i w T0 with
  | none=>rw [hfk] at h1'; simp at h1'
  | some u=>
   rw [hfk,Option.bind_some] at h1'
   simp only [Option.bind_some]
   rw [h1',Option.bind_some,h2,QDa,QEZ hbe,hC1,← hC1]
   exact QwZ env1 c1
theorem Qna (hs:Sound c rec tb m){mm n:Nat}{ops:Array Oper}:∀ (k:Nat) (p:Plan) (env:Env) (t:STra) (K:SS→T α),Inv m env t.st→
  (∀ env' s',Qbj c rec mm n ops k p (t.emb env)=some (s'.emb env')→Qe5 m env t.st env' s'→Ok m (K s') env' Q)→Ok m (Qpa c tb mm n ops k p t K) env Q
 | 0,p,env,t,K,hi,hk=>by simp only [Qpa,Ok]
 | k+1,.done,env,t,K,hi,hk=>by
  simp only [Qpa]
  exact hk env t.st rfl (.refl hi)
 | k+1,.take i p,env,t,K,hi,hk=>by
  simp only [Qpa]
  split
  ·simp only [Ok]
  ·rename_i o ho
   refine QbR fun hb=>QtQ hs hi fun env1 w s1 hw h1 e1=>?_
   refine Qna hs k p env1 _ K e1.inv fun env' s' h2 e2=>hk env' s' ?_ (e1.trans e2)
   rw [Qy1,ho,Option.bind_some]
   have hst:(t.emb env).st=t.st.emb env:=rfl
   have hfr:(t.st.emb env).fr=embF env t.st.fr:=rfl
   rw [hst,hfr,hw,Option.bind_some,h1,Option.bind_some]
   rw [← h2]
   congr 1
   unfold STra.emb
   congr 1
   have hrd:=Qjw e1.agr hb
   cases w with
   | true=>
    simp only [if_true]
    rw [hrd,QqG,← Qzo]
    try rfl
   | false=>
    simp only [if_neg (show ¬ (false=true) by simp)]
    rw [QqG,QqG] at hrd
    have hl:(Qkh env1 (QuW i o t.st.fr)).length=(Qkh env (QuW i o t.st.fr)).length:=by simp [Qkh]
    exact ((List.append_inj hrd hl).2).symm
 | k+1,.fork [],env,t,K,hi,hk=>by simp only [Qpa,Ok]
 | k+1,.fork [(i,w,p)],env,t,K,hi,hk=>by
  simp only [Qpa]
  refine QtR hs hi fun env1 t1 h1 e1=>Qna hs k p env1 t1 K e1.inv fun env' s' h2 e2=>hk env' s' ?_ (e1.trans e2)
  rw [QEK,h1,Option.bind_some,h2]
 | k+1,.fork ((i,w,p)::q::r),env,t,K,hi,hk=>by
  simp only [Qpa]
  refine QbR fun hb=>QtR hs hi fun env1 t1 h1 e1=>Qna hs k p env1 t1 _ e1.inv fun env2 s2 h2 e2=>Qvo e2.inv fun s3 h3 e3=>?_
  have e12:=e1.trans e2
  have hT:t.emb env2=t.emb env:=by
   unfold QxS at hb
   obtain ⟨b1,b2⟩:=Qan hb
   obtain ⟨b2,b3⟩:=Qan b2
   unfold STra.emb SS.emb
   rw [Qlw e12.agr b1,QiD e12.agr b2,Qjw e12.agr b3]
  refine QsE (c:=c) (rec:=rec) (n:=n) (k:=k) (ops:=ops) (C:=s3.emb env2) (T0:=t.emb env) (fun w i p env t K hi hk=>?_) (q::r) s3 env2 K e3.inv rfl hT fun env' s' hall hC hi' hn ha=>?_
  ·refine QtR hs hi fun env1 t1 h1 e1=>Qna hs k p env1 t1 K e1.inv fun env' s' h2 e2=>hk env' s' ?_ (e1.trans e2)
   rw [h1,Option.bind_some,h2]
  ·refine hk env' s' ?_ ((e12.trans e3).trans ⟨hi',hn,ha⟩)
   rw [QEL,h1,Option.bind_some,h2,Option.bind_some,h3,if_pos hall,hC]
end
end Go.Sy
noncomputable section
namespace Go.Sy
open Go Go.Ev
def Qdj (d:Nat):Fr→Prop
 | []=>True
 | p::r=>d<p.1∧Qdj d r
def Srt:Fr→Prop
 | []=>True
 | p::r=>Qdj p.1 r∧Srt r
theorem QhG {d e:Nat}(h:e<d):∀ {fr:Fr},Qdj d fr→Qdj e fr
 | [],_=>trivial
 | p::r,hk=>⟨Nat.lt_trans h hk.1,QhG h hk.2⟩
theorem QfO {d M:Nat}:∀ {fr:Fr},Qdj d fr→Qdj d (fr.sift M)
 | [],_=>trivial
 | p::r,hk=>by
  rw [Fr.QbG]
  cases tb M p.1 with
  | true=>exact ⟨hk.1,QfO hk.2⟩
  | false=>exact QfO hk.2
theorem QtS {M:Nat}:∀ {fr:Fr},Srt fr→Srt (fr.sift M)
 | [],_=>trivial
 | p::r,hk=>by
  rw [Fr.QbG]
  cases tb M p.1 with
  | true=>exact ⟨QfO hk.1,QtS hk.2⟩
  | false=>exact QtS hk.2
theorem QBF {d:Nat}{v:AV}:∀ {fr:Fr},Qdj d fr→fr.set d v=(d,v)::fr
 | [],_=>rfl
 | p::r,hk=>by
  rw [Fr.QeT]
  have h1:Nat.beq p.1 d=false:=by
   cases hb:Nat.beq p.1 d with
   | false=>rfl
   | true=>have:=Nat.eq_of_beq_eq_true hb; have:=hk.1; omega
  have h2:Nat.blt d p.1=true:=by simpa [Nat.blt_eq] using hk.1
  rw [h1,h2]
theorem Qnb {d e:Nat}{v:AV}(h:e<d):∀ {fr:Fr},Qdj e fr→Qdj e (fr.set d v)
 | [],_=>⟨h,trivial⟩
 | p::r,hk=>by
  rw [Fr.QeT]
  cases Nat.beq p.1 d with
  | true=>exact ⟨h,hk.2⟩
  | false=>
   cases Nat.blt d p.1 with
   | true=>exact ⟨h,hk⟩
   | false=>exact ⟨hk.1,Qnb h hk.2⟩
theorem Qw0 {d:Nat}{v:AV}:∀ {fr:Fr},Srt fr→Srt (fr.set d v)
 | [],_=>⟨trivial,trivial⟩
 | p::r,hk=>by
  rw [Fr.QeT]
  cases hb:Nat.beq p.1 d with
  | true=>
   have:=Nat.eq_of_beq_eq_true hb
   exact ⟨this▸hk.1,hk.2⟩
  | false=>
   cases hl:Nat.blt d p.1 with
   | true=>
    have hlt:d<p.1:=by simpa [Nat.blt_eq] using hl
    exact ⟨⟨hlt,QhG hlt hk.1⟩,hk⟩
   | false=>
    have h1:¬ d<p.1:=fun h=>by
     have:Nat.blt d p.1=true:=by simpa [Nat.blt_eq] using h
     rw [this] at hl
     cases hl
    have h2:p.1≠d:=fun h=>by
     rw [h] at hb
     have:Nat.beq d d=true:=by simp
     rw [this] at hb
     cases hb
    exact ⟨Qnb (by omega) hk.1,Qw0 hk.2⟩
theorem QtT {d M:Nat}{v:AV}:∀ {fr:Fr},Srt fr→(fr.set d v).sift M=(match tb M d with |true=>(fr.sift M).set d v |false=>fr.sift M)
 | [],_=>by
  rw [Fr.set_nil,Fr.QbG,Fr.QsZ]
  cases tb M d<;>rfl
 | p::r,hk=>by
  rw [Fr.QeT]
  cases hb:Nat.beq p.1 d with
  | true=>
   have he:=Nat.eq_of_beq_eq_true hb
   show Fr.sift M ((d,v)::r)=_
   rw [Fr.QbG,Fr.QbG,he]
   cases tb M d with
   | true=>
    show (d,v)::Fr.sift M r=Fr.set (p::Fr.sift M r) d v
    rw [Fr.QeT,hb]
   | false=>rfl
  | false=>
   cases hl:Nat.blt d p.1 with
   | true=>
    have hlt:d<p.1:=by simpa [Nat.blt_eq] using hl
    show Fr.sift M ((d,v)::p::r)=_
    rw [Fr.QbG]
    have ha:Qdj d (p::r):=⟨hlt,QhG hlt hk.1⟩
    cases tb M d with
    | true=>
     show (d,v)::Fr.sift M (p::r)=Fr.set (Fr.sift M (p::r)) d v
     rw [QBF (QfO ha)]
    | false=>rfl
   | false=>
    show Fr.sift M (p::Fr.set r d v)=_
    rw [Fr.QbG,Fr.QbG]
    have ih:=QtT (d:=d) (M:=M) (v:=v) hk.2
    cases hp:tb M p.1 with
    | true=>
     show p::Fr.sift M (Fr.set r d v)=_
     rw [ih]
     cases tb M d with
     | true=>
      show p::Fr.set (Fr.sift M r) d v=Fr.set (p::Fr.sift M r) d v
      rw [Fr.QeT,hb,hl]
     | false=>rfl
    | false=>
     show Fr.sift M (Fr.set r d v)=_
     rw [ih]
theorem Qpx {d M:Nat}(h:tb M d=true):∀ (fr:Fr),(fr.sift M).get d=fr.get d
 | []=>rfl
 | p::r=>by
  rw [Fr.QbG]
  cases hp:tb M p.1 with
  | true=>
   show Fr.get (p::Fr.sift M r) d=_
   rw [Fr.QbO,Fr.QbO,Qpx h r]
  | false=>
   show Fr.get (Fr.sift M r) d=_
   rw [Fr.QbO,Qpx h r]
   cases hb:Nat.beq p.1 d with
   | false=>rfl
   | true=>
    have:=Nat.eq_of_beq_eq_true hb
    rw [this,h] at hp
    cases hp
theorem QiL {M K:Nat}(h:∀ i,tb K i=true→tb M i=true):∀ (fr:Fr),(fr.sift M).sift K=fr.sift K
 | []=>rfl
 | p::r=>by
  rw [Fr.QbG,Fr.QbG]
  cases hk:tb K p.1 with
  | true=>
   rw [h _ hk]
   show Fr.sift K (p::Fr.sift M r)=p::Fr.sift K r
   rw [Fr.QbG,hk,QiL h r]
  | false=>
   cases tb M p.1 with
   | true=>
    show Fr.sift K (p::Fr.sift M r)=Fr.sift K r
    rw [Fr.QbG,hk,QiL h r]
   | false=>exact QiL h r
theorem QqH {fr fr':Fr}{l:List Operand}(h:∀ x∈l,opv fr x=opv fr' x):l.map (opv fr)=l.map (opv fr'):=List.map_congr_left h
theorem QlB {fr fr':Fr}{l:Option Operand}(h:∀ x∈l.toList,opv fr x=opv fr' x):l.map (opv fr)=l.map (opv fr'):=by
 cases l with
 | none=>rfl
 | some x=>simp only [Option.map_some,h x (by simp)]
theorem Qzq (c:Ctx)(rec:Task→Option Res)(o:Oper)(fr fr':Fr)(H:Heap)(h:∀ x∈Qtx o.op,opv fr x=opv fr' x):evOp c rec o fr H=evOp c rec o fr' H:=by
 unfold evOp
 cases ho:o.op<;>rw [ho] at h<;>simp only [Qtx] at h ⊢
 case move x=>rw [h x (by simp)]
 case assign x=>rw [h x (by simp)]
 case pick p a b=>rw [h p (by simp),h a (by simp),h b (by simp)]
 case box e x=>rw [h x (by simp)]
 case build t parts=>
  have:(parts.toList.map fun p=>(p.1,opv fr p.2))=parts.toList.map fun p=>(p.1,opv fr' p.2):=List.map_congr_left fun p hp=>by rw [h p.2 (List.mem_map.mpr ⟨p,hp,rfl⟩)]
  rw [this]
 case buildSlice t len parts=>
  have:(parts.toList.map fun p=>(p.1,opv fr p.2))=parts.toList.map fun p=>(p.1,opv fr' p.2):=List.map_congr_left fun p hp=>by rw [h p.2 (List.mem_map.mpr ⟨p,hp,rfl⟩)]
  rw [this]
 case load t a=>rw [h a (by simp)]
 case store t a v=>rw [h a (by simp),h v (by simp)]
 case nilCheck x=>rw [h x (by simp)]
 case binOp op t x y k=>rw [h x (by simp),h y (by simp)]
 case unOp op t x=>rw [h x (by simp)]
 case convert s d x=>rw [h x (by simp)]
 case makeInterface t x=>rw [h x (by simp)]
 case makeFunc fn first caps=>rw [QqH h]
 case makeMap t r=>rw [QlB h]
 case makeSlice t l cp=>rw [h l (by simp),h cp (by simp)]
 case slice t x lo hi mx=>rw [h x (by simp),QlB (l:=lo) fun y hy=>h y (by simp only [List.mem_cons,List.mem_append]; exact .inr (.inl hy)),QlB (l:=hi) fun y hy=>h y (by simp only [List.mem_cons,List.mem_append]; exact .inr (.inr (.inl hy))),QlB (l:=mx) fun y hy=>h y (by simp only [List.mem_cons,List.mem_append]; exact .inr (.inr (.inr hy)))]
 case fieldAddr t x f=>rw [h x (by simp)]
 case field t x f=>rw [h x (by simp)]
 case indexAddr t x ix=>rw [h x (by simp),h ix (by simp)]
 case index t x ix=>rw [h x (by simp),h ix (by simp)]
 case lookup t x ix ok=>rw [h x (by simp),h ix (by simp)]
 case mapUpdate t m k v=>rw [h m (by simp),h k (by simp),h v (by simp)]
 case insert t m k v=>rw [h m (by simp),h k (by simp),h v (by simp)]
 case extract t i=>rw [h t (by simp)]
 case call cl=>
  unfold Qjj
  cases hc:cl.callee with
  | value f=>
   rw [hc] at h
   simp only
   rw [h f (by simp),QqH fun x hx=>h x (by simp only [List.mem_append]; exact .inr hx)]
  | builtin b=>
   rw [hc] at h
   simp only
   rw [QqH fun x hx=>h x (by simp only [List.mem_append]; exact .inr hx)]
  | _=>rfl
def FrM (M:Nat)(fr fr':Fr):Prop:=Srt fr∧Srt fr'∧fr.sift M=fr'.sift M
theorem FrM.get {M:Nat}{fr fr':Fr}(h:FrM M fr fr'){d:Nat}(hd:tb M d=true):fr.get d=fr'.get d:=by
 rw [← Qpx hd fr,← Qpx hd fr',h.2.2]
theorem FrM.set {M:Nat}{fr fr':Fr}(h:FrM M fr fr')(d:Nat)(v:AV):FrM M (fr.set d v) (fr'.set d v):=by
 refine ⟨Qw0 h.1,Qw0 h.2.1,?_⟩
 rw [QtT h.1,QtT h.2.1,h.2.2]
theorem FrM.put {M:Nat}{fr fr':Fr}(h:FrM M fr fr')(d:Option Tmp)(v:AV):FrM M (fr.put d v) (fr'.put d v):=by
 cases d with
 | none=>exact h
 | some d=>exact h.set d v
theorem FrM.opv {M:Nat}{fr fr':Fr}(h:FrM M fr fr'){x:Operand}(hx:QD7 M x=true):Ev.opv fr x=Ev.opv fr' x:=by
 cases x with
 | tmp t=>exact h.get hx
 | _=>rfl
def StO (M:Nat):Option St→Option St→Prop
 | none,none=>True
 | some s,some t=>s.H=t.H∧FrM M s.fr t.fr
 | _,_=>False
theorem Qw1 (c:Ctx)(rec:Task→Option Res)(n:Nat)(ops:Array Oper){M:Nat}{o:Oper}(ho:QuX M ops o=true){fr fr':Fr}(H:Heap)(h:FrM M fr fr'):
  StO M (Qce c rec n ops o ⟨fr,H⟩) (Qce c rec n ops o ⟨fr',H⟩):=by
 unfold QuX at ho
 obtain ⟨h1,h2⟩:=Qan ho
 have hop:evOp c rec o fr H=evOp c rec o fr' H:=Qzq c rec o fr fr' H fun x hx=>h.opv (List.all_eq_true.mp h1 x hx)
 have hw:Qa4 ops o fr=Qa4 ops o fr':=by
  unfold Qa4
  cases hg:o.guard with
  | none=>rfl
  | some g=>
   obtain ⟨j,want⟩:=g
   rw [hg] at h2
   simp only at h2 ⊢
   cases hd:(ops[j]?).bind (·.dst) with
   | none=>rfl
   | some d=>
    rw [hd] at h2
    simp only at h2 ⊢
    rw [h.get h2]
 unfold Qce
 cases QrD n o.dst with
 | false=>exact trivial
 | true=>
  simp only
  rw [hw]
  cases Qa4 ops o fr' with
  | none=>exact trivial
  | some b=>
   cases b with
   | false=>exact ⟨rfl,h.put _ _⟩
   | true=>
    simp only
    unfold evDo
    simp only
    rw [hop]
    cases evOp c rec o fr' H with
    | none=>exact trivial
    | some r=>
     obtain ⟨v,H1⟩:=r
     simp only [QsY,Fr.Qv3]
     exact ⟨rfl,h.put _ _⟩
theorem QqI (c:Ctx)(rec:Task→Option Res)(n:Nat)(ops:Array Oper){M:Nat}:∀ (l:List Oper),(l.all (QuX M ops))=true→∀ (fr fr':Fr) (H:Heap),FrM M fr fr'→
  StO M (QbU c rec n ops l ⟨fr,H⟩) (QbU c rec n ops l ⟨fr',H⟩)
 | [],_,fr,fr',H,h=>⟨rfl,h⟩
 | o::l,ha,fr,fr',H,h=>by
  rw [List.all_cons] at ha
  obtain ⟨h1,h2⟩:=Qan ha
  rw [QfH,QfH]
  have:=Qw1 c rec n ops h1 H h
  unfold QrE
  cases hs:Qce c rec n ops o ⟨fr,H⟩ with
  | none=>
   rw [hs] at this
   cases ht:Qce c rec n ops o ⟨fr',H⟩ with
   | none=>exact trivial
   | some t=>rw [ht] at this; exact this.elim
  | some s=>
   rw [hs] at this
   cases ht:Qce c rec n ops o ⟨fr',H⟩ with
   | none=>rw [ht] at this; exact this.elim
   | some t=>
    rw [ht] at this
    obtain ⟨e1,e2⟩:=this
    obtain ⟨fr1,H1⟩:=s
    obtain ⟨fr2,H2⟩:=t
    simp only at e1 e2
    subst e1
    exact QqI c rec n ops l h2 fr1 fr2 H1 e2
theorem QsF {K M:Nat}(h:Qwt K M=true)(i:Nat)(hi:tb K i=true):tb M i=true:=by
 have he:K &&& M=K:=Nat.eq_of_beq_eq_true h
 have t:∀ m:Nat,tb m i=m.testBit i:=fun m=>by
  rw [QHl,Nat.and_one_is_mod]
  simp only [Nat.testBit,Nat.one_and_eq_mod_two]
  rcases Nat.mod_two_eq_zero_or_one (m >>> i) with h |h<;>rw [h]<;>rfl
 rw [t] at hi ⊢
 rw [← he,Nat.testBit_and] at hi
 exact (Qan hi).2
theorem Qw2 (c:Ctx)(rec:Task→Option Res)(n:Nat)(ops:Array Oper){M K:Nat}(hK:K≠0)(hsub:Qwt K M=true)(l:List Oper)(hl:(l.all (QuX M ops))=true)(fr:Fr)(hs:Srt fr)(H:Heap):
  ((QbU c rec n ops l ⟨fr,H⟩).map fun s=>(⟨s.fr.only K,s.H⟩:St))=(QbU c rec n ops l ⟨fr.sift M,H⟩).map fun s=>(⟨s.fr.only K,s.H⟩:St):=by
 have:=QqI c rec n ops l hl fr (fr.sift M) H ⟨hs,QtS hs,(QiL (fun _ h=>h) fr).symm⟩
 have ho:∀ f:Fr,f.only K=f.sift K:=fun f=>by
  unfold Fr.only
  have:Nat.beq K 0=false:=by cases K with |zero=>exact absurd rfl hK |succ k=>rfl
  rw [this]
 cases h1:QbU c rec n ops l ⟨fr,H⟩ with
 | none=>
  rw [h1] at this
  cases h2:QbU c rec n ops l ⟨fr.sift M,H⟩ with
  | none=>rfl
  | some t=>rw [h2] at this; exact this.elim
 | some s=>
  rw [h1] at this
  cases h2:QbU c rec n ops l ⟨fr.sift M,H⟩ with
  | none=>rw [h2] at this; exact this.elim
  | some t=>
   rw [h2] at this
   obtain ⟨e1,e2⟩:=this
   simp only [Option.map_some,ho]
   rw [e1,← QiL (QsF hsub) s.fr,e2.2.2,QiL (QsF hsub)]
end Go.Sy
end
