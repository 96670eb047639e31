/- Symbolic runs: the operations on memory. -/
import Derived.Test.YtkecfadnfnnfaaaGreatDoorSyH
set_option linter.unusedVariables false
set_option linter.unusedSimpArgs false
namespace Go.Sy
open Go Go.Ev
section
variable {P:Nat→List Ty} {O:Nat→List (List Ty)} {m:(f:Nat)→Pr (P f)→Option (Sm (O f))} {α:Type}
variable {c:Ctx}
def Next (m:(f:Nat)→Pr (P f)→Option (Sm (O f)))(res:Option (AV×Heap))(env:Env)(s:SS)(K:SV→SS→T α)(Q:Env→α→Prop):Prop:=
 ∀ env' v s',res=some (v.emb env',embH env' s'.H)→Ext m env s env' s'→Ok m (K v s') env' Q
variable {env:Env} {s:SS} {K:SV→SS→T α} {Q:Env→α→Prop}
theorem Next.pure {o:Option AV}(hi:Inv m env s)(hk:Next m (okV (embH env s.H) o) env s K Q){v:SV}(h:o=some (v.emb env)):Ok m (K v s) env Q:=
 hk env v s (by rw [h]; rfl) (ExtH.refl hi).toExt
theorem Next.later {res:Option (AV×Heap)}{s1:SS}(hk:Next m res env s K Q)(e1:ExtH m env s env s1):Next m res env s1 K Q:=
 fun env' v s' h e=>hk env' v s' h (e1.toExt.trans e)
theorem Next.same {res:Option (AV×Heap)}(hk:Next m res env s K Q){env':Env}{s1:SS}(e1:ExtH m env s env' s1){v:SV}(h:res=some (v.emb env',embH env s.H)):Ok m (K v s1) env' Q:=
 hk env' v s1 (by rw [h,e1.H,e1.emH]) e1.toExt
theorem Qvj (env:Env)(k:IntKind)(a b:Ex):(ltE k a b).den env .bool=decide (a.den env (.int k)<b.den env (.int k)):=Qvg env .lss k a b
theorem QmV (env:Env)(k:IntKind)(a b:Ex):(eqE k a b).den env .bool=decide (a.den env (.int k)=b.den env (.int k)):=Qvg env .eql k a b
theorem Qlb (env:Env)(k:IntKind)(a b:Ex):(leE k a b).den env .bool=decide (a.den env (.int k)≤b.den env (.int k)):=by
 unfold leE
 rw [QfF,Qvg]
 show (!decide (b.den env (.int k)<a.den env (.int k)))=_
 rw [Bool.eq_iff_iff]
 simp
theorem QAf (k:IntKind):decide (k=k)=true:=by simp
theorem QtH {op:BinOp}(h:op=.and∨op=.or∨op=.xor∨op=.andNot)(k:IntKind)(x y:Int):intBits op k x y=some ((intBits op k x y).getD 0):=by
 rcases h with rfl |rfl |rfl |rfl<;>rfl
theorem Qx7 {op:BinOp}{k:IntKind}{a b g:Ex}{v:SV}(env:Env)(h:QuW op k a b=some (v,g))(hg:g.den env .bool=true):
  QfT op k (a.den env (.int k)) (b.den env (.int k))=some (v.emb env):=by
 have ar:∀ o,(SV.ii k (mk2 (.arith o k) a b)).emb env=.int k (arI o k (a.den env (.int k)) (b.den env (.int k))):=fun o=>by simp only [SV.emb,Qz6]
 have bits:∀ o,(o=.and∨o=.or∨o=.xor∨o=.andNot)→(match intBits o k (a.den env (.int k)) (b.den env (.int k)) with |some r=>some (AV.int k r) |none=>none)=some ((SV.ii k (mk2 (.arith o k) a b)).emb env):=fun o ho=>by
  rw [ar,QtH ho]
  rcases ho with rfl |rfl |rfl |rfl<;>rfl
 cases op<;>simp only [QuW,Option.some.injEq,Prod.mk.injEq,reduceCtorEq] at h<;>obtain ⟨rfl,rfl⟩:=h
 ·rw [ar]; rfl
 ·rw [ar]; rfl
 ·rw [ar]; rfl
 ·rw [ar,QGM]
  rw [QfF,QmV,Bool.not_eq_true',decide_eq_false_iff_not] at hg
  rw [if_neg (show ¬ (b.den env (.int k):Int)=0 from hg)]
  rfl
 ·rw [ar,QGN]
  rw [QfF,QmV,Bool.not_eq_true',decide_eq_false_iff_not] at hg
  rw [if_neg (show ¬ (b.den env (.int k):Int)=0 from hg)]
  rfl
 ·exact bits .and (by simp)
 ·exact bits .or (by simp)
 ·exact bits .xor (by simp)
 ·exact bits .andNot (by simp)
 ·simp only [SV.emb,QmV,QfT,intCmp,Ev.Qf4]
 ·simp only [SV.emb,QfF,QmV,QfT,intCmp,Ev.Qf4]
 ·simp only [SV.emb,Qvj,QfT,intCmp,Ev.Qfx]
 ·simp only [SV.emb,Qlb,QfT,intCmp,Ev.Qfy]
 ·simp only [SV.emb,Qvj,QfT,intCmp,Ev.Qfx]
 ·simp only [SV.emb,Qlb,QfT,intCmp,Ev.Qfy]
theorem QlX (x y:List UInt8):(x==y)=decide (x=y):=by
 rw [Bool.eq_iff_iff]; simp
theorem Qx8 {op:BinOp}{a b g:Ex}{v:SV}(env:Env)(h:QuX op a b=some (v,g))(hg:g.den env .bool=true):
  QiI op (a.den env .str) (b.den env .str)=some (v.emb env):=by
 cases op<;>simp only [QuX,Option.some.injEq,Prod.mk.injEq,reduceCtorEq] at h<;>obtain ⟨rfl,rfl⟩:=h
 ·rw [Qju,Qid,Qoe,Qoe,decide_eq_true_eq] at hg
  rw [QCy,if_pos (show hd (a.den env .str)+hd (b.den env .str)≤9223372036854775807 from hg)]
  simp only [SV.emb,QEp]
 ·simp only [SV.emb,Qie,QiI,cmS,QlX]
 ·simp only [SV.emb,QfF,Qie,QiI,cmS,QlX]
 ·simp only [SV.emb,Qie,QiI,cmS]
 ·simp only [SV.emb,Qie,QiI,cmS,QlX]
 ·simp only [SV.emb,QfF,Qie,QiI,cmS,QlX]
 ·simp only [SV.emb,QfF,Qie,QiI,cmS]
theorem QAg {kt:TD}{x y:SV}{e:Ex}(env:Env)(h:Qzu kt x y=some e):QeC kt (x.emb env) (y.emb env)=some (e.den env .bool):=by
 cases kt<;>simp only [Qzu,reduceCtorEq] at h
 ·cases x<;>cases y<;>simp only [reduceCtorEq] at h
  rename_i k a j b
  split at h
  ·rename_i hk
   simp only [Option.some.injEq] at h
   subst h
   have:=QiL hk
   subst this
   simp only [SV.emb,QeC,QAf,decide_true,QmV,Ev.Qf4]
  ·cases h
 ·cases x<;>cases y<;>simp only [reduceCtorEq,Option.some.injEq] at h
  subst h
  simp only [SV.emb,QeC,Qz9]
 ·cases x<;>cases y<;>simp only [reduceCtorEq,Option.some.injEq] at h
  subst h
  simp only [SV.emb,QeC,Qie,cmS,QlX]
theorem QnB (env:Env):∀ {fs:List (Nat×TypeId)} {xs ys:List SV} {e:Ex},Qd9 c fs xs ys=some e→QfC c fs (SV.embL env xs) (SV.embL env ys)=some (e.den env .bool)
 | [],[],[],e,h=>by
  simp only [Qd9,Option.some.injEq] at h
  subst h
  rfl
 | p::fs,x::xs,y::ys,e,h=>by
  simp only [Qd9] at h
  split at h
  ·rename_i e1 e2 h1 h2
   simp only [Option.some.injEq] at h
   subst h
   simp only [SV.embL,QfC,QAg env h1,QnB env h2,QEo]
   cases (e1.den env .bool:Bool)<;>rfl
  ·cases h
 | [],[],_::_,_,h=>by simp [Qd9] at h
 | [],_::_,_,_,h=>by simp [Qd9] at h
 | _::_,[],_,_,h=>by simp [Qd9] at h
 | _::_,_::_,[],_,h=>by simp [Qd9] at h
theorem Qvk {env:Env}{a:Ex}(h:(nleE (natE 1) a).den env .bool=true):∃ n,(a.den env .nat:Nat)=n+1:=by
 rw [Qju,decide_eq_true_eq] at h
 have:(1:Nat)≤(a.den env .nat:Nat):=h
 obtain ⟨n,hn⟩:=Nat.exists_eq_add_of_le this
 exact ⟨n,by rw [hn,Nat.add_comm]⟩
theorem QDE {i:TI}{cst:Bool}{x y:SV}{e g:Ex}(env:Env)(h:eqS c i cst x y=some (e,g))(hg:g.den env .bool=true):
  eqAV c i cst (x.emb env) (y.emb env)=some (e.den env .bool):=by
 have lst:∀ {t:Ty} {l:Ex},(nleE (natE 1) (mk1 (.len t) l)).den env .bool=true→∃ a r,List.map (row t) (l.den env (.lst t))=a::r:=fun {t l} h=>by
  obtain ⟨n,hn⟩:=Qvk h
  rw [QbO] at hn
  cases hl:l.den env (.lst t) with
  | nil=>rw [hl] at hn; simp at hn
  | cons a r=>exact ⟨_,_,rfl⟩
 unfold eqS at h
 unfold eqAV
 cases hd:i.d<;>simp only [hd,reduceCtorEq] at h ⊢
 ·cases x<;>cases y<;>simp only [reduceCtorEq,Option.some.injEq,Prod.mk.injEq] at h
  obtain ⟨rfl,rfl⟩:=h
  simp only [SV.emb,Qz9]
 ·cases x<;>cases y<;>simp only [reduceCtorEq,Option.some.injEq,Prod.mk.injEq] at h<;>obtain ⟨rfl,rfl⟩:=h<;>rfl
 ·cases x<;>cases y<;>simp only [reduceCtorEq,Option.some.injEq,Prod.mk.injEq] at h<;>obtain ⟨rfl,rfl⟩:=h
  ·obtain ⟨a,r,hr⟩:=lst hg
   simp only [SV.emb,hr]
   rfl
  ·obtain ⟨a,r,hr⟩:=lst hg
   simp only [SV.emb,hr]
   rfl
  ·rfl
  ·obtain ⟨n,hn⟩:=Qvk hg
   simp only [SV.emb,hn]
   rfl
  ·obtain ⟨n,hn⟩:=Qvk hg
   simp only [SV.emb,hn]
   rfl
 ·cases x<;>cases y<;>simp only [reduceCtorEq,Option.some.injEq,Prod.mk.injEq] at h<;>obtain ⟨rfl,rfl⟩:=h<;>rfl
 ·cases x<;>cases y<;>simp only [reduceCtorEq] at h
  split at h
  ·rename_i hf
   split at h
   ·rename_i e' he
    simp only [Option.some.injEq,Prod.mk.injEq] at h
    obtain ⟨rfl,rfl⟩:=h
    simp only [SV.emb,hf,QnB env he]
   ·cases h
  ·cases h
 ·cases x<;>cases y<;>simp only [reduceCtorEq,Option.some.injEq,Prod.mk.injEq] at h<;>obtain ⟨rfl,rfl⟩:=h<;>rfl
 ·cases x<;>cases y<;>simp only [reduceCtorEq,Option.some.injEq,Prod.mk.injEq] at h
  ·cases cst with
   | true=>
    simp only [Option.some.injEq,Prod.mk.injEq] at h
    obtain ⟨rfl,rfl⟩:=h
    rfl
   | false=>cases h
  ·obtain ⟨rfl,rfl⟩:=h
   rfl
  ·obtain ⟨rfl,rfl⟩:=h
   rfl
theorem QAh {i:TI}{cst:Bool}{op:BinOp}{x y v:SV}{g:Ex}(env:Env)(h:Qwm c i cst op x y=some (v,g))(hg:g.den env .bool=true):
  binop c i cst op (x.emb env) (y.emb env)=some (v.emb env):=by
 by_cases h1:∃ k a j b,x=.ii k a∧y=.ii j b
 ·obtain ⟨k,a,j,b,rfl,rfl⟩:=h1
  unfold Qwm at h
  simp only at h
  split at h
  ·simp only [Option.some.injEq,Prod.mk.injEq] at h
   obtain ⟨rfl,rfl⟩:=h
   rw [Qlb,decide_eq_true_eq] at hg
   simp only [SV.emb]
   rw [QGO,if_neg (by simpa [Ex.den,QD5] using hg)]
   rfl
  ·simp only [Option.some.injEq,Prod.mk.injEq] at h
   obtain ⟨rfl,rfl⟩:=h
   rw [Qlb,decide_eq_true_eq] at hg
   simp only [SV.emb]
   rw [QGP,if_neg (by simpa [Ex.den,QD5] using hg)]
   rfl
  ·rename_i n1 n2
   cases hk:kEq k j with
   | false=>rw [hk] at h; cases h
   | true=>
    rw [hk] at h
    have:=QiL hk
    subst this
    have:=Qx7 env h hg
    rw [← this]
    cases op<;>first |exact absurd rfl n1 |exact absurd rfl n2 |(simp only [SV.emb,binop,QAf,decide_true])
 ·by_cases h2:∃ a b,x=.ss a∧y=.ss b
  ·obtain ⟨a,b,rfl,rfl⟩:=h2
   exact Qx8 env h hg
  ·unfold Qwm at h
   unfold binop
   split at h
   ·exact absurd ⟨_,_,_,_,rfl,rfl⟩ h1
   ·exact absurd ⟨_,_,rfl,rfl⟩ h2
   ·rename_i n1 n2
    split
    ·rename_i e1 e2
     cases x<;>cases y<;>simp only [SV.emb,reduceCtorEq] at e1 e2
     exact absurd ⟨_,_,_,_,rfl,rfl⟩ h1
    ·rename_i e1 e2
     cases x<;>cases y<;>simp only [SV.emb,reduceCtorEq] at e1 e2
     exact absurd ⟨_,_,rfl,rfl⟩ h2
    ·cases op<;>simp only [reduceCtorEq] at h ⊢
     ·split at h
      ·rename_i he
       simp only [Option.some.injEq,Prod.mk.injEq] at h
       obtain ⟨rfl,rfl⟩:=h
       rw [QDE env he hg]
       rfl
      ·cases h
     ·split at h
      ·rename_i he
       simp only [Option.some.injEq,Prod.mk.injEq] at h
       obtain ⟨rfl,rfl⟩:=h
       rw [QDE env he hg]
       simp only [SV.emb,QfF]
      ·cases h
theorem QCF {op:UnOp}{x v:SV}(env:Env)(h:QD8 op x=some v):unop op (x.emb env)=some (v.emb env):=by
 cases op<;>cases x<;>simp only [QD8,Option.some.injEq,reduceCtorEq] at h<;>subst h
 ·rfl
 ·rfl
 ·simp only [SV.emb,QfF,unop]
theorem QAi (env:Env)(j k:IntKind)(e:Ex):(QFl j k e).den env (.int k)=wr k (e.den env (.int j)):=by cases e<;>rfl
theorem Qvl {a i:TI}{x v:SV}(env:Env)(h:Qr0 a i x=some v):Qji a i (x.emb env)=some (v.emb env):=by
 unfold Qr0 at h
 unfold Qji
 cases ha:a.known with
 | false=>rw [ha] at h; cases h
 | true=>
  rw [ha] at h
  simp only at h ⊢
  cases hd:i.d<;>rw [hd] at h<;>cases x<;>simp only [reduceCtorEq,Option.some.injEq] at h<;>subst h
  ·simp only [SV.emb,QAi]
  ·rfl
end
end Go.Sy
namespace Go.Sy
open Go Go.Ev
theorem Qlc {γ:Type}{l:List γ}{n:Int}{x:γ}(h:at' l n=some x):0≤n∧n<(l.length:Int)∧atIdx n l.length=some n.toNat∧l[n.toNat]?=some x:=by
 unfold at' at h
 cases ha:atIdx n l.length with
 | none=>rw [ha] at h; simp at h
 | some i=>
  rw [ha,Option.bind_some] at h
  have ha':=ha
  unfold atIdx at ha'
  split at ha'
  ·rename_i hb
   simp only [Option.some.injEq] at ha'
   subst ha'
   rw [Ev.Qfy,Ev.Qfx] at hb
   simp only [Bool.and_eq_true,decide_eq_true_eq] at hb
   exact ⟨hb.1,hb.2,rfl,h⟩
  ·cases ha'
theorem QGT {γ:Type}{l:List γ}{n:Int}{x:γ}(h0:0≤n)(h:l[n.toNat]?=some x):at' l n=some x:=by
 have hl:n.toNat<l.length:=by
  rw [List.getElem?_eq_some_iff] at h
  exact h.1
 unfold at' atIdx
 rw [Ev.Qfy,Ev.Qfx,decide_eq_true h0,decide_eq_true (show n<(l.length:Int) by omega)]
 exact h
theorem Qsj {n:Int}{len:Nat}(h0:0≤n)(h1:n<(len:Int)):atIdx n len=some n.toNat:=by
 unfold atIdx
 rw [Ev.Qfy,Ev.Qfx,decide_eq_true h0,decide_eq_true h1]
 rfl
theorem QbQ {a b:Nat}(h:Nat.beq a b=true):a=b:=Nat.eq_of_beq_eq_true h
theorem Qoh (t:Ty)(l:List t.D){z:Nat}(h:Nat.beq t.size z=true):(List.map (row t) l).all (fun r=>Nat.beq r.length z)=true:=by
 simp only [List.all_map,List.all_eq_true,Function.comp_apply]
 intro x _
 rw [QcT]
 exact h
theorem QlY {c:Ctx}{e:TypeId}{t:Ty}(h:tyOf c e=some t):Nat.beq t.size (c.ty e).size=true:=by
 unfold tyOf at h
 split at h
 ·split at h
  ·rename_i hb
   simp only [Option.some.injEq] at h
   subst h
   exact hb
  ·cases h
 ·cases h
section
variable {P:Nat→List Ty} {O:Nat→List (List Ty)} {m:(f:Nat)→Pr (P f)→Option (Sm (O f))} {α:Type}
variable {c:Ctx}
variable {env:Env} {s:SS} {K:SV→SS→T α} {Q:Env→α→Prop}
theorem Qvm {t:Ty}{l i:Ex}{pend:List SV}{K:Ex→SS→T α}(hi:Inv m env s)
  (hk:∀ env' x s',(l.den env (.lst t))[(i.den env .nat:Nat)]?=some (x.den env' t)→at' (l.den env (.lst t)) ((asInt i).2.den env (.int (asInt i).1))=some (x.den env' t)→ExtH m env s env' s'→SV.embL env' pend=SV.embL env pend→
   (∀ u,l.den env' u=l.den env u)→(i.den env' .nat=i.den env .nat)→((asInt i).2.den env' (.int (asInt i).1)=(asInt i).2.den env (.int (asInt i).1))→Ok m (K x s') env' Q):Ok m (getN t l i pend s K) env Q:=by
 refine Qpo hi fun env' x s' ha e1 hp hl hidx=>?_
 have key:∀ env,(i.den env .nat:Nat)=Int.toNat ((asInt i).2.den env (.int (asInt i).1)):=fun env=>by
  unfold asInt
  split
  ·rfl
  ·simp only [Qhg,Int.toNat_natCast]
 obtain ⟨_,_,_,h4⟩:=Qlc ha
 refine hk env' x s' ?_ ha e1 hp hl ?_ (hidx _)
 ·rw [key env]; exact h4
 ·rw [key env,key env',hidx]
theorem Qgc (env:Env):∀ (cs:List SV) (o:Nat) (vs:List SV),setFrom (SV.embL env cs) o (SV.embL env vs)=SV.embL env (Qkf cs o vs)
 | cs,0,[]=>by cases cs<;>rfl
 | [],0,v::vs=>rfl
 | c::r,0,v::vs=>by
  show v.emb env::setFrom (SV.embL env r) 0 (SV.embL env vs)=_
  rw [Qgc env r 0 vs]
  rfl
 | [],o+1,vs=>by cases vs<;>rfl
 | c::r,o+1,vs=>by
  have:setFrom (SV.embL env (c::r)) (o+1) (SV.embL env vs)=c.emb env::setFrom (SV.embL env r) o (SV.embL env vs):=by cases vs<;>rfl
  rw [this,Qgc env r o vs]
  cases vs<;>rfl
theorem QmW (env:Env){place:Nat→Option (Nat×Nat)}:∀ {parts:List (Nat×SV)} {cells r:List SV},QmI place cells parts=some r→
  Qlu place (SV.embL env cells) (parts.map fun p=>(p.1,p.2.emb env))=some (SV.embL env r)
 | [],cells,r,h=>by
  simp only [QmI,Option.some.injEq] at h
  subst h
  rfl
 | (i,v)::rest,cells,r,h=>by
  simp only [QmI] at h
  simp only [List.map_cons,Qlu]
  split at h
  ·cases h
  ·rename_i off size hp
   rw [hp]
   simp only [Qap,Qf9,QeP,Qga,Qgc]
   split at h
   ·rename_i hb
    rw [hb]
    exact QmW env h
   ·cases h
theorem QAj (env:Env){i:TI}{parts:List (Nat×SV)}{v:SV}(h:Qzv c i parts=some v):Qoy c i (parts.map fun p=>(p.1,p.2.emb env))=some (v.emb env):=by
 unfold Qzv at h
 split at h
 ·cases h
 ·rename_i zero hz
  unfold Qoy
  rw [← Qog env hz]
  split at h
  ·rename_i hd
   rw [hd]
   simp only
   split at h
   ·rename_i hf
    simp only [Option.some.injEq] at h
    subst h
    rw [QmW env hf]
    rfl
   ·cases h
  ·rename_i hd
   rw [hd]
   simp only
   split at h
   ·rename_i hf
    simp only [Option.some.injEq] at h
    subst h
    rw [QmW env hf]
    rfl
   ·cases h
  ·cases h
theorem QCG (env:Env)(l:List SV):SV.embL env (l.map QFm)=(SV.embL env l).map lstZ:=by
 rw [QaX,QaX,List.map_map,List.map_map]
 exact List.map_congr_left fun v _=>by cases v<;>rfl
theorem QwI (env:Env){t:Ty}{e:TypeId}{z:Ex}(h:QCe c t e=some z):(c.ty e).zero.map lstZ=row t (z.den env t):=by
 unfold QCe at h
 split at h
 ·cases h
 ·rename_i zs hz
  rw [← Qog env hz,← QCG,QeQ env h]
theorem Qpt (env:Env)(t:Ty):∀ l:List Ex,(Qzw l).den env (.lst t)=l.map fun x=>x.den env t
 | []=>rfl
 | x::l=>by
  show x.den env t::(Qzw l).den env (.lst t)=_
  rw [Qpt env t l]
  rfl
theorem QnC {t:Ty}{size:Nat}{k:List Ex→SS→T α}:∀ {parts:List (Nat×SV)} {xs:List Ex} {s:SS},Inv m env s→
  (∀ ys s',Qd5 size (xs.map fun x=>row t (x.den env t)) (parts.map fun p=>(p.1,p.2.emb env)) (embH env s.H)=some (ys.map fun x=>row t (x.den env t),embH env s'.H)→ys.length=xs.length→Ext m env s env s'→Ok m (k ys s') env Q)→
  Ok m (QlJ t size xs parts s k) env Q
 | [],xs,s,hi,hk=>hk xs s rfl rfl (ExtH.refl hi).toExt
 | (i,v)::rest,xs,s,hi,hk=>by
  unfold QlJ
  refine Qq7 hi fun x s1 h1 e1=>?_
  refine Qbu fun hb=>Qas fun y hy=>?_
  refine QnC e1.inv fun ys s2 h2 hl e2=>hk ys s2 ?_ (by rw [hl,List.length_set]) (e1.trans e2)
  simp only [List.map_cons]
  rw [QxY,h1,Option.bind_some]
  simp only [Qf9,QeP,Qga,List.length_map,hb,if_true]
  rw [← h2,List.map_set,QeQ env hy]
theorem Qqu {i:TI}{len:Nat}{parts:List (Nat×SV)}(hi:Inv m env s)(hk:Next m (QdN c i len (parts.map fun p=>(p.1,p.2.emb env)) (embH env s.H)) env s K Q):
  Ok m (Qk5 c i len parts s K) env Q:=by
 unfold Qk5
 refine Qas fun e he=>Qas fun t ht=>Qas fun z hz=>Qbu fun hb=>?_
 refine QnC hi fun xs s1 h1 hl e1=>hk env _ _ ?_ (e1.setH _)
 rw [QtD,he,Option.bind_some,if_pos hb]
 rw [List.map_replicate] at h1
 rw [QwI env hz,h1,Option.bind_some]
 simp only [List.length_replicate] at hl
 simp only [List.length_map,hl,if_true,SV.emb,Qa6,Qdw,Ev.hd,tg]
 simp only [embH,List.map_cons,List.map_nil,SB.emb,Qpt,List.map_map,Function.comp_def]
 rfl
theorem QwJ {t:TypeId}{a:SV}(hi:Inv m env s)(hk:Next m (okV (embH env s.H) (QgO c t (embH env s.H) (a.emb env))) env s K Q):Ok m (loadT c t a s K) env Q:=by
 unfold loadT
 split
 ·rename_i b i o
  simp only [SV.emb,QzX,QEg,QbP] at hk
  split
  ·rename_i z u l hb
   refine Qvm hi fun env' x s' h1 h2 e1 hp hl hi1 hi2=>Qas fun v hv=>hk.same e1 ?_
   rw [hb]
   simp only [Option.map_some,Option.bind_some,SB.emb,List.getElem?_map,h1]
   rw [← Qec env',Qf8,QhB,hv]
   rfl
  ·rename_i z u l hb
   refine Qvm hi fun env' x s' h1 h2 e1 hp hl hi1 hi2=>Qas fun v hv=>hk.same e1 ?_
   rw [hb]
   simp only [Option.map_some,Option.bind_some,SB.emb,List.getElem?_map,h1]
   rw [← Qec env',Qf8,QhB,hv]
   rfl
  ·rename_i z tg es hb
   refine Qas fun j hj=>Qas fun r hr=>Qas fun v hv=>hk.same (ExtH.refl hi) ?_
   have:i=.nn j:=by
    unfold QqX at hj
    split at hj
    ·simp only [Option.some.injEq] at hj; rw [hj]
    ·cases hj
   subst this
   rw [hb]
   simp only [Option.map_some,Option.bind_some,SB.emb,List.getElem?_map,show ((Ex.nn j).den env .nat:Nat)=j from rfl,hr]
   rw [Qf8,QhB,hv]
   rfl
  ·simp only [Ok]
 ·rename_i cs
  refine Qas fun v hv=>hk.pure hi ?_
  show pack (c.ty t) (SV.embL env cs)=_
  rw [QhB,hv]
  rfl
 ·simp only [Ok]
theorem QAk {t:TypeId}{a v:SV}{K:SS→T α}(hi:Inv m env s)
  (hk:∀ env' s',Qjg c t (embH env s.H) (a.emb env) (v.emb env)=some (embH env' s'.H)→Ext m env s env' s'→Ok m (K s') env' Q):Ok m (storeT c t a v s K) env Q:=by
 unfold storeT
 split
 ·rename_i b i o
  simp only [SV.emb,QzY,QbP] at hk
  split
  ·rename_i z u l hb
   simp only [hb,Option.map_some,Option.bind_some,SB.emb] at hk
   refine Qq7 hi fun x s1 h1 e1=>?_
   split
   ·rename_i z' u' l' hb'
    refine Qvm e1.inv fun env' y s2 h2 h2' e2 hp hl hi1 hi2=>Qbu fun hc=>Qas fun w hw=>?_
    refine hk env' _ ?_ ?_
    ·rw [h1,Option.bind_some,QtC]
     simp only [QbP,hb',Option.map_some,Option.bind_some,SB.emb,List.getElem?_map,h2]
     simp only [Bool.and_eq_true] at hc
     obtain ⟨⟨⟨c1,c2⟩,c3⟩,c4⟩:=hc
     have hx:SV.embL env x.cells=SV.embL env' x.cells:=by
      have:[x.emb env']=[x.emb env]:=hp
      simp only [List.cons.injEq,and_true] at this
      rw [← Qf9,← Qf9,this]
     simp only [Qf9,QeP,Qga,QcT,c1,c2,c3,c4,Bool.and_self,if_true]
     rw [QgW,e2.H,e2.emH,hx,← Qec env',Qgc,QeQ env' hw]
     simp only [SB.emb]
     have hd:(mk3 .set l' i w).den env' (.lst u')=(l'.den env (.lst u')).set (i.den env .nat) (w.den env' u'):=by
      show ((l'.den env' (.lst u')).set (i.den env' .nat) (w.den env' u'))=_
      rw [hl,hi1]
     rw [hd,List.map_set]
    ·refine (e1.trans e2.toExt).QGS ?_ _
     intro f hf
     simp only [List.mem_cons] at hf
     rcases hf with rfl |hf
     ·simp only [Fact.holds]
      have hd:(mk3 .set l' i w).den env' (.lst u')=(l'.den env (.lst u')).set (i.den env .nat) (w.den env' u'):=by
       show ((l'.den env' (.lst u')).set (i.den env' .nat) (w.den env' u'))=_
       rw [hl,hi1]
      obtain ⟨g1,g2,g3,g4⟩:=Qlc h2'
      have key:(i.den env .nat:Nat)=Int.toNat ((asInt i).2.den env (.int (asInt i).1)):=by
       unfold asInt
       split
       ·rfl
       ·simp only [Qhg,Int.toNat_natCast]
      rw [hd,hi2]
      refine QGT g1 ?_
      rw [← key,List.getElem?_set]
      simp only [if_true]
      rw [if_pos]
      rw [key]
      omega
     ·exact e2.inv f hf
   ·simp only [Ok]
  ·rename_i z tg es hb
   simp only [hb,Option.map_some,Option.bind_some,SB.emb] at hk
   refine Qas fun p hp=>?_
   obtain ⟨cs,H⟩:=p
   simp only
   split
   ·rename_i z' tg' es' hb'
    refine Qas fun j hj=>Qas fun r hr=>Qbu fun hc=>?_
    have:i=.nn j:=by
     unfold QqX at hj
     split at hj
     ·simp only [Option.some.injEq] at hj; rw [hj]
     ·cases hj
    subst this
    refine hk env _ ?_ ((ExtH.refl hi).toExt.setH _)
    rw [Qf9,QfH hp,QtC]
    simp only [QbP,hb',Option.map_some,Option.bind_some,SB.emb,List.getElem?_map,show ((Ex.nn j).den env .nat:Nat)=j from rfl,hr]
    simp only [Bool.and_eq_true] at hc
    obtain ⟨⟨⟨c1,c2⟩,c3⟩,c4⟩:=hc
    simp only [QeP,Qga,c1,c2,c3,c4,Bool.and_self,if_true]
    rw [QgW,Qgc]
    simp only [SB.emb,List.map_set]
   ·simp only [Ok]
  ·simp only [Ok]
 ·simp only [Ok]
where
 dummy:True:=trivial
end
end Go.Sy
