/- Symbolic runs: the operations on memory. -/
import Derived.Test.YtkecfadnfnnfaaaGreatDoorSyH
set_option linter.unusedVariables false
set_option linter.unusedSimpArgs false
namespace Go.Sy
open Go Go.Ev
section
variable {P:Nat→List Ty} {O:Nat→List (List Ty)} {m:(f:Nat)→Pr (P f)→Option (Sm (O f))} {α:Type}
variable {c:Ctx}
def Next (m:(f:Nat)→Pr (P f)→Option (Sm (O f)))(res:Option (AV×Heap))(env:Env)(s:SS)(K:SV→SS→T α)(Q:Env→α→Prop):Prop:=
 ∀ env' v s',res=some (v.emb env',embH env' s'.H)→Ext m env s env' s'→Ok m (K v s') env' Q
variable {env:Env} {s:SS} {K:SV→SS→T α} {Q:Env→α→Prop}
theorem Next.pure {o:Option AV}(hi:Inv m env s)(hk:Next m (okV (embH env s.H) o) env s K Q){v:SV}(h:o=some (v.emb env)):Ok m (K v s) env Q:=
 hk env v s (by rw [h]; rfl) (ExtH.refl hi).toExt
theorem Next.later {res:Option (AV×Heap)}{s1:SS}(hk:Next m res env s K Q)(e1:ExtH m env s env s1):Next m res env s1 K Q:=
 fun env' v s' h e=>hk env' v s' h (e1.toExt.trans e)
theorem Next.same {res:Option (AV×Heap)}(hk:Next m res env s K Q){env':Env}{s1:SS}(e1:ExtH m env s env' s1){v:SV}(h:res=some (v.emb env',embH env s.H)):Ok m (K v s1) env' Q:=
 hk env' v s1 (by rw [h,e1.H,e1.emH]) e1.toExt
theorem QwL (env:Env)(k:IntKind)(a b:Ex):(ltE k a b).den env .bool=decide (a.den env (.int k)<b.den env (.int k)):=QwI env .lss k a b
theorem Qn1 (env:Env)(k:IntKind)(a b:Ex):(eqE k a b).den env .bool=decide (a.den env (.int k)=b.den env (.int k)):=QwI env .eql k a b
theorem QkS (env:Env)(k:IntKind)(a b:Ex):(leE k a b).den env .bool=decide (a.den env (.int k)≤b.den env (.int k)):=by
 unfold leE
 rw [Qgv,QwI]
 show (!decide (b.den env (.int k)<a.den env (.int k)))=_
 rw [Bool.eq_iff_iff]
 simp
theorem QBm (k:IntKind):decide (k=k)=true:=by simp
theorem Qva {op:BinOp}(h:op=.and∨op=.or∨op=.xor∨op=.andNot)(k:IntKind)(x y:Int):intBits op k x y=some ((intBits op k x y).getD 0):=by
 rcases h with rfl |rfl |rfl |rfl<;>rfl
theorem Qzh {op:BinOp}{k:IntKind}{a b g:Ex}{v:SV}(env:Env)(h:Qwo op k a b=some (v,g))(hg:g.den env .bool=true):
  QgO op k (a.den env (.int k)) (b.den env (.int k))=some (v.emb env):=by
 have ar:∀ o,(SV.ii k (mk2 (.arith o k) a b)).emb env=.int k (arI o k (a.den env (.int k)) (b.den env (.int k))):=fun o=>by simp only [SV.emb,QBd]
 have bits:∀ o,(o=.and∨o=.or∨o=.xor∨o=.andNot)→(match intBits o k (a.den env (.int k)) (b.den env (.int k)) with |some r=>some (AV.int k r) |none=>none)=some ((SV.ii k (mk2 (.arith o k) a b)).emb env):=fun o ho=>by
  rw [ar,Qva ho]
  rcases ho with rfl |rfl |rfl |rfl<;>rfl
 cases op<;>simp only [Qwo,osi,Prod.mk.injEq,reduceCtorEq] at h<;>obtain ⟨rfl,rfl⟩:=h
 ·rw [ar]; rfl
 ·rw [ar]; rfl
 ·rw [ar]; rfl
 ·rw [ar,QHh]
  rw [Qgv,Qn1,Bool.not_eq_true',decide_eq_false_iff_not] at hg
  rw [if_neg (show ¬ (b.den env (.int k):Int)=0 from hg)]
  rfl
 ·rw [ar,QHi]
  rw [Qgv,Qn1,Bool.not_eq_true',decide_eq_false_iff_not] at hg
  rw [if_neg (show ¬ (b.den env (.int k):Int)=0 from hg)]
  rfl
 ·exact bits .and (by simp)
 ·exact bits .or (by simp)
 ·exact bits .xor (by simp)
 ·exact bits .andNot (by simp)
 ·simp only [SV.emb,Qn1,QgO,intCmp,Ev.QgX]
 ·simp only [SV.emb,Qgv,Qn1,QgO,intCmp,Ev.QgX]
 ·simp only [SV.emb,QwL,QgO,intCmp,Ev.Qgi]
 ·simp only [SV.emb,QkS,QgO,intCmp,Ev.Qfu]
 ·simp only [SV.emb,QwL,QgO,intCmp,Ev.Qgi]
 ·simp only [SV.emb,QkS,QgO,intCmp,Ev.Qfu]
theorem Qm6 (x y:List UInt8):(x==y)=decide (x=y):=by
 rw [Bool.eq_iff_iff]; simp
theorem Qzi {op:BinOp}{a b g:Ex}{v:SV}(env:Env)(h:Qwp op a b=some (v,g))(hg:g.den env .bool=true):
  QjS op (a.den env .str) (b.den env .str)=some (v.emb env):=by
 cases op<;>simp only [Qwp,osi,Prod.mk.injEq,reduceCtorEq] at h<;>obtain ⟨rfl,rfl⟩:=h
 ·rw [Qjr,Qjq,Qpo,Qpo,decide_eq_true_eq] at hg
  rw [QDj,if_pos (show hd (a.den env .str)+hd (b.den env .str)≤9223372036854775807 from hg)]
  simp only [SV.emb,QEV]
 ·simp only [SV.emb,Qjs,QjS,cmS,Qm6]
 ·simp only [SV.emb,Qgv,Qjs,QjS,cmS,Qm6]
 ·simp only [SV.emb,Qjs,QjS,cmS]
 ·simp only [SV.emb,Qjs,QjS,cmS,Qm6]
 ·simp only [SV.emb,Qgv,Qjs,QjS,cmS,Qm6]
 ·simp only [SV.emb,Qgv,Qjs,QjS,cmS]
theorem QBn {kt:TD}{x y:SV}{e:Ex}(env:Env)(h:QAA kt x y=some e):Qfo kt (x.emb env) (y.emb env)=some (e.den env .bool):=by
 cases kt<;>simp only [QAA,reduceCtorEq] at h
 ·cases x<;>cases y<;>simp only [reduceCtorEq] at h
  rename_i k a j b
  split at h
  ·rename_i hk
   simp only [osi] at h
   subst h
   have:=QjV hk
   subst this
   simp only [SV.emb,Qfo,QBm,decide_true,Qn1,Ev.QgX]
  ·cases h
 ·cases x<;>cases y<;>simp only [reduceCtorEq,osi] at h
  subst h
  simp only [SV.emb,Qfo,QBg]
 ·cases x<;>cases y<;>simp only [reduceCtorEq,osi] at h
  subst h
  simp only [SV.emb,Qfo,Qjs,cmS,Qm6]
theorem QoR (env:Env):∀ {fs:List (Nat×TypeId)} {xs ys:List SV} {e:Ex},QeY c fs xs ys=some e→Qgr c fs (SV.embL env xs) (SV.embL env ys)=some (e.den env .bool)
 | [],[],[],e,h=>by
  simp only [QeY,osi] at h
  subst h
  rfl
 | p::fs,x::xs,y::ys,e,h=>by
  simp only [QeY] at h
  split at h
  ·rename_i e1 e2 h1 h2
   simp only [osi] at h
   subst h
   simp only [SV.embL,Qgr,QBn env h1,QoR env h2,QEU]
   cases (e1.den env .bool:Bool)<;>rfl
  ·cases h
 | [],[],_::_,_,h=>by simp [QeY] at h
 | [],_::_,_,_,h=>by simp [QeY] at h
 | _::_,[],_,_,h=>by simp [QeY] at h
 | _::_,_::_,[],_,h=>by simp [QeY] at h
theorem QwM {env:Env}{a:Ex}(h:(nleE (natE 1) a).den env .bool=true):∃ n,(a.den env .nat:Nat)=n+1:=by
 rw [Qjr,decide_eq_true_eq] at h
 have:(1:Nat)≤(a.den env .nat:Nat):=h
 obtain ⟨n,hn⟩:=Nat.exists_eq_add_of_le this
 exact ⟨n,by rw [hn,Nat.add_comm]⟩
theorem QEd {i:TI}{cst:Bool}{x y:SV}{e g:Ex}(env:Env)(h:eqS c i cst x y=some (e,g))(hg:g.den env .bool=true):
  eqAV c i cst (x.emb env) (y.emb env)=some (e.den env .bool):=by
 have lst:∀ {t:Ty} {l:Ex},(nleE (natE 1) (mk1 (.len t) l)).den env .bool=true→∃ a r,List.map (row t) (l.den env (.lst t))=a::r:=fun {t l} h=>by
  obtain ⟨n,hn⟩:=QwM h
  rw [Qb6] at hn
  cases hl:l.den env (.lst t) with
  | nil=>rw [hl] at hn; simp at hn
  | cons a r=>exact ⟨_,_,rfl⟩
 unfold eqS at h
 unfold eqAV
 cases hd:i.d<;>simp only [hd,reduceCtorEq] at h ⊢
 ·cases x<;>cases y<;>simp only [reduceCtorEq,osi,Prod.mk.injEq] at h
  obtain ⟨rfl,rfl⟩:=h
  simp only [SV.emb,QBg]
 ·cases x<;>cases y<;>simp only [reduceCtorEq,osi,Prod.mk.injEq] at h<;>obtain ⟨rfl,rfl⟩:=h<;>rfl
 ·cases x<;>cases y<;>simp only [reduceCtorEq,osi,Prod.mk.injEq] at h<;>obtain ⟨rfl,rfl⟩:=h
  ·obtain ⟨a,r,hr⟩:=lst hg
   simp only [SV.emb,hr]
   rfl
  ·obtain ⟨a,r,hr⟩:=lst hg
   simp only [SV.emb,hr]
   rfl
  ·rfl
  ·obtain ⟨n,hn⟩:=QwM hg
   simp only [SV.emb,hn]
   rfl
  ·obtain ⟨n,hn⟩:=QwM hg
   simp only [SV.emb,hn]
   rfl
 ·cases x<;>cases y<;>simp only [reduceCtorEq,osi,Prod.mk.injEq] at h<;>obtain ⟨rfl,rfl⟩:=h<;>rfl
 ·cases x<;>cases y<;>simp only [reduceCtorEq] at h
  split at h
  ·rename_i hf
   split at h
   ·rename_i e' he
    simp only [osi,Prod.mk.injEq] at h
    obtain ⟨rfl,rfl⟩:=h
    simp only [SV.emb,hf,QoR env he]
   ·cases h
  ·cases h
 ·cases x<;>cases y<;>simp only [reduceCtorEq,osi,Prod.mk.injEq] at h<;>obtain ⟨rfl,rfl⟩:=h<;>rfl
 ·cases x<;>cases y<;>simp only [reduceCtorEq,osi,Prod.mk.injEq] at h
  ·cases cst with
   | true=>
    simp only [osi,Prod.mk.injEq] at h
    obtain ⟨rfl,rfl⟩:=h
    rfl
   | false=>cases h
  ·obtain ⟨rfl,rfl⟩:=h
   rfl
  ·obtain ⟨rfl,rfl⟩:=h
   rfl
theorem QBo {i:TI}{cst:Bool}{op:BinOp}{x y v:SV}{g:Ex}(env:Env)(h:QxO c i cst op x y=some (v,g))(hg:g.den env .bool=true):
  binop c i cst op (x.emb env) (y.emb env)=some (v.emb env):=by
 by_cases h1:∃ k a j b,x=.ii k a∧y=.ii j b
 ·obtain ⟨k,a,j,b,rfl,rfl⟩:=h1
  unfold QxO at h
  simp only at h
  split at h
  ·simp only [osi,Prod.mk.injEq] at h
   obtain ⟨rfl,rfl⟩:=h
   rw [QkS,decide_eq_true_eq] at hg
   simp only [SV.emb]
   rw [QHj,if_neg (by simpa [Ex.den,QEB] using hg)]
   rfl
  ·simp only [osi,Prod.mk.injEq] at h
   obtain ⟨rfl,rfl⟩:=h
   rw [QkS,decide_eq_true_eq] at hg
   simp only [SV.emb]
   rw [QHk,if_neg (by simpa [Ex.den,QEB] using hg)]
   rfl
  ·rename_i n1 n2
   cases hk:kEq k j with
   | false=>rw [hk] at h; cases h
   | true=>
    rw [hk] at h
    have:=QjV hk
    subst this
    have:=Qzh env h hg
    rw [← this]
    cases op<;>first |exact absurd rfl n1 |exact absurd rfl n2 |(simp only [SV.emb,binop,QBm,decide_true])
 ·by_cases h2:∃ a b,x=.ss a∧y=.ss b
  ·obtain ⟨a,b,rfl,rfl⟩:=h2
   exact Qzi env h hg
  ·unfold QxO at h
   unfold binop
   split at h
   ·exact absurd ⟨_,_,_,_,rfl,rfl⟩ h1
   ·exact absurd ⟨_,_,rfl,rfl⟩ h2
   ·rename_i n1 n2
    split
    ·rename_i e1 e2
     cases x<;>cases y<;>simp only [SV.emb,reduceCtorEq] at e1 e2
     exact absurd ⟨_,_,_,_,rfl,rfl⟩ h1
    ·rename_i e1 e2
     cases x<;>cases y<;>simp only [SV.emb,reduceCtorEq] at e1 e2
     exact absurd ⟨_,_,rfl,rfl⟩ h2
    ·cases op<;>simp only [reduceCtorEq] at h ⊢
     ·split at h
      ·rename_i he
       simp only [osi,Prod.mk.injEq] at h
       obtain ⟨rfl,rfl⟩:=h
       rw [QEd env he hg]
       rfl
      ·cases h
     ·split at h
      ·rename_i he
       simp only [osi,Prod.mk.injEq] at h
       obtain ⟨rfl,rfl⟩:=h
       rw [QEd env he hg]
       simp only [SV.emb,Qgv]
      ·cases h
theorem QDq {op:UnOp}{x v:SV}(env:Env)(h:QEE op x=some v):unop op (x.emb env)=some (v.emb env):=by
 cases op<;>cases x<;>simp only [QEE,osi,reduceCtorEq] at h<;>subst h
 ·rfl
 ·rfl
 ·simp only [SV.emb,Qgv,unop]
theorem QBp (env:Env)(j k:IntKind)(e:Ex):(QFV j k e).den env (.int k)=wr k (e.den env (.int j)):=by cases e<;>rfl
theorem QwN {a i:TI}{x v:SV}(env:Env)(h:Qtl a i x=some v):QkB a i (x.emb env)=some (v.emb env):=by
 unfold Qtl at h
 unfold QkB
 cases ha:a.known with
 | false=>rw [ha] at h; cases h
 | true=>
  rw [ha] at h
  simp only at h ⊢
  cases hd:i.d<;>rw [hd] at h<;>cases x<;>simp only [reduceCtorEq,osi] at h<;>subst h
  ·simp only [SV.emb,QBp]
  ·rfl
end
end Go.Sy
namespace Go.Sy
open Go Go.Ev
theorem Qmi {γ:Type}{l:List γ}{n:Int}{x:γ}(h:at' l n=some x):0≤n∧n<(l.length:Int)∧atIdx n l.length=some n.toNat∧l[n.toNat]?=some x:=by
 unfold at' at h
 cases ha:atIdx n l.length with
 | none=>rw [ha] at h; simp at h
 | some i=>
  rw [ha,Option.bind_some] at h
  have ha':=ha
  unfold atIdx at ha'
  split at ha'
  ·rename_i hb
   simp only [osi] at ha'
   subst ha'
   rw [Ev.Qfu,Ev.Qgi] at hb
   simp only [Bool.and_eq_true,decide_eq_true_eq] at hb
   exact ⟨hb.1,hb.2,rfl,h⟩
  ·cases ha'
theorem QHo {γ:Type}{l:List γ}{n:Int}{x:γ}(h0:0≤n)(h:l[n.toNat]?=some x):at' l n=some x:=by
 have hl:n.toNat<l.length:=by
  rw [List.getElem?_eq_some_iff] at h
  exact h.1
 unfold at' atIdx
 rw [Ev.Qfu,Ev.Qgi,decide_eq_true h0,decide_eq_true (show n<(l.length:Int) by omega)]
 exact h
theorem QtF {n:Int}{len:Nat}(h0:0≤n)(h1:n<(len:Int)):atIdx n len=some n.toNat:=by
 unfold atIdx
 rw [Ev.Qfu,Ev.Qgi,decide_eq_true h0,decide_eq_true h1]
 rfl
theorem Qcl {a b:Nat}(h:Nat.beq a b=true):a=b:=Nat.eq_of_beq_eq_true h
theorem Qps (t:Ty)(l:List t.D){z:Nat}(h:Nat.beq t.size z=true):(List.map (row t) l).all (fun r=>Nat.beq r.length z)=true:=by
 simp only [List.all_map,List.all_eq_true,Function.comp_apply]
 intro x _
 rw [QdG]
 exact h
theorem Qm7 {c:Ctx}{e:TypeId}{t:Ty}(h:tyOf c e=some t):Nat.beq t.size (c.ty e).size=true:=by
 unfold tyOf at h
 split at h
 ·split at h
  ·rename_i hb
   simp only [osi] at h
   subst h
   exact hb
  ·cases h
 ·cases h
section
variable {P:Nat→List Ty} {O:Nat→List (List Ty)} {m:(f:Nat)→Pr (P f)→Option (Sm (O f))} {α:Type}
variable {c:Ctx}
variable {env:Env} {s:SS} {K:SV→SS→T α} {Q:Env→α→Prop}
theorem QwO {t:Ty}{l i:Ex}{pend:List SV}{K:Ex→SS→T α}(hi:Inv m env s)
  (hk:∀ env' x s',(l.den env (.lst t))[(i.den env .nat:Nat)]?=some (x.den env' t)→at' (l.den env (.lst t)) ((asInt i).2.den env (.int (asInt i).1))=some (x.den env' t)→ExtH m env s env' s'→SV.embL env' pend=SV.embL env pend→
   (∀ u,l.den env' u=l.den env u)→(i.den env' .nat=i.den env .nat)→((asInt i).2.den env' (.int (asInt i).1)=(asInt i).2.den env (.int (asInt i).1))→Ok m (K x s') env' Q):Ok m (getN t l i pend s K) env Q:=by
 refine Qqy hi fun env' x s' ha e1 hp hl hidx=>?_
 have key:∀ env,(i.den env .nat:Nat)=Int.toNat ((asInt i).2.den env (.int (asInt i).1)):=fun env=>by
  unfold asInt
  split
  ·rfl
  ·simp only [Qik,Int.toNat_natCast]
 obtain ⟨_,_,_,h4⟩:=Qmi ha
 refine hk env' x s' ?_ ha e1 hp hl ?_ (hidx _)
 ·rw [key env]; exact h4
 ·rw [key env,key env',hidx]
theorem Qg5 (env:Env):∀ (cs:List SV) (o:Nat) (vs:List SV),setFrom (SV.embL env cs) o (SV.embL env vs)=SV.embL env (Qlt cs o vs)
 | cs,0,[]=>by cases cs<;>rfl
 | [],0,v::vs=>rfl
 | c::r,0,v::vs=>by
  show v.emb env::setFrom (SV.embL env r) 0 (SV.embL env vs)=_
  rw [Qg5 env r 0 vs]
  rfl
 | [],o+1,vs=>by cases vs<;>rfl
 | c::r,o+1,vs=>by
  have:setFrom (SV.embL env (c::r)) (o+1) (SV.embL env vs)=c.emb env::setFrom (SV.embL env r) o (SV.embL env vs):=by cases vs<;>rfl
  rw [this,Qg5 env r o vs]
  cases vs<;>rfl
theorem Qn2 (env:Env){place:Nat→Option (Nat×Nat)}:∀ {parts:List (Nat×SV)} {cells r:List SV},QnO place cells parts=some r→
  QmE place (SV.embL env cells) (parts.map fun p=>(p.1,p.2.emb env))=some (SV.embL env r)
 | [],cells,r,h=>by
  simp only [QnO,osi] at h
  subst h
  rfl
 | (i,v)::rest,cells,r,h=>by
  simp only [QnO] at h
  simp only [List.map_cons,QmE]
  split at h
  ·cases h
  ·rename_i off size hp
   rw [hp]
   simp only [Qat,Qg2,QfK,Qg3,Qg5]
   split at h
   ·rename_i hb
    rw [hb]
    exact Qn2 env h
   ·cases h
theorem QBq (env:Env){i:TI}{parts:List (Nat×SV)}{v:SV}(h:QAB c i parts=some v):QpI c i (parts.map fun p=>(p.1,p.2.emb env))=some (v.emb env):=by
 unfold QAB at h
 split at h
 ·cases h
 ·rename_i zero hz
  unfold QpI
  rw [← Qpr env hz]
  split at h
  ·rename_i hd
   rw [hd]
   simp only
   split at h
   ·rename_i hf
    simp only [osi] at h
    subst h
    rw [Qn2 env hf]
    rfl
   ·cases h
  ·rename_i hd
   rw [hd]
   simp only
   split at h
   ·rename_i hf
    simp only [osi] at h
    subst h
    rw [Qn2 env hf]
    rfl
   ·cases h
  ·cases h
theorem QDr (env:Env)(l:List SV):SV.embL env (l.map QFW)=(SV.embL env l).map lstZ:=by
 rw [Qa9,Qa9,List.map_map,List.map_map]
 exact List.map_congr_left fun v _=>by cases v<;>rfl
theorem QtG (env:Env){t:Ty}{e:TypeId}{z:Ex}(h:QAD c t e=some z):(c.ty e).zero.map lstZ=row t (z.den env t):=by
 unfold QAD at h
 split at h
 ·cases h
 ·rename_i zs hz
  rw [← Qpr env hz,← QDr,QfL env h]
theorem QqD (env:Env)(t:Ty):∀ l:List Ex,(QAC l).den env (.lst t)=l.map fun x=>x.den env t
 | []=>rfl
 | x::l=>by
  show x.den env t::(QAC l).den env (.lst t)=_
  rw [QqD env t l]
  rfl
theorem QoS {t:Ty}{size:Nat}{k:List Ex→SS→T α}:∀ {parts:List (Nat×SV)} {xs:List Ex} {s:SS},Inv m env s→
  (∀ ys s',QeV size (xs.map fun x=>row t (x.den env t)) (parts.map fun p=>(p.1,p.2.emb env)) (embH env s.H)=some (ys.map fun x=>row t (x.den env t),embH env s'.H)→ys.length=xs.length→Ext m env s env s'→Ok m (k ys s') env Q)→
  Ok m (QmS t size xs parts s k) env Q
 | [],xs,s,hi,hk=>hk xs s rfl rfl (ExtH.refl hi).toExt
 | (i,v)::rest,xs,s,hi,hk=>by
  unfold QmS
  refine Qsx hi fun x s1 h1 e1=>?_
  refine QbR fun hb=>Qau fun y hy=>?_
  refine QoS e1.inv fun ys s2 h2 hl e2=>hk ys s2 ?_ (by rw [hl,List.length_set]) (e1.trans e2)
  simp only [List.map_cons]
  rw [Qy8,h1,Option.bind_some]
  simp only [Qg2,QfK,Qg3,List.length_map,hb,if_true]
  rw [← h2,List.map_set,QfL env hy]
theorem QrN {i:TI}{len:Nat}{parts:List (Nat×SV)}(hi:Inv m env s)(hk:Next m (QeD c i len (parts.map fun p=>(p.1,p.2.emb env)) (embH env s.H)) env s K Q):
  Ok m (Qmb c i len parts s K) env Q:=by
 unfold Qmb
 refine Qau fun e he=>Qau fun t ht=>Qau fun z hz=>QbR fun hb=>?_
 refine QoS hi fun xs s1 h1 hl e1=>hk env _ _ ?_ (e1.setH _)
 rw [Qu6,he,Option.bind_some,if_pos hb]
 rw [List.map_replicate] at h1
 rw [QtG env hz,h1,Option.bind_some]
 simp only [List.length_replicate] at hl
 simp only [List.length_map,hl,if_true,SV.emb,Qba,QdI,Ev.hd,tg]
 simp only [embH,List.map_cons,List.map_nil,SB.emb,QqD,List.map_map,Function.comp_def]
 rfl
theorem Qya {t:TypeId}{a:SV}(hi:Inv m env s)(hk:Next m (okV (embH env s.H) (Qhu c t (embH env s.H) (a.emb env))) env s K Q):Ok m (loadT c t a s K) env Q:=by
 unfold loadT
 split
 ·rename_i b i o
  simp only [SV.emb,QA4,QEM,Qck] at hk
  split
  ·rename_i z u l hb
   refine QwO hi fun env' x s' h1 h2 e1 hp hl hi1 hi2=>Qau fun v hv=>hk.same e1 ?_
   rw [hb]
   simp only [Option.map_some,Option.bind_some,SB.emb,List.getElem?_map,h1]
   rw [← Qe2 env',Qg1,QiE,hv]
   rfl
  ·rename_i z u l hb
   refine QwO hi fun env' x s' h1 h2 e1 hp hl hi1 hi2=>Qau fun v hv=>hk.same e1 ?_
   rw [hb]
   simp only [Option.map_some,Option.bind_some,SB.emb,List.getElem?_map,h1]
   rw [← Qe2 env',Qg1,QiE,hv]
   rfl
  ·rename_i z tg es hb
   refine Qau fun j hj=>Qau fun r hr=>Qau fun v hv=>hk.same (ExtH.refl hi) ?_
   have:i=.nn j:=by
    unfold Qsn at hj
    split at hj
    ·simp only [osi] at hj; rw [hj]
    ·cases hj
   subst this
   rw [hb]
   simp only [Option.map_some,Option.bind_some,SB.emb,List.getElem?_map,show ((Ex.nn j).den env .nat:Nat)=j from rfl,hr]
   rw [Qg1,QiE,hv]
   rfl
  ·simp only [Ok]
 ·rename_i cs
  refine Qau fun v hv=>hk.pure hi ?_
  show pack (c.ty t) (SV.embL env cs)=_
  rw [QiE,hv]
  rfl
 ·simp only [Ok]
theorem QBr {t:TypeId}{a v:SV}{K:SS→T α}(hi:Inv m env s)
  (hk:∀ env' s',Qkz c t (embH env s.H) (a.emb env) (v.emb env)=some (embH env' s'.H)→Ext m env s env' s'→Ok m (K s') env' Q):Ok m (storeT c t a v s K) env Q:=by
 unfold storeT
 split
 ·rename_i b i o
  simp only [SV.emb,QA5,Qck] at hk
  split
  ·rename_i z u l hb
   simp only [hb,Option.map_some,Option.bind_some,SB.emb] at hk
   refine Qsx hi fun x s1 h1 e1=>?_
   split
   ·rename_i z' u' l' hb'
    refine QwO e1.inv fun env' y s2 h2 h2' e2 hp hl hi1 hi2=>QbR fun hc=>Qau fun w hw=>?_
    refine hk env' _ ?_ ?_
    ·rw [h1,Option.bind_some,Qu5]
     simp only [Qck,hb',Option.map_some,Option.bind_some,SB.emb,List.getElem?_map,h2]
     simp only [Bool.and_eq_true] at hc
     obtain ⟨⟨⟨c1,c2⟩,c3⟩,c4⟩:=hc
     have hx:SV.embL env x.cells=SV.embL env' x.cells:=by
      have:[x.emb env']=[x.emb env]:=hp
      simp only [List.cons.injEq,and_true] at this
      rw [← Qg2,← Qg2,this]
     simp only [Qg2,QfK,Qg3,QdG,c1,c2,c3,c4,Bool.and_self,if_true]
     rw [QhC,e2.H,e2.emH,hx,← Qe2 env',Qg5,QfL env' hw]
     simp only [SB.emb]
     have hd:(mk3 .set l' i w).den env' (.lst u')=(l'.den env (.lst u')).set (i.den env .nat) (w.den env' u'):=by
      show ((l'.den env' (.lst u')).set (i.den env' .nat) (w.den env' u'))=_
      rw [hl,hi1]
     rw [hd,List.map_set]
    ·refine (e1.trans e2.toExt).QHn ?_ _
     intro f hf
     simp only [List.mem_cons] at hf
     rcases hf with rfl |hf
     ·simp only [Fact.holds]
      have hd:(mk3 .set l' i w).den env' (.lst u')=(l'.den env (.lst u')).set (i.den env .nat) (w.den env' u'):=by
       show ((l'.den env' (.lst u')).set (i.den env' .nat) (w.den env' u'))=_
       rw [hl,hi1]
      obtain ⟨g1,g2,g3,g4⟩:=Qmi h2'
      have key:(i.den env .nat:Nat)=Int.toNat ((asInt i).2.den env (.int (asInt i).1)):=by
       unfold asInt
       split
       ·rfl
       ·simp only [Qik,Int.toNat_natCast]
      rw [hd,hi2]
      refine QHo g1 ?_
      rw [← key,List.getElem?_set]
      simp only [if_true]
      rw [if_pos]
      rw [key]
      omega
     ·exact e2.inv f hf
   ·simp only [Ok]
  ·rename_i z tg es hb
   simp only [hb,Option.map_some,Option.bind_some,SB.emb] at hk
   refine Qau fun p hp=>?_
   obtain ⟨cs,H⟩:=p
   simp only
   split
   ·rename_i z' tg' es' hb'
    refine Qau fun j hj=>Qau fun r hr=>QbR fun hc=>?_
    have:i=.nn j:=by
     unfold Qsn at hj
     split at hj
     ·simp only [osi] at hj; rw [hj]
     ·cases hj
    subst this
    refine hk env _ ?_ ((ExtH.refl hi).toExt.setH _)
    rw [Qg2,Qgx hp,Qu5]
    simp only [Qck,hb',Option.map_some,Option.bind_some,SB.emb,List.getElem?_map,show ((Ex.nn j).den env .nat:Nat)=j from rfl,hr]
    simp only [Bool.and_eq_true] at hc
    obtain ⟨⟨⟨c1,c2⟩,c3⟩,c4⟩:=hc
    simp only [QfK,Qg3,c1,c2,c3,c4,Bool.and_self,if_true]
    rw [QhC,Qg5]
    simp only [SB.emb,List.map_set]
   ·simp only [Ok]
  ·simp only [Ok]
 ·simp only [Ok]
where
 dummy:True:=trivial
end
end Go.Sy
