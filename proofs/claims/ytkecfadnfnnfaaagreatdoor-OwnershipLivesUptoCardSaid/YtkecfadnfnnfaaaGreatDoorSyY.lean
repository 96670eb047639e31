/- Symbolic runs: arguments of bounded bulk are typed values; nothing in them is longer than the bound. -/
import Derived.Test.YtkecfadnfnnfaaaGreatDoorSyS
import Derived.Test.YtkecfadnfnnfaaaGreatDoorEvJ
set_option linter.unusedVariables false
set_option linter.unusedSimpArgs false
namespace Go.Sy
open Go Go.Ev
def good:(t:Ty)→t.D→Prop
 | .int k,x=>k.has x
 | .str,x=>x.length≤maxLen
 | .lst u,x=>x.length≤maxLen∧∀ a∈x,good u a
 | .pair a b,x=>good a x.1∧good b x.2
 | _,_=>True
theorem QBT {c:Ctx}{f:FuncId}{args:List AV}{v:AV}{H:Heap}(h:R c (.pfn f args)=some (.val v H)):H=[]:=by
 rw [R_eq] at h
 unfold Qa6 at h
 simp only at h
 split at h
 ·cases h
 ·split at h
  ·cases h
  ·split at h
   ·cases h
   ·split at h
    ·cases h
    ·cases h
    ·split at h
     ·cases h
     ·split at h
      ·cases h
      ·simp only [osi,Res.val.injEq] at h
       exact h.2.symm
theorem QHu {c:Ctx}{tb:Tab}{G:Mod tb}(hG:QDC c tb G){i:Nat}{x:Pr (tb.P i)}{z:Sm (tb.O i)}(h:M c tb G i x=some z)(hk:(tb.fam i).kind=0)(hp:c.prim (tb.fam i).f=.no)
  {env:Env} {θ:List Ex} {n j:Nat} {o:Out} (hx:mkPr env (tb.P i) θ=x) (hal:Qg4 env (tb.O i) z j n) (ho:(tb.fam i).outs[j]?=some o):
  R c (.pfn (tb.fam i).f ((embF (env0 (tb.P i) x) (tb.fam i).fr).map (·.2)))=some (.val (Fr.get (embF env (o.state θ n).1) 0) []):=by
 have:=QE6 hG i x z h env θ n j o hx hal ho
 unfold Qhr at this
 rw [hk] at this
 simp only [hp] at this
 obtain ⟨H',hH⟩:=this
 rw [QBT hH] at hH
 exact hH
end Go.Sy
namespace Go.Sy
open Go Go.Ev
def Qus (N:Nat):(t:Ty)→t.D→Prop
 | .int k,x=>k.has x
 | .str,x=>x.length≤N
 | .lst u,x=>x.length≤N∧∀ a∈x,Qus N u a
 | .pair a b,x=>Qus N a x.1∧Qus N b x.2
 | _,_=>True
theorem Qv1 {N:Nat}{u:Ty}:∀ {es:List (List AV)},(∀ r∈es,∃ x:u.D,r=row u x∧Qus N u x)→∃ l:List u.D,es=l.map (row u)∧∀ a∈l,Qus N u a
 | [],h=>⟨[],rfl,fun a ha=>by simp at ha⟩
 | r::es,h=>by
  obtain ⟨x,hx,gx⟩:=h r (by simp)
  obtain ⟨l,hl,gl⟩:=Qv1 (es:=es) fun r hr=>h r (by simp [hr])
  refine ⟨x::l,by rw [hx,hl]; rfl,fun a ha=>?_⟩
  simp only [List.mem_cons] at ha
  rcases ha with rfl |ha
  ·exact gx
  ·exact gl a ha
theorem QrA {N:Nat}{p:TypeId→List AV→Prop}{f:TypeId→Option Ty}(hp:∀ t cs u,p t cs→f t=some u→∃ x:u.D,cs=row u x∧Qus N u x):
  ∀ {fs:List (Nat×TypeId)} {cs:List AV} {u:Ty},Qo0 p fs cs→QmP f fs=some u→∃ x:u.D,cs=row u x∧Qus N u x
 | [],cs,u,h,hu=>by
  simp only [QmP,osi] at hu
  subst hu
  simp only [Qo0] at h
  subst h
  exact ⟨(),rfl,trivial⟩
 | q::l,cs,u,h,hu=>by
  obtain ⟨a,b,rfl,h1,h2⟩:=h
  simp only [QmP] at hu
  split at hu
  ·cases hu
  ·rename_i w hw
   obtain ⟨x,hx,gx⟩:=hp _ _ _ h1 hw
   subst hx
   match l,h2,hu with
   | [],h2,hu=>
    simp only [osi] at hu
    subst hu
    simp only [Qo0] at h2
    subst h2
    exact ⟨(x,()),rfl,gx,trivial⟩
   | [r],h2,hu=>
    obtain ⟨a',b',rfl,k1,k2⟩:=h2
    simp only [Qo0] at k2
    subst k2
    simp only at hu
    split at hu
    ·rename_i w' hw'
     simp only [osi] at hu
     subst hu
     obtain ⟨y,hy,gy⟩:=hp _ _ _ k1 hw'
     subst hy
     exact ⟨(x,y),by simp [row],gx,gy⟩
    ·cases hu
   | r::r2::l',h2,hu=>
    simp only at hu
    split at hu
    ·rename_i w' hw'
     simp only [osi] at hu
     subst hu
     obtain ⟨y,hy,gy⟩:=QrA hp h2 hw'
     subst hy
     exact ⟨(x,y),rfl,gx,gy⟩
    ·cases hu
theorem Qoz {N:Nat}{c:Ctx}:∀ {n:Nat} {t:TypeId} {cs:List AV} {u:Ty},Qgq N c n t cs→tyN c n t=some u→∃ x:u.D,cs=row u x∧Qus N u x
 | 0,t,cs,u,h,hu=>h.elim
 | n+1,t,cs,u,h,hu=>by
  simp only [Qgq] at h
  simp only [tyN] at hu
  cases hd:(c.ty t).d<;>simp only [hd,reduceCtorEq] at h hu
  ·simp only [osi] at hu
   subst hu
   obtain ⟨m,rfl,hm⟩:=h
   exact ⟨m,rfl,hm⟩
  ·simp only [osi] at hu
   subst hu
   obtain ⟨m,rfl⟩:=h
   exact ⟨m,rfl,trivial⟩
  ·simp only [osi] at hu
   subst hu
   obtain ⟨m,rfl,_,hm⟩:=h
   exact ⟨m,rfl,hm⟩
  ·obtain ⟨es,rfl,_,hl,hes⟩:=h
   split at hu
   ·rename_i w hw
    simp only [osi] at hu
    subst hu
    obtain ⟨l,rfl,gl⟩:=Qv1 fun r hr=>Qoz (hes r hr) hw
    rw [List.length_map] at hl
    exact ⟨l,rfl,hl,gl⟩
   ·cases hu
  ·exact QrA (p:=Qgq N c n) (f:=tyN c n) (fun t cs u h hu=>Qoz h hu) h hu
end Go.Sy
