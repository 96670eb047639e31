/- Loops over a list by their place: what they come to. -/
import Derived.Test.YtkecfadnfnnfaaaGreatDoorSyS
set_option linter.unusedVariables false
namespace Go.Sy
open Go Go.Ev
theorem QqS {α:Type}(l:List α)(i:Nat):at' l (i:Int)=l[i]?:=by
 unfold at' atIdx
 rw [Ev.Qfu,Ev.Qgi]
 by_cases h:i<l.length
 ·have h1:decide ((0:Int)≤(i:Int))=true:=decide_eq_true (by omega)
  have h2:decide ((i:Int)<(l.length:Int))=true:=decide_eq_true (by omega)
  rw [h1,h2]
  rfl
 ·have h2:decide ((i:Int)<(l.length:Int))=false:=decide_eq_false (by omega)
  rw [h2,Bool.and_false]
  rw [List.getElem?_eq_none (by omega)]
  rfl
theorem QEg {α:Type}(l:List α)(i:Int)(h0:0≤i):at' l i=l[i.toNat]?:=by
 rw [← QqS,Int.toNat_of_nonneg h0]
theorem Qfp {α:Type}{l:List α}{i:Int}(h0:0≤i)(h1:i<(l.length:Int)):∃ x,at' l i=some x∧l[i.toNat]?=some x:=by
 rw [QEg l i h0]
 have:i.toNat<l.length:=by omega
 exact ⟨l[i.toNat],List.getElem?_eq_getElem this,List.getElem?_eq_getElem this⟩
theorem Qyj {α:Type}(pre:List α)(x:α)(r:List α):at' (pre++x::r) (pre.length:Int)=some x:=by
 rw [QqS,List.getElem?_append_right (Nat.le_refl _)]
 simp
theorem Qd5 {α:Type}(pre:List α):decide ((pre.length:Int)<((pre++[]).length:Int))=false:=decide_eq_false (by simp)
theorem Qne {n:Int}(h0 : -9223372036854775808≤n)(h1:n≤9223372036854775807):Ev.wr .i64 n=n:=by
 cases n with
 | ofNat m=>
  have hm:m≤9223372036854775807:=by
   have:((m:Nat):Int)≤9223372036854775807:=h1
   omega
  have:QzY .i64 (.ofNat m)=true:=Nat.ble_eq_true_of_le hm
  unfold Ev.wr
  rw [this]
 | negSucc m=>
  have hm:m≤9223372036854775807:=by
   have:(-9223372036854775808:Int)≤Int.negSucc m:=h0
   omega
  have:QzY .i64 (.negSucc m)=true:=Nat.ble_eq_true_of_le hm
  unfold Ev.wr
  rw [this]
theorem QEh {n:Nat}(h:n≤9223372036854775807):Ev.wr .i64 (n:Int)=(n:Int):=Qne (by omega) (by omega)
theorem QaZ {n:Nat}(h:n<9223372036854775807):Ev.wr .i64 ((n:Int)+1)=((n+1:Nat):Int):=by
 rw [show (n:Int)+1=((n+1:Nat):Int) by omega,QEh (by omega)]
theorem Qnf {α:Type}{b:Bool}(h:b=true)(x y:α):(bif b then x else y)=x:=by rw [h]; rfl
theorem Qdd {α:Type}{b:Bool}(h:b=false)(x y:α):(bif b then x else y)=y:=by rw [h]; rfl
theorem QbE {p:Prop}[Decidable p](h:p):decide p=true:=decide_eq_true h
theorem QaP {p:Prop}[Decidable p](h:¬ p):decide p=false:=decide_eq_false h
theorem Qac {α:Type}{p:Prop}[Decidable p](h:p)(x y:α):(bif decide p then x else y)=x:=Qnf (QbE h) x y
theorem Qab {α:Type}{p:Prop}[Decidable p](h:¬ p)(x y:α):(bif decide p then x else y)=y:=Qdd (QaP h) x y
theorem QEi {α:Type}{p:Prop}[Decidable p](x y:α):(bif decide p then x else y)=if p then x else y:=by
 by_cases h:p
 ·rw [Qac h,if_pos h]
 ·rw [Qab h,if_neg h]
theorem Qaa {α β:Type}(a:α)(f:α→Option β):Option.bind (some a) f=f a:=rfl
end Go.Sy
namespace Go.Sy
open Go Go.Ev
theorem Qa7 {α:Type}{l:List α}{i:Nat}{x:α}(h:l[i]?=some x):i<l.length:=by
 rcases Nat.lt_or_ge i l.length with h' |h'
 ·exact h'
 ·rw [List.getElem?_eq_none h'] at h; cases h
theorem Qal {α:Type}{l:List α}{i:Nat}{x:α}(h:l[i]?=some x):decide ((i:Int)<(l.length:Int))=true:=decide_eq_true (by have:=Qa7 h; omega)
theorem Qar {α:Type}(l:List α):decide ((l.length:Int)<(l.length:Int))=false:=decide_eq_false (by omega)
theorem Qag {α:Type}{l:List α}{i:Nat}{x:α}(h:l[i]?=some x):at' l (i:Int)=some x:=by rw [QqS,h]
theorem Qam {α:Type}{l:List α}{i:Nat}{x:α}(h:l[i]?=some x)(hl:l.length≤9223372036854775807):Ev.wr .i64 ((i:Int)+1)=((i+1:Nat):Int):=QaZ (by have:=Qa7 h; omega)
theorem Qng {α:Type}{l:List α}{i:Nat}{x:α}(h:l[i]?=some x):l.drop i=x::l.drop (i+1):=by
 have hl:=Qa7 h
 rw [List.getElem?_eq_getElem hl,osi] at h
 rw [List.drop_eq_getElem_cons hl,h]
theorem Qmn {α R:Type}{L:Int→Option R}{l:List α}{p:α→Bool}{A B:R}
  (h:∀ (i:Nat) x,l[i]?=some x→L i=if p x=true then L ((i+1:Nat):Int) else some A) (he:L (l.length:Int)=some B):
  ∀ (k i:Nat),i+k=l.length→L i=some (if (l.drop i).all p=true then B else A)
 | 0,i,hk=>by
  have:i=l.length:=by omega
  subst this
  rw [he,List.drop_length]
  rfl
 | k+1,i,hk=>by
  have hi:i<l.length:=by omega
  have hx:l[i]?=some l[i]:=List.getElem?_eq_getElem hi
  rw [h i _ hx,Qng hx,List.all_cons]
  cases hp:p l[i] with
  | false=>simp
  | true=>rw [if_pos rfl,Qmn h he k (i+1) (by omega),Bool.true_and]
theorem QaF {α R:Type}{L:Int→Option R}{l:List α}{p:α→Bool}{A B:R}
  (h:∀ (i:Nat) x,l[i]?=some x→L i=if p x=true then L ((i+1:Nat):Int) else some A) (he:L (l.length:Int)=some B):
  L 0=some (if l.all p=true then B else A):=Qmn h he l.length 0 (by omega)
def allI {α:Type}(p:Nat→α→Bool):Nat→List α→Bool
 | _,[]=>true
 | i,x::r=>p i x&&allI p (i+1) r
theorem QoT {α R:Type}{L:Int→Option R}{l:List α}{p:Nat→α→Bool}{A B:R}
  (h:∀ (i:Nat) x,l[i]?=some x→L i=if p i x=true then L ((i+1:Nat):Int) else some A) (he:L (l.length:Int)=some B):
  ∀ (k i:Nat),i+k=l.length→L i=some (if allI p i (l.drop i)=true then B else A)
 | 0,i,hk=>by
  have:i=l.length:=by omega
  subst this
  rw [he,List.drop_length]
  rfl
 | k+1,i,hk=>by
  have hi:i<l.length:=by omega
  have hx:l[i]?=some l[i]:=List.getElem?_eq_getElem hi
  rw [h i _ hx,Qng hx,allI]
  cases hp:p i l[i] with
  | false=>simp
  | true=>rw [if_pos rfl,QoT h he k (i+1) (by omega),Bool.true_and]
theorem Qg6 {α R:Type}{L:Int→Option R}{l:List α}{p:Nat→α→Bool}{A B:R}
  (h:∀ (i:Nat) x,l[i]?=some x→L i=if p i x=true then L ((i+1:Nat):Int) else some A) (he:L (l.length:Int)=some B):
  L 0=some (if allI p 0 l=true then B else A):=by
 have:=QoT h he l.length 0 (by omega)
 rw [List.drop_zero] at this
 exact this
def runI {α S R:Type}(F:Nat→S→α→S⊕R)(E:S→R):Nat→S→List α→R
 | _,s,[]=>E s
 | i,s,x::r=>match F i s x with
  | .inl s'=>runI F E (i+1) s' r
  | .inr z=>z
theorem QqT {α S R:Type}{L:S→Int→Option R}{l:List α}{F:Nat→S→α→S⊕R}{E:S→R}(I:Nat→S→Prop)
  (h:∀ s (i:Nat) x,l[i]?=some x→I i s→match F i s x with | .inl s'=>L s i=L s' ((i+1:Nat):Int)∧I (i+1) s' | .inr z=>L s i=some z)
  (he:∀ s,I l.length s→L s (l.length:Int)=some (E s)):
  ∀ (k i:Nat) (s:S),i+k=l.length→I i s→L s i=some (runI F E i s (l.drop i))
 | 0,i,s,hk,hI=>by
  have:i=l.length:=by omega
  subst this
  rw [he s hI,List.drop_length]
  rfl
 | k+1,i,s,hk,hI=>by
  have hi:i<l.length:=by omega
  have hx:l[i]?=some l[i]:=List.getElem?_eq_getElem hi
  have:=h s i _ hx hI
  rw [Qng hx,runI]
  cases hF:F i s l[i] with
  | inl s'=>
   rw [hF] at this
   rw [this.1]
   exact QqT I h he k (i+1) s' (by omega) this.2
  | inr z=>
   rw [hF] at this
   rw [this]
theorem Qyk {α S R:Type}{L:S→Int→Option R}{l:List α}{F:Nat→S→α→S⊕R}{E:S→R}(I:Nat→S→Prop)
  (h:∀ s (i:Nat) x,l[i]?=some x→I i s→match F i s x with | .inl s'=>L s i=L s' ((i+1:Nat):Int)∧I (i+1) s' | .inr z=>L s i=some z)
  (he:∀ s,I l.length s→L s (l.length:Int)=some (E s)) (s:S) (hI:I 0 s):L s 0=some (runI F E 0 s l):=by
 have:=QqT I h he l.length 0 s (by omega) hI
 rw [List.drop_zero] at this
 exact this
theorem QoU {α S R:Type}{L:S→Int→Option R}{l:List α}{F:S→α→S}{E:S→R}(I:Nat→S→Prop)
  (h:∀ s (i:Nat) x,l[i]?=some x→I i s→L s i=L (F s x) ((i+1:Nat):Int)∧I (i+1) (F s x))
  (he:∀ s,I l.length s→L s (l.length:Int)=some (E s)):
  ∀ (k i:Nat) (s:S),i+k=l.length→I i s→L s i=some (E ((l.drop i).foldl F s))
 | 0,i,s,hk,hI=>by
  have:i=l.length:=by omega
  subst this
  rw [he s hI,List.drop_length]
  rfl
 | k+1,i,s,hk,hI=>by
  have hi:i<l.length:=by omega
  have hx:l[i]?=some l[i]:=List.getElem?_eq_getElem hi
  have:=h s i _ hx hI
  rw [Qng hx,List.foldl_cons,this.1]
  exact QoU I h he k (i+1) _ (by omega) this.2
theorem QaM {α S R:Type}{L:S→Int→Option R}{l:List α}{F:S→α→S}{E:S→R}(I:Nat→S→Prop)
  (h:∀ s (i:Nat) x,l[i]?=some x→I i s→L s i=L (F s x) ((i+1:Nat):Int)∧I (i+1) (F s x))
  (he:∀ s,I l.length s→L s (l.length:Int)=some (E s)) (s:S) (hI:I 0 s):L s 0=some (E (l.foldl F s)):=by
 have:=QoU I h he l.length 0 s (by omega) hI
 rw [List.drop_zero] at this
 exact this
def QiM {α:Type}(p:α→Bool):Nat→List α→Option Nat
 | _,[]=>none
 | i,x::r=>if p x=true then some i else QiM p (i+1) r
theorem Qcg {α:Type}(p:α→Bool):∀ (l:List α) (i:Nat),(QiM p i l).isSome=l.any p
 | [],i=>rfl
 | x::r,i=>by
  rw [QiM,List.any_cons]
  cases hp:p x with
  | true=>rfl
  | false=>simp only [Bool.false_eq_true,if_false,Bool.false_or]; exact Qcg p r (i+1)
theorem QoV {α R:Type}{L:Int→Option R}{l:List α}{p:α→Bool}{A:Nat→R}{B:R}
  (h:∀ (i:Nat) x,l[i]?=some x→L i=if p x=true then some (A i) else L ((i+1:Nat):Int)) (he:L (l.length:Int)=some B):
  ∀ (k i:Nat),i+k=l.length→L i=some (match QiM p i (l.drop i) with |some j=>A j |none=>B)
 | 0,i,hk=>by
  have:i=l.length:=by omega
  subst this
  rw [he,List.drop_length]
  rfl
 | k+1,i,hk=>by
  have hi:i<l.length:=by omega
  have hx:l[i]?=some l[i]:=List.getElem?_eq_getElem hi
  rw [h i _ hx,Qng hx,QiM]
  cases hp:p l[i] with
  | true=>simp
  | false=>simp only [Bool.false_eq_true,if_false]; exact QoV h he k (i+1) (by omega)
theorem Qdk {α R:Type}{L:Int→Option R}{l:List α}{p:α→Bool}{A:Nat→R}{B:R}
  (h:∀ (i:Nat) x,l[i]?=some x→L i=if p x=true then some (A i) else L ((i+1:Nat):Int)) (he:L (l.length:Int)=some B):
  L 0=some (match QiM p 0 l with |some j=>A j |none=>B):=by
 have:=QoV h he l.length 0 (by omega)
 rw [List.drop_zero] at this
 exact this
theorem QqU {α:Type}(b:Bool)(x y:α):(bif b then some x else some y)=some (bif b then x else y):=by cases b<;>rfl
theorem Qak {α:Type}(b:Bool)(x y:α):(bif b then x else y)=if b=true then x else y:=by cases b<;>rfl
theorem QaQ (a b:Bool):(bif a then true else b)=(a||b):=by cases a<;>rfl
theorem Qeo (a b:Bool):(bif a then b else false)=(a&&b):=by cases a<;>rfl
theorem Qf2 (a b:Bool):(bif a then false else b)=(!a&&b):=by cases a<;>rfl
theorem Qyl (a b:Bool):(bif a then b else true)=(!a||b):=by cases a<;>rfl
theorem Qai (b x y:Bool):(bif b then some x else some y)=some (bif b then x else y):=by cases b<;>rfl
theorem QlE (b:Bool)(x y:Int):(bif b then some x else some y)=some (bif b then x else y):=by cases b<;>rfl
theorem Qjy {α β:Type}(b:Bool)(x y:α):(bif b then some (Sum.inl x:α⊕β) else some (Sum.inl y))=some (Sum.inl (bif b then x else y)):=by cases b<;>rfl
theorem Qnh {α β:Type}(b:Bool)(x y:β):(bif b then some (Sum.inr x:α⊕β) else some (Sum.inr y))=some (Sum.inr (bif b then x else y)):=by cases b<;>rfl
theorem Qym {α β γ:Type}(b:Bool)(x y:β):(bif b then some (Sum.inr (Sum.inl x):α⊕(β⊕γ)) else some (Sum.inr (Sum.inl y)))=some (Sum.inr (Sum.inl (bif b then x else y))):=by cases b<;>rfl
theorem Qaz {α β:Type}(b:Bool)(x y:Option α)(f:α→Option β):Option.bind (bif b then x else y) f=bif b then Option.bind x f else Option.bind y f:=by cases b<;>rfl
theorem Qni {α:Type}(l:List α)(i:Int):(0≤i∧i<(l.length:Int)∧∃ x,at' l i=some x∧l[i.toNat]?=some x∧x∈l)∨(¬ (0≤i∧i<(l.length:Int))∧at' l i=none):=by
 by_cases h:0≤i∧i<(l.length:Int)
 ·obtain ⟨x,h1,h2⟩:=Qfp h.1 h.2
  exact Or.inl ⟨h.1,h.2,x,h1,h2,List.mem_of_getElem? h2⟩
 ·refine Or.inr ⟨h,?_⟩
  unfold at' atIdx
  rw [Ev.Qfu,Ev.Qgi]
  have:(decide ((0:Int)≤i)&&decide (i<(l.length:Int)))=false:=by
   rw [Bool.and_eq_false_iff]
   by_cases h0:0≤i
   ·exact Or.inr (decide_eq_false (by omega))
   ·exact Or.inl (decide_eq_false h0)
  rw [this]
  rfl
theorem QqV {α β:Type}{l:List α}{i:Nat}{x:α}(f:α→β)(h:l[i]?=some x):at' (l.map f) (i:Int)=some (f x):=by rw [QqS,List.getElem?_map,h]; rfl
theorem Qdl {α:Type}{l:List α}{i:Int}{x:α}(h0:0≤i)(h:l[i.toNat]?=some x):at' l i=some x:=by rw [QEg l i h0,h]
theorem Qnj (a b:List UInt8):keyD .str a b=decide (a=b):=rfl
theorem Qvw (m:List ((List UInt8)×Bool))(x y:List UInt8):findD .str .bool (putD .str .bool m x true) y false=(decide (y=x)||findD .str .bool m y false):=by
 induction m with
 | nil=>
  show (match keyD .str y x with |true=>true |false=>findD .str .bool [] y false)=_
  rw [Qnj]
  cases h:decide (y=x)<;>rfl
 | cons p l ih=>
  show findD .str .bool (match keyD .str x p.1 with |true=>(p.1,true)::l |false=>p::putD .str .bool l x true) y false=(decide (y=x)||(match keyD .str y p.1 with |true=>p.2 |false=>findD .str .bool l y false))
  rw [Qnj,Qnj]
  by_cases h:x=p.1
  ·subst h
   rw [decide_eq_true rfl]
   show (match keyD .str y p.1 with |true=>true |false=>findD .str .bool l y false)=_
   rw [Qnj]
   by_cases h2:y=p.1
   ·rw [decide_eq_true h2]; rfl
   ·rw [decide_eq_false h2]; rfl
  ·rw [decide_eq_false h]
   show (match keyD .str y p.1 with |true=>p.2 |false=>findD .str .bool (putD .str .bool l x true) y false)=_
   rw [Qnj]
   by_cases h2:y=p.1
   ·rw [decide_eq_true h2,decide_eq_false (by rw [h2]; exact fun h3=>h h3.symm)]; rfl
   ·rw [decide_eq_false h2]; exact ih
def cut1 (s:List UInt8)(c:UInt8):List UInt8×List UInt8×Bool:=match s.dropWhile (· != c) with
 | []=>(s,[],false)
 | _::r=>(s.takeWhile (· != c),r,true)
def cutM (s sep:List UInt8):Option (List UInt8×List UInt8×Bool):=match sep with
 | [c]=>(match Nat.blt s.length 4294967281 with |true=>some (cut1 s c) |false=>none)
 | _=>none
def Qw6 (s cs:List UInt8):Option (List UInt8):=match cs.all (fun b=>Nat.blt b.toNat 128)&&(Nat.blt s.length 4294967281&&Nat.blt cs.length 4294967281) with
 | true=>some ((s.reverse.dropWhile cs.contains).reverse.dropWhile cs.contains)
 | false=>none
end Go.Sy
