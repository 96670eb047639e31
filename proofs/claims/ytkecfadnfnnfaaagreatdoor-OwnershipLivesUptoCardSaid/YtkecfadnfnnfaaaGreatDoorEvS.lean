/- The soundness of slicing, of lengths, of building. -/
import Derived.Test.YtkecfadnfnnfaaaGreatDoorEvT
import Derived.Laws.Strings
import Derived.Laws.BitsLemmas
import Derived.Laws.Bits64
import Derived.Laws.Tables
set_option linter.unusedVariables false
set_option linter.unusedSimpArgs false
namespace Go.Ev
open Go.RowKit
theorem Ql4 (a b:Nat):Nat.blt a b=true↔a<b:=by
 unfold Nat.blt
 rw [Nat.ble_eq]
 omega
theorem blt_eq (a b:Nat):Nat.blt a b=decide (a<b):=by
 rw [Bool.eq_iff_iff,Ql4]; simp
theorem Qgf (a b:Nat):Nat.ble a b=decide (a≤b):=by
 rw [Bool.eq_iff_iff,Nat.ble_eq]; simp
theorem QAc (a b:Nat):Nat.beq a b=decide (a=b):=by
 rw [Bool.eq_iff_iff,Nat.beq_eq]; simp
theorem Qgi (a b:Int):ltI a b=decide (a<b):=by
 cases a<;>cases b<;>simp [ltI,blt_eq]<;>omega
theorem Qfu (a b:Int):leI a b=decide (a≤b):=by
 unfold leI
 rw [Qgi]
 by_cases h:b<a
 ·simp [h];
 ·simp [h]; omega
theorem QgX (a b:Int):eqI a b=decide (a=b):=by
 cases a<;>cases b<;>simp [eqI,QAc]<;>omega
theorem QuC (k:IntKind)(n:Int):wr k n=k.wrap n:=by
 unfold wr
 cases h:QzY k n with
 | false=>rfl
 | true=>
  cases k<;>cases n<;>simp [QzY,Qgf] at h<;>simp only [IntKind.wrap_i64,IntKind.wrap_u64,IntKind.wrap_u8,IntKind.wrap_u32,IntKind.wrap_i32,Int.ofNat_eq_natCast]<;>omega
theorem Qsd:∀ (a b:List UInt8),QgP a b=Op.bytesLess a b
 | [],[]=>rfl
 | [],_::_=>rfl
 | _::_,[]=>rfl
 | a::x,b::y=>by simp [QgP,Op.bytesLess,Qsd x y]
section
variable {P:Program} {c:Ctx} {I:Imm} {ρ:Ren} {H:Heap} {w:World}
theorem QyJ {op:BinOp}{k:IntKind}{a b:Int}{v:AV}{t:TypeId}(h:QgO op k a b=some v)(hop:op≠.shl)(hop':op≠.shr):
  ∃ cv,(binOp op t (.int k a) (.int k b)).run P w=.ok cv w∧VRel I ρ v cv:=by
 have hb:∀ {r:Int},intBits op k a b=some r→(Op.intBits op k a b).run P w=.ok (.int k r) w:=fun {r} hr=>by
  unfold intBits at hr
  cases op<;>simp only [osi,reduceCtorEq] at hr<;>subst hr<;>rfl
 have hcmp:∀ {r:Bool},intCmp op a b=some r→(Op.intCmp op a b).run P w=.ok (.bool r) w:=fun {r} hr=>by
  unfold intCmp at hr
  cases op<;>simp only [osi,reduceCtorEq] at hr<;>subst hr<;>simp [Op.intCmp,QgX,Qgi,Qfu]<;>rfl
 have hopr:∀ o2:BinOp,o2=op→True:=fun _ _=>trivial
 unfold QgO at h
 cases op<;>simp only [ne_eq,not_true_eq_false,reduceCtorEq,not_false_eq_true] at hop hop'<;>simp only [] at h
 case add=>simp only [osi] at h; subst h; exact ⟨.int k (k.wrap (a+b)),by simp [binOp,Op.intArith],by rw [QuC]; exact .int _ _ _⟩
 case sub=>simp only [osi] at h; subst h; exact ⟨.int k (k.wrap (a - b)),by simp [binOp,Op.intArith],by rw [QuC]; exact .int _ _ _⟩
 case mul=>simp only [osi] at h; subst h; exact ⟨.int k (k.wrap (a * b)),by simp [binOp,Op.intArith],by rw [QuC]; exact .int _ _ _⟩
 case quo=>
  rw [QgX] at h
  by_cases h0:b=0
  ·simp [h0] at h
  ·simp [h0] at h; subst h; exact ⟨.int k (k.wrap (a.tdiv b)),by simp [binOp,Op.intDiv,h0],by rw [QuC]; exact .int _ _ _⟩
 case rem=>
  rw [QgX] at h
  by_cases h0:b=0
  ·simp [h0] at h
  ·simp [h0] at h; subst h; exact ⟨.int k (a.tmod b),by simp [binOp,Op.intDiv,h0],.int _ _ _⟩
 case and |or |xor |andNot=>
  split at h
  ·rename_i r hr
   simp only [osi] at h
   subst h
   exact ⟨.int k r,by simpa [binOp] using hb hr,.int _ _ _⟩
  ·cases h
 all_goals
  split at h
  ·rename_i r hr
   simp only [osi] at h
   subst h
   exact ⟨.bool r,by simpa [binOp] using hcmp hr,.bool _ _⟩
  ·cases h
theorem QyK {op:BinOp}{a b:ByteArray}{v:AV}{t:TypeId}(h:QjS op a.data.toList b.data.toList=some v):∃ cv,(binOp op t (.string a) (.string b)).run P w=.ok cv w∧VRel I ρ v cv:=by
 have e:(binOp op t (.string a) (.string b))=Op.stringOp op a b:=by cases op<;>rfl
 rw [e]
 unfold QjS at h
 cases op<;>simp only [reduceCtorEq] at h
 case add=>
  cases hb:Nat.ble (a.data.toList.length+b.data.toList.length) 9223372036854775807 with
  | false=>simp only [hb] at h; cases h
  | true=>
   simp only [hb,osi] at h
   subst h
   have hle:=Nat.le_of_ble_eq_true hb
   have hm:IntKind.i64.max=9223372036854775807:=by decide
   have hn:¬ (((a.size+b.size:Nat):Int) > IntKind.i64.max):=by
    rw [hm]
    have h1:a.size=a.data.toList.length:=Array.length_toList.symm
    have h2:b.size=b.data.toList.length:=Array.length_toList.symm
    omega
   exact ⟨.string (a++b),by simp only [Op.stringOp,if_neg hn]; rfl,.str _ _ _ (by simp)⟩
 all_goals
  simp only [osi] at h
  subst h
  exact ⟨_,by simp only [Op.stringOp,ByteArray.toList_eq,Qsd]; rfl,.bool _ _⟩
theorem QpY {t:TypeId}{d:TypeDesc}(hd:P.underlying t=some d)(hr:QnJ c (c.ty t).d d){x y:AV}{u v:Value}{b:Bool}(h:Qfo (c.ty t).d x y=some b)(hx:VRel I ρ x u)(hy:VRel I ρ y v)(n:Nat):
  (Op.equalIn (n+1) t u v).run P w=.ok b w∧Instr.sameNow d u v=some b:=by
 revert hr h
 generalize (c.ty t).d=td
 intro hr h
 unfold Op.equalIn
 rw [Sem.run_bind,run_underlying hd w]
 cases hr with
 | int k=>
  cases hx<;>simp [Qfo] at h
  rename_i k1 a
  cases hy<;>simp at h
  rename_i k2 b'
  by_cases hk:k1=k2
  ·subst hk
   simp [QgX] at h
   subst h
   simp [Instr.sameNow]
   rfl
  ·simp [hk] at h
 | bool=>
  cases hx<;>simp [Qfo] at h
  cases hy<;>simp at h
  subst h
  simp [Instr.sameNow]
 | str=>
  cases hx<;>simp [Qfo] at h
  rename_i s1 b1 e1
  cases hy<;>simp at h
  rename_i s2 b2 e2
  subst h
  have e:(b1==b2)=(s1==s2):=by
   rw [← e1,← e2]
   cases b1 with |mk d1=>cases b2 with |mk d2=>
   show (d1==d2)=_
   rw [Bool.eq_iff_iff,beq_iff_eq,beq_iff_eq]
   exact ⟨fun h=>by rw [h],fun h=>by simpa using h⟩
  simp [Instr.sameNow,e]
 | _=>simp [Qfo] at h
theorem Qse (hc:TysOk P c)(us vs:Array Value)(n:Nat):∀ (gs:List Field) (fs:List (Nat×TypeId)) (xs ys:List AV) (o:Nat) (b:Bool),
  Qgr c fs xs ys=some b→fs.length=gs.length→(∀ (k:Nat) (p:Nat×TypeId) (g:Field),fs[k]?=some p→gs[k]?=some g→g.offset=p.1∧g.type=p.2∧(c.ty p.2).known=true)→
  (∀ g∈gs,g.name≠ "_")→(∀ (k:Nat) (g:Field),gs[k]?=some g→g.offset=o+k)→
  (∀ (j:Nat) (x:AV),xs[j]?=some x→∃ u,us[o+j]?=some u∧VRel I ρ x u)→(∀ (j:Nat) (x:AV),ys[j]?=some x→∃ u,vs[o+j]?=some u∧VRel I ρ x u)→
  (forIn gs ((none,()):Option Bool×Unit) (fun f __s=>
              if f.name≠ "_" then do
               let __do_lift ← part f.type us f.offset
               let __do_lift_1 ← part f.type vs f.offset
               let __do_lift ← Op.equalIn (n+1) f.type __do_lift __do_lift_1
               if (!__do_lift)=true then pure (ForInStep.done (some false,()))
                else pure (ForInStep.yield (none,()))
              else pure (ForInStep.yield (none,()))):Sem (Option Bool×Unit)).run P w=.ok (if b then none else some false,()) w
 | [],[],xs,ys,o,b,h,_,_,_,_,_,_=>by
  cases xs<;>cases ys<;>simp [Qgr] at h
  subst h
  rfl
 | [],_::_,xs,ys,o,b,h,hl,_,_,_,_,_=>by simp at hl
 | _::_,[],xs,ys,o,b,h,hl,_,_,_,_,_=>by simp at hl
 | g::gs,p::fs,xs,ys,o,b,h,hl,hf,hn,ho,hx,hy=>by
  cases xs with
  | nil=>cases ys<;>simp [Qgr] at h
  | cons x xs=>cases ys with
   | nil=>simp [Qgr] at h
   | cons y ys=>
    simp only [Qgr] at h
    obtain ⟨h1,h2,h3⟩:=hf 0 p g rfl rfl
    obtain ⟨i,d,z,ht⟩:=hc.ty p.2 h3
    have hoff:g.offset=o:=by simpa using ho 0 g rfl
    obtain ⟨u,hu,hxu⟩:=hx 0 x rfl
    obtain ⟨v,hv,hyv⟩:=hy 0 y rfl
    rw [Nat.add_zero] at hu hv
    have hne:g.name≠ "_" := hn g (by simp)
    cases hk:Qfo (c.ty p.2).d x y with
    | none=>simp [hk] at h
    | some r=>
     have hnagg:(c.ty p.2).isAgg=false:=by
      unfold TI.isAgg
      revert hk
      generalize (c.ty p.2).d=td
      cases td<;>simp [Qfo]
     have hpu:∀ (vs:Array Value) (u:Value),vs[o]?=some u→(part g.type vs g.offset).run P w=.ok u w:=fun vs u h=>by
      unfold part
      rw [h2,Sem.run_bind,QpW ht,hnagg,hoff]
      simp [h]
     obtain ⟨hrun,_⟩:=QpY (P:=P) (w:=w) ht.und ht.rel hk hxu hyv n
     rw [List.forIn_cons]
     simp only [Sem.run_bind,if_pos hne,hpu us u hu,hpu vs v hv,Result.andThen_ok]
     rw [h2,hrun]
     simp only [Result.andThen_ok]
     cases r with
     | false=>simp [hk] at h; subst h; rfl
     | true=>
      simp only [hk] at h
      simp only [Bool.not_true,Bool.false_eq_true,if_false,Sem.run_pure,Result.andThen_ok]
      refine Qse hc us vs n gs fs xs ys (o+1) b h (by simpa using hl) (fun k p g hp hg=>hf (k+1) p g hp hg) (fun g hg=>hn g (by simp [hg]))
       (fun k g hg=>by have:=ho (k+1) g hg; omega) (fun j x hj=>?_) (fun j x hj=>?_)
      ·have:=hx (j+1) x hj; rwa [show o+(j+1)=o+1+j by omega] at this
      ·have:=hy (j+1) x hj; rwa [show o+(j+1)=o+1+j by omega] at this
theorem QCF (hc:TysOk P c){t:TypeId}{cst:Bool}{x y:AV}{u v:Value}{b:Bool}(h:eqAV c (c.ty t) cst x y=some b)(hx:VRel I ρ x u)(hy:VRel I ρ y v):
  (Op.equal t u v).run P w=.ok b w∧∀ (op:BinOp) (a1 a2:Operand),(cst=true→(isConst a1||isConst a2)=true)→(eqGuard op t a1 a2 u v).run P w=.ok () w:=by
 have hkn:(c.ty t).known=true:=by
  unfold eqAV at h
  unfold TI.known
  cases hd:(c.ty t).d<;>simp [hd] at h<;>rfl
 obtain ⟨i,d,z,ht⟩:=hc.ty t hkn
 have hr:=ht.rel
 have hu:=ht.und
 have hg0:∀ (u v:Value),(∀ (a:Unit),u=.nilIface→v=.nilIface→False)→(∀ xs ys,u=.agg xs→v=.agg ys→False)→∀ (op:BinOp) (a1 a2:Operand),(eqGuard op t a1 a2 u v).run P w=.ok () w:=by
  intro u v h1 h2 op a1 a2
  unfold eqGuard
  cases op<;>simp<;>cases u<;>cases v<;>first |rfl |exact (h1 () rfl rfl).elim |exact (h2 _ _ rfl rfl).elim
 unfold Op.equal Op.maxDepth Op.equalIn
 rw [Sem.run_bind,run_underlying hu w]
 unfold eqAV at h
 generalize hti:c.ty t=ti at h
 cases ti with |mk td sz by_ ze fl=>
 rw [hti] at hr
 simp only at h hr
 cases hr with
 | bool=>
  cases hx<;>simp at h
  cases hy<;>simp at h
  subst h
  exact ⟨rfl,fun op a1 a2 _=>hg0 _ _ (by simp) (by simp) op a1 a2⟩
 | ptr e=>
  cases hx<;>simp at h<;>cases hy<;>simp at h<;>subst h<;>exact ⟨rfl,fun op a1 a2 _=>hg0 _ _ (by simp) (by simp) op a1 a2⟩
 | slice e he=>
  dsimp only at h
  split at h<;>simp only [osi,reduceCtorEq] at h<;>subst h<;>cases hx<;>cases hy<;>first
   | exact ⟨rfl,fun op a1 a2 _=>hg0 _ _ (by simp) (by simp) op a1 a2⟩
   | (exfalso; simp_all; done)
   | (exfalso; contradiction)
 | map k e _ _=>
  cases hx<;>simp at h<;>cases hy<;>simp at h<;>subst h<;>exact ⟨rfl,fun op a1 a2 _=>hg0 _ _ (by simp) (by simp) op a1 a2⟩
 | func=>
  cases hx<;>simp at h<;>cases hy<;>simp at h<;>subst h<;>exact ⟨rfl,fun op a1 a2 _=>hg0 _ _ (by simp) (by simp) op a1 a2⟩
 | iface ms=>
  dsimp only at h
  split at h
  ·cases cst<;>simp at h
   subst h
   cases hx
   cases hy
   refine ⟨rfl,fun op a1 a2 hcst=>?_⟩
   have hb:=hcst rfl
   unfold eqGuard
   cases op<;>simp<;>(cases a1<;>cases a2<;>simp [isConst] at hb<;>simp)
  ·simp at h; subst h; cases hx; cases hy; exact ⟨rfl,fun op a1 a2 _=>hg0 _ _ (by simp) (by simp) op a1 a2⟩
  ·simp at h; subst h; cases hx; cases hy; exact ⟨rfl,fun op a1 a2 _=>hg0 _ _ (by simp) (by simp) op a1 a2⟩
  ·simp at h
 | Qbk fs gs hl hf=>
  cases hx with
  | agg _ xs us hlx hvx=>
   cases hy with
   | agg _ ys vs hly hvy=>
    simp only at h
    cases hfl:fl with
    | false=>simp [hfl] at h
    | true=>
     simp only [hfl] at h
     have hfo:=hc.flat t (by rw [hti]; exact hfl) gs hu
     have hrun:=Qse (P:=P) (I:=I) (ρ:=ρ) (w:=w) hc us vs 9998 gs.toList fs xs ys 0 b h (by simpa using hl) (fun k p g hp hg=>hf k p g hp (by simpa using hg)) (fun g hg=>hfo.names g (by simpa using hg))
      (fun k g hg=>by have:=hfo.offs k g (by simpa using hg); omega)
      (fun j x hj=>by
       have hlt:j<us.size:=by have:=(List.getElem?_eq_some_iff.1 hj).1; omega
       exact ⟨us[j],by simp,hvx j x _ hj (Array.getElem?_eq_getElem hlt)⟩)
      (fun j x hj=>by
       have hlt:j<vs.size:=by have:=(List.getElem?_eq_some_iff.1 hj).1; omega
       exact ⟨vs[j],by simp,hvy j x _ hj (Array.getElem?_eq_getElem hlt)⟩)
     constructor
     ·simp only [Result.andThen_ok,Sem.run_bind,run_program,hfo.stood,Bool.false_eq_true,if_false]
      rw [← Array.forIn_toList,hrun]
      cases b<;>rfl
     ·intro op a1 a2 _
      unfold eqGuard
      cases op<;>simp [hfo.guard]
   | _=>simp at h
  | _=>simp at h
 | _=>simp at h
end
end Go.Ev
namespace Go.Ev
open Go.RowKit
section
variable {P:Program} {c:Ctx} {I:Imm} {ρ:Ren} {H:Heap} {w:World}
def eqOp (op:BinOp)(r:Option Bool):Option AV:=match op with
 | .eql=>match r with |some b=>some (.bool b) |none=>none
 | .neq=>match r with |some b=>some (.bool !b) |none=>none
 | _=>none
theorem QAd (hc:TysOk P c){t:TypeId}{a1 a2:Operand}{op:BinOp}{x y v:AV}{u1 u2:Value}(h:binop c (c.ty t) (isConst a1||isConst a2) op x y=some v)(hx:VRel I ρ x u1)(hy:VRel I ρ y u2):
  ∃ cv,(do eqGuard op t a1 a2 u1 u2; binOp op t u1 u2:Sem Value).run P w=.ok cv w∧VRel I ρ v cv:=by
 have hgi:∀ (k j:IntKind) (a b:Int),(eqGuard op t a1 a2 (.int k a) (.int j b)).run P w=.ok () w:=fun k j a b=>by unfold eqGuard; cases op<;>simp
 have hgs:∀ (a b:ByteArray),(eqGuard op t a1 a2 (.string a) (.string b)).run P w=.ok () w:=fun a b=>by unfold eqGuard; cases op<;>simp
 have key:eqOp op (eqAV c (c.ty t) (isConst a1||isConst a2) x y)=some v→(∀ k n,u1≠.int k n)→(∀ s,u1=.string s→∀ s',u2≠.string s')→(∀ k n,u1≠.float k n)→(∀ k n m,u1≠.complex k n m)→
   ∃ cv,(do eqGuard op t a1 a2 u1 u2; binOp op t u1 u2:Sem Value).run P w=.ok cv w∧VRel I ρ v cv:=by
  intro hk n1 n2 n3 n4
  cases hq:eqAV c (c.ty t) (isConst a1||isConst a2) x y with
  | none=>cases op<;>simp [hq,eqOp] at hk
  | some b=>
   obtain ⟨e1,e2⟩:=QCF (P:=P) (w:=w) hc hq hx hy
   cases op<;>simp [hq,eqOp] at hk
   ·subst hk
    refine ⟨.bool b,?_,.bool _ _⟩
    have hb:binOp .eql t u1 u2=(do pure (.bool (← Op.equal t u1 u2))):=by
     unfold binOp
     cases u1<;>cases u2<;>first |rfl |exact absurd rfl (n1 _ _) |exact absurd rfl (n2 _ rfl _) |exact absurd rfl (n3 _ _) |exact absurd rfl (n4 _ _ _)
    rw [hb]
    simp only [Sem.run_bind,e2 .eql a1 a2 (fun h=>h),Result.andThen_ok,e1]
    rfl
   ·subst hk
    refine ⟨.bool !b,?_,.bool _ _⟩
    have hb:binOp .neq t u1 u2=(do pure (.bool (!(← Op.equal t u1 u2)))):=by
     unfold binOp
     cases u1<;>cases u2<;>first |rfl |exact absurd rfl (n1 _ _) |exact absurd rfl (n2 _ rfl _) |exact absurd rfl (n3 _ _) |exact absurd rfl (n4 _ _ _)
    rw [hb]
    simp only [Sem.run_bind,e2 .neq a1 a2 (fun h=>h),Result.andThen_ok,e1]
    rfl
 unfold binop at h
 cases hx with
 | int _ k a=>
  cases hy with
  | int _ j b=>
   simp only [Sem.run_bind,hgi,Result.andThen_ok]
   by_cases hop:op=.shl
   ·subst hop
    simp only [Qgi] at h
    by_cases hb:b<0
    ·simp [hb] at h
    ·simp [hb,QuC] at h
     subst h
     exact ⟨_,by simp [binOp,Op.shift,hb],.int _ _ _⟩
   ·by_cases hop':op=.shr
    ·subst hop'
     simp only [Qgi] at h
     by_cases hb:b<0
     ·simp [hb] at h
     ·simp [hb] at h
      subst h
      exact ⟨_,by simp [binOp,Op.shift,hb],.int _ _ _⟩
    ·by_cases hk:k=j
     ·subst hk
      have h':QgO op k a b=some v:=by cases op<;>first |exact absurd rfl hop |exact absurd rfl hop' |simpa using h
      exact QyJ h' hop hop'
     ·exfalso
      cases op<;>first |exact absurd rfl hop |exact absurd rfl hop' |simp [hk] at h
  | _=>
   exfalso
   cases op<;>simp at h<;>(unfold eqAV at h; cases hd:(c.ty t).d<;>simp [hd] at h)
 | str _ s bs e=>
  cases hy with
  | str _ s' bs' e'=>
   simp only [Sem.run_bind,hgs,Result.andThen_ok]
   subst e
   subst e'
   exact QyK h
  | _=>
   exfalso
   cases op<;>simp at h<;>(unfold eqAV at h; cases hd:(c.ty t).d<;>simp [hd] at h)
 | undef=>
  exfalso
  cases op<;>simp at h<;>(unfold eqAV at h; cases hd:(c.ty t).d<;>simp [hd] at h)
 | _=>exact key (by cases op<;>exact h) (by simp) (by simp) (by simp) (by simp)
theorem QCG {op:UnOp}{x v:AV}{u:Value}(h:unop op x=some v)(hx:VRel I ρ x u):∃ cv,(Op.unary op u).run P w=.ok cv w∧VRel I ρ v cv:=by
 unfold unop at h
 split at h
 ·rename_i k n
  simp only [osi] at h; subst h; cases hx
  exact ⟨.int k (k.wrap (0 - n)),by simp [Op.unary,Op.intArith],by rw [QuC]; exact .int _ _ _⟩
 ·split at h
  ·rename_i k n r hr
   simp at h; subst h; cases hx
   unfold intBits at hr
   simp at hr
   subst hr
   exact ⟨.int _ _,by simp [Op.unary,Op.intBits],.int _ _ _⟩
  ·cases h
 ·simp at h; subst h; cases hx
  exact ⟨.bool _,by simp [Op.unary],.bool _ _⟩
 ·cases h
theorem Qwa (hc:TysOk P c){s t:TypeId}{x v:AV}{u:Value}(h:QkB (c.ty s) (c.ty t) x=some v)(hx:VRel I ρ x u):∃ cv,(convert s t u).run P w=.ok cv w∧VRel I ρ v cv:=by
 unfold QkB at h
 cases hk:(c.ty s).known with
 | false=>simp [hk] at h
 | true=>
  simp only [hk] at h
  have hkt:(c.ty t).known=true:=by unfold TI.known; cases hd:(c.ty t).d<;>simp [hd] at h<;>rfl
  obtain ⟨i1,d1,z1,h1⟩:=hc.ty s hk
  obtain ⟨i2,d2,z2,h2⟩:=hc.ty t hkt
  have r2:=h2.rel
  have r1:=h1.rel
  have e1:=h1.und
  have e2:=h2.und
  unfold convert
  simp only [Sem.run_bind,run_underlying e1,run_underlying e2,Result.andThen_ok]
  revert h
  revert r2 r1
  generalize (c.ty t).d=td
  generalize (c.ty s).d=sd
  intro r2 r1 h
  cases r2 with
  | int k=>
   cases hx<;>simp at h
   subst h
   rename_i k' n
   exact ⟨.int k (k.wrap n),by cases r1<;>simp [Conv.intToInt],by rw [QuC]; exact .int _ _ _⟩
  | str=>
   cases hx<;>simp at h
   subst h
   rename_i e
   exact ⟨_,by cases r1<;>first |rfl |simp,.str _ _ _ e⟩
  | _=>simp at h
end
end Go.Ev
namespace Go.Ev
open Go.RowKit
section
variable {P:Program} {c:Ctx} {I:Imm} {ρ:Ren} {H:Heap} {w:World}
theorem run_sizeOf {t:TypeId}{i:TypeInfo}{d:TypeDesc}{z:Value}(h:TyOk P c t i d z)(w:World):(sizeOf t).run P w=.ok (c.ty t).size w:=by
 simp [sizeOf,typeInfo,h.info,h.size]
theorem QCH (hd:∀ (i:TI),i.d=.other→False→True){t:TypeId}(h:(c.ty t).d≠.other):(c.ty t).known=true:=by
 unfold TI.known
 cases hd:(c.ty t).d<;>simp_all
theorem QoJ {t:TypeId}(h:(c.ty t).d≠.other):(c.ty t).known=true:=QCH (fun _ _ _=>trivial) h
theorem QxC (hc:TysOk P c)(hs:Sim I ρ H w){t:TypeId}{x v:AV}{u:Value}(h:Qhu c t H x=some v)(hx:VRel I ρ x u):∃ cv,(Instr.loadAt t u).run P w=.ok cv w∧VRel I ρ v cv:=by
 unfold Qhu at h
 cases hx with
 | ptr _ b i o g z n hρ=>
  simp only at h
  have key:∀ {r:List AV} {z':Nat} {p:Bool} {es:List (List AV)},(H[b]?=some (.rows z' p es)∨H[b]?=some (.ro z' es))→es[i]?=some r→pack (c.ty t) (r.drop o)=some v→
    ∃ cv,(Instr.loadAt t (.pointer (some ⟨g,i * z+o,none⟩))).run P w=.ok cv w∧VRel I ρ v cv:=by
   intro r z' p es hb hr hp
   obtain ⟨h1,h2,h3,h4⟩:=QAa hs hb hρ hr
   obtain ⟨cv,hrun,hrel⟩:=QpX hc hp (h1.drop o)
   exact ⟨cv,by simp only [Instr.loadAt,Instr.sureAddr,Sem.run_bind,Sem.run_pure,Result.andThen_ok,hrun],hrel⟩
  split at h
  ·rename_i z' p es hb
   split at h
   ·rename_i r hr; exact key (.inl hb) hr h
   ·cases h
  ·rename_i z' es hb
   split at h
   ·rename_i r hr; exact key (p:=true) (.inr hb) hr h
   ·cases h
  ·cases h
 | iptr _ cs g off vs h1 h2=>
  simp only at h
  obtain ⟨cv,hrun,hrel⟩:=QpX (I:=I) (ρ:=ρ) hc h (fun j x hx=>⟨vs j,hs.imm.at_ _ _ _ (h1 j x hx),(h2 j x hx).any⟩)
  exact ⟨cv,by simp only [Instr.loadAt,Instr.sureAddr,Sem.run_bind,Sem.run_pure,Result.andThen_ok,hrun],hrel⟩
 | _=>simp at h
theorem QuD {cs:List AV}{g off:Nat}{vs:Nat→Value}(h:∀ (j:Nat) (x:AV),cs[j]?=some x→I g (off+j)=some (vs j))(hv:∀ (j:Nat) (x:AV),cs[j]?=some x→VRel I ρ0 x (vs j))(k:Nat):
  VRel I ρ (.iptr (cs.drop k)) (.pointer (some ⟨g,off+k,none⟩)):=
 .iptr _ _ _ _ (fun j=>vs (k+j)) (fun j x hx=>by rw [List.getElem?_drop] at hx; rw [Nat.add_assoc]; exact h _ x hx) (fun j x hx=>by rw [List.getElem?_drop] at hx; exact hv _ x hx)
theorem Qs8 (hc:TysOk P c){t:TypeId}{f:Nat}{x v:AV}{u:Value}(h:QgS c (c.ty t) x f=some v)(hx:VRel I ρ x u):∃ cv,(Instr.fieldAt t u f).run P w=.ok cv w∧VRel I ρ v cv:=by
 unfold QgS QnA at h
 have hkn:(c.ty t).known=true:=by unfold TI.known; cases hd:(c.ty t).d<;>simp [hd] at h<;>rfl
 obtain ⟨i,d,z,ht⟩:=hc.ty t hkn
 have hr:=ht.rel
 have hu:=ht.und
 revert h hr
 generalize (c.ty t).d=td
 intro h hr
 cases hr with
 | Qbk fs gs hl hf=>
  simp only at h
  cases hfs:fs[f]? with
  | none=>simp [hfs] at h
  | some p=>
   obtain ⟨off,e⟩:=p
   simp only [hfs] at h
   have hlt:f<gs.size:=by have:=(List.getElem?_eq_some_iff.1 hfs).1; omega
   have hgs:gs[f]?=some gs[f]:=Array.getElem?_eq_getElem hlt
   obtain ⟨h1,h2,h3⟩:=hf f _ _ hfs hgs
   obtain ⟨i2,d2,z2,ht2⟩:=hc.ty e h3
   cases hb:Nat.ble 1 (c.ty e).size with
   | false=>simp [hb] at h
   | true=>
    simp only [hb] at h
    have hpos:=Nat.le_of_ble_eq_true hb
    have hplace:∀ (g o:Nat),(fieldPlace ⟨g,o,none⟩ gs[f]).run P w=.ok ⟨g,o+off,none⟩ w:=fun g o=>by
     unfold fieldPlace
     rw [Sem.run_bind,h2,run_sizeOf ht2]
     have hne:(c.ty e).size≠0:=by omega
     simp only [Result.andThen_ok,if_neg hne,Sem.run_pure,h1,Addr.QgW]
    have hat:∀ (g o:Nat),(Instr.fieldAt t (.pointer (some ⟨g,o,none⟩)) f).run P w=.ok (.pointer (some ⟨g,o+off,none⟩)) w:=fun g o=>by
     unfold Instr.fieldAt
     simp only [Sem.run_bind,run_underlying hu,Result.andThen_ok,hgs,Instr.sureAddr,Sem.run_pure,hplace]
    cases hx with
    | ptr _ b i o g z n hρ=>
     simp only [osi] at h
     subst h
     exact ⟨_,hat _ _,by rw [Nat.add_assoc]; exact .ptr _ _ _ _ _ _ _ hρ⟩
    | iptr _ cs g o vs h1 h2=>
     simp only [Qat,osi] at h
     subst h
     exact ⟨_,hat _ _,QuD h1 h2 off⟩
    | _=>simp at h
 | _=>simp at h
theorem QAe (hc:TysOk P c){t:TypeId}{f:Nat}{x v:AV}{u:Value}(h:QpJ c (c.ty t) x f=some v)(hx:VRel I ρ x u):∃ cv,(Instr.field t u f).run P w=.ok cv w∧VRel I ρ v cv:=by
 unfold QpJ QnA at h
 have hkn:(c.ty t).known=true:=by unfold TI.known; cases hd:(c.ty t).d<;>simp [hd] at h<;>rfl
 obtain ⟨i,d,z,ht⟩:=hc.ty t hkn
 have hr:=ht.rel
 have hu:=ht.und
 revert h hr
 generalize (c.ty t).d=td
 intro h hr
 cases hr with
 | Qbk fs gs hl hf=>
  simp only at h
  cases hfs:fs[f]? with
  | none=>simp [hfs] at h
  | some p=>
   obtain ⟨off,e⟩:=p
   simp only [hfs] at h
   have hlt:f<gs.size:=by have:=(List.getElem?_eq_some_iff.1 hfs).1; omega
   have hgs:gs[f]?=some gs[f]:=Array.getElem?_eq_getElem hlt
   obtain ⟨h1,h2,h3⟩:=hf f _ _ hfs hgs
   cases hx with
   | agg _ cs vs hl hv=>
    simp only at h
    obtain ⟨cv,hrun,hrel⟩:=QxB (w:=w) hc h hl hv
    refine ⟨cv,?_,hrel⟩
    unfold Instr.field
    simp only [Sem.run_bind,run_underlying hu,Result.andThen_ok,hgs,asAgg,Sem.run_pure,h1,h2,hrun]
   | _=>simp at h
 | _=>simp at h
theorem QgG {n:Int}{len i:Nat}(h:atIdx n len=some i):0≤n∧n<len∧n.toNat=i∧i<len:=by
 unfold atIdx at h
 rw [Qfu,Qgi] at h
 by_cases h0:0≤n∧n<len
 ·simp [h0.1,h0.2] at h
  subst h
  exact ⟨h0.1,h0.2,rfl,by omega⟩
 ·have:(decide (0≤n)&&decide (n<(len:Int)))=false:=by
   cases hb:(decide (0≤n)&&decide (n<(len:Int))) with
   | false=>rfl
   | true=>simp at hb; exact absurd hb h0
  simp [this] at h
theorem QpZ (hs:Sim I ρ H w){b k g z n:Nat}(h:QgR H b k=true)(hρ:ρ b=some (g,z,n)):z=k:=by
 unfold QgR QgQ at h
 split at h
 ·rename_i z' hz
  have he:=Nat.eq_of_beq_eq_true h
  split at hz
  ·rename_i zz p es hb
   simp at hz
   obtain ⟨h1,_⟩:=hs.blk b _ g z n hb hρ
   omega
  ·rename_i zz es hb
   simp at hz
   obtain ⟨h1,_⟩:=hs.blk b _ g z n hb hρ
   omega
  ·cases hz
 ·cases h
theorem Qs9 (hc:TysOk P c)(hs:Sim I ρ H w){t:TypeId}{x y v:AV}{u u2:Value}(h:Qdi c (c.ty t) H x y=some v)(hx:VRel I ρ x u)(hy:VRel I ρ y u2):
  ∃ cv,(Instr.indexAt t u u2).run P w=.ok cv w∧VRel I ρ v cv:=by
 unfold Qdi at h
 cases hy with
 | int _ k n=>
  simp only at h
  have hkn:(c.ty t).known=true:=by unfold TI.known; cases hd:(c.ty t).d<;>simp [hd] at h<;>rfl
  obtain ⟨i,d,z,ht⟩:=hc.ty t hkn
  have hr:=ht.rel
  have hu:=ht.und
  revert h hr
  generalize (c.ty t).d=td
  intro h hr
  cases hr with
  | slice e he=>
   obtain ⟨i2,d2,z2,ht2⟩:=hc.ty e he
   simp only at h
   have hat:∀ (a:Addr) (len cap:Nat),0≤n∧n<len→(Instr.indexAt t (.slice (some a) len cap) (.int k n)).run P w=.ok (.pointer (some (a.add (n.toNat * (c.ty e).size)))) w:=fun a len cap hn=>by
    unfold Instr.indexAt
    simp only [Sem.run_bind,asIntOf,Sem.run_pure,Result.andThen_ok,run_underlying hu,if_pos hn,run_sizeOf ht2]
   unfold Qji at h
   cases hx with
   | lst _ es g off cap z' vs hne hl hz h1 h2 h3=>
    simp only at h
    cases ha:atIdx n es.length with
    | none=>simp [ha] at h
    | some j=>
     obtain ⟨a1,a2,a3,a4⟩:=QgG ha
     have hej:es[j]?=some es[j]:=List.getElem?_eq_getElem a4
     simp only [ha,hej] at h
     cases hb:Nat.beq es[j].length (c.ty e).size with
     | false=>simp [hb] at h
     | true=>
      have hlen:=Nat.eq_of_beq_eq_true hb
      have hzj:=hz es[j] (List.getElem_mem a4)
      simp only [hb,osi] at h
      subst h
      refine ⟨_,hat _ _ _ ⟨a1,a2⟩,?_⟩
      rw [Addr.QgW,a3,← hlen,hzj]
      refine .iptr _ _ _ _ (vs j) (fun q x hx=>?_) (fun q x hx=>h2 j q _ x hej hx)
      have:=h1 j q _ x hej hx
      rwa [← Nat.add_assoc] at this
   | lst0=>simp [atIdx,Qfu,Qgi] at h; exfalso; split at h<;>simp_all<;>omega
   | sl _ b off len a cap g z n' hρ ha hl=>
    simp only at h
    cases hi:atIdx n len with
    | none=>simp [hi] at h
    | some j=>
     obtain ⟨a1,a2,a3,a4⟩:=QgG hi
     simp only [hi] at h
     cases hb:QgR H b (c.ty e).size with
     | false=>simp [hb] at h
     | true=>
      have hz:=QpZ hs hb hρ
      simp only [hb,osi] at h
      subst h
      obtain ⟨e1,e2⟩:=ha (.inl (by omega))
      refine ⟨_,hat _ _ _ ⟨a1,a2⟩,?_⟩
      rw [e1,Addr.QgW,a3,← hz,← Nat.add_mul]
      have:=VRel.ptr (I:=I) ρ b (off+j) 0 g z n' hρ
      rwa [Nat.add_zero] at this
   | sle _ b g z n' a hρ=>
    simp only at h
    cases hi:atIdx n 0 with
    | none=>simp [hi] at h
    | some j=>obtain ⟨a1,a2,a3,a4⟩:=QgG hi; omega
   | _=>simp at h
  | arr m e he=>
   obtain ⟨i2,d2,z2,ht2⟩:=hc.ty e he
   simp only at h
   have hat:∀ (a:Addr),0≤n∧n<m→(Instr.indexAt t (.pointer (some a)) (.int k n)).run P w=.ok (.pointer (some (a.add (n.toNat * (c.ty e).size)))) w:=fun a hn=>by
    unfold Instr.indexAt
    simp only [Sem.run_bind,asIntOf,Sem.run_pure,Result.andThen_ok,run_underlying hu,if_pos hn,run_sizeOf ht2,Instr.sureAddr]
   unfold Qs3 at h
   cases hi:atIdx n m with
   | none=>simp [hi] at h
   | some j=>
    obtain ⟨a1,a2,a3,a4⟩:=QgG hi
    simp only [hi] at h
    cases hx with
    | ptr _ b q o g z n' hρ=>
     simp only [osi] at h
     subst h
     exact ⟨_,hat _ ⟨a1,a2⟩,by rw [Addr.QgW,a3,Nat.add_assoc]; exact .ptr _ _ _ _ _ _ _ hρ⟩
    | iptr _ cs g o vs h1 h2=>
     simp only [Qat,osi] at h
     subst h
     exact ⟨_,hat _ ⟨a1,a2⟩,by rw [Addr.QgW,a3]; exact QuD h1 h2 _⟩
    | _=>simp at h
  | _=>simp at h
 | _=>simp at h
theorem QAf (hc:TysOk P c){t:TypeId}{x y v:AV}{u u2:Value}(h:QpK c (c.ty t) x y=some v)(hx:VRel I ρ x u)(hy:VRel I ρ y u2):
  ∃ cv,(Instr.index t u u2).run P w=.ok cv w∧VRel I ρ v cv:=by
 unfold QpK at h
 cases hy with
 | int _ k n=>
  simp only at h
  have hkn:(c.ty t).known=true:=by unfold TI.known; cases hd:(c.ty t).d<;>simp [hd] at h<;>rfl
  obtain ⟨i,d,z,ht⟩:=hc.ty t hkn
  have hr:=ht.rel
  have hu:=ht.und
  revert h hr
  generalize (c.ty t).d=td
  intro h hr
  cases hr with
  | arr m e he=>
   obtain ⟨i2,d2,z2,ht2⟩:=hc.ty e he
   cases hx with
   | agg _ cs vs hl hv=>
    simp only at h
    unfold Qph at h
    cases hi:atIdx n m with
    | none=>simp [hi] at h
    | some j=>
     obtain ⟨a1,a2,a3,a4⟩:=QgG hi
     simp only [hi] at h
     obtain ⟨cv,hrun,hrel⟩:=QxB (w:=w) hc h hl hv
     refine ⟨cv,?_,hrel⟩
     unfold Instr.index
     simp only [Sem.run_bind,asIntOf,Sem.run_pure,Result.andThen_ok,run_underlying hu,if_pos (And.intro a1 a2),run_sizeOf ht2,a3,hrun]
   | _=>simp at h
  | str=>
   cases hx with
   | str _ s bs e=>
    simp only at h
    unfold Qpg at h
    cases hi:atIdx n s.length with
    | none=>simp [hi] at h
    | some j=>
     obtain ⟨a1,a2,a3,a4⟩:=QgG hi
     simp only [hi,List.getElem?_eq_getElem a4,osi] at h
     subst h
     subst e
     have hlt:j<bs.size:=by
      have:bs.size=bs.data.toList.length:=Array.length_toList.symm
      omega
     have hg:bs[j]?=some bs.data.toList[j]:=by
      simp [getElem?_def,hlt]
      rfl
     refine ⟨_,?_,.int _ _ _⟩
     unfold Instr.index
     simp only [Sem.run_bind,asIntOf,Sem.run_pure,Result.andThen_ok,run_underlying hu,if_pos a1,a3,hg]
   | _=>simp at h
  | _=>cases hx<;>simp at h
 | _=>simp at h
end
end Go.Ev
namespace Go.Ev
open Go.RowKit
section
variable {P:Program} {c:Ctx} {I:Imm} {ρ:Ren} {H:Heap} {w:World}
inductive ORel (I:Imm)(ρ:Ren):Option AV→Option Value→Prop where
 | none:ORel I ρ none none
 | some (x:AV) (u:Value) (h:VRel I ρ x u):ORel I ρ (some x) (some u)
theorem ORel.of {fr:Fr}{a:Act}{n:Nat}(h:QcO I ρ fr a.tmps n)(x:Option Operand):ORel I ρ (x.map (opv fr)) (x.map a.eval):=by
 cases x with
 | none=>exact .none
 | some x=>exact .some _ _ (QaL h x)
theorem QmK {x:Option AV}{u:Option Value}{dflt most k y:Nat}(h:bound x dflt most=some k)(hx:ORel I ρ x u)(hy:most≤y)(hd:dflt≤most):
  k≤most∧∀ code,(match u with |some v=>Instr.sliceBound v y code |none=>pure dflt:Sem Nat).run P w=.ok k w:=by
 cases hx with
 | none=>simp [bound] at h; subst h; exact ⟨hd,fun code=>rfl⟩
 | some x u hx=>
  unfold bound at h
  cases hx with
  | int _ kk n=>
   simp only at h
   rw [Qfu,Qfu] at h
   by_cases h0:0≤n∧n≤most
   ·simp [h0.1,h0.2] at h
    subst h
    refine ⟨by omega,fun code=>?_⟩
    have hc:0≤n∧n≤(y:Int):=by omega
    simp [Instr.sliceBound,asIntOf,hc]
   ·have:(decide (0≤n)&&decide (n≤(most:Int)))=false:=by
     cases hb:(decide (0≤n)&&decide (n≤(most:Int))) with
     | false=>rfl
     | true=>simp at hb; exact absurd hb h0
    simp [this] at h
  | _=>simp at h
theorem QkH {lo hi:Option AV}{ulo uhi:Option Value}{len cap l h:Nat}(b:Bool)(hh:bound hi len len=some h)(hl:bound lo 0 h=some l)(hlo:ORel I ρ lo ulo)(hhi:ORel I ρ hi uhi)(hc:len≤cap):
  (Instr.sliceBounds b len cap ulo uhi none).run P w=.ok (l,h,cap) w∧l≤h∧h≤len:=by
 obtain ⟨h1,h2⟩:=QmK (P:=P) (w:=w) hh hhi hc (Nat.le_refl _)
 obtain ⟨h3,h4⟩:=QmK (P:=P) (w:=w) hl hlo (Nat.le_refl h) (Nat.zero_le _)
 refine ⟨?_,h3,h1⟩
 unfold Instr.sliceBounds
 cases hhi with
 | none=>
  have e2:len=h:=by simp [bound] at hh; exact hh
  subst e2
  cases hlo with
  | none=>simp [bound] at hl; subst hl; rfl
  | some x u hx=>simp [h4 .sliceB]
 | some y v hy=>
  have e2:=fun code=>h2 code
  simp only at e2
  cases hlo with
  | none=>simp [bound] at hl; subst hl; cases b<;>simp [e2]
  | some x u hx=>
   have e4:=fun code=>h4 code
   simp only at e4
   cases b<;>simp [e2,e4]
theorem extract_data (s:ByteArray)(l h:Nat):(s.extract l h).data.toList=(s.data.toList.drop l).take (h - l):=by
 simp [ByteArray.data_extract,Array.toList_extract,List.extract_eq_take_drop]
theorem QAg (hc:TysOk P c)(hs:Sim I ρ H w){t:TypeId}{x v:AV}{u:Value}{lo hi:Option AV}{ulo uhi:Option Value}(h:Qet c t H x lo hi=some v)(hx:VRel I ρ x u)(hlo:ORel I ρ lo ulo)(hhi:ORel I ρ hi uhi):
  ∃ cv,(Instr.sliceAt t u ulo uhi none).run P w=.ok cv w∧VRel I ρ v cv:=by
 have hel:∀ {e:TypeId},elemOf (c.ty t)=some e→P.underlying t=some (.slice e)∧∀ w:World,(sizeOf e).run P w=.ok (c.ty e).size w:=by
  intro e he
  have hd:(c.ty t).d=.slice e:=by unfold elemOf at he; cases hd:(c.ty t).d<;>simp [hd] at he; rw [he]
  obtain ⟨i,d,z,ht⟩:=hc.ty t (QoJ (by rw [hd]; simp))
  have hr:=ht.rel
  rw [hd] at hr
  cases hr with
  | slice _ he2=>
   obtain ⟨i2,d2,z2,ht2⟩:=hc.ty e he2
   exact ⟨ht.und,fun w=>run_sizeOf ht2 w⟩
 have hat:∀ {e:TypeId},elemOf (c.ty t)=some e→∀ (a:Option Addr) (len cap l h:Nat),bound hi len len=some h→bound lo 0 h=some l→len≤cap→
   (Instr.sliceAt t (.slice a len cap) ulo uhi none).run P w=.ok (.slice (if cap=l then a else a.map (·.add (l * (c.ty e).size))) (h - l) (cap - l)) w∧l≤h∧h≤len:=by
  intro e he a len cap l h hh hl hcap
  obtain ⟨e1,e2⟩:=hel he
  obtain ⟨b1,b2,b3⟩:=QkH (P:=P) (w:=w) true hh hl hlo hhi hcap
  refine ⟨?_,b2,b3⟩
  unfold Instr.sliceAt Instr.slice
  simp only [Sem.run_bind,run_underlying e1,Result.andThen_ok,b1,e2,Sem.run_pure]
 unfold Qet at h
 cases hx with
 | str _ s bs e=>
  simp only at h
  split at h
  ·rename_i hd
   obtain ⟨i,d,z,ht⟩:=hc.ty t (QoJ (by rw [hd]; simp))
   have hr:=ht.rel
   rw [hd] at hr
   cases hr
   split at h
   ·rename_i hb hh
    split at h
    ·rename_i l hl
     simp only [Qat,osi] at h
     subst h
     subst e
     have hsz:bs.size=bs.data.toList.length:=Array.length_toList.symm
     rw [← hsz] at hh
     obtain ⟨b1,b2,b3⟩:=QkH (P:=P) (w:=w) false hh hl hlo hhi (Nat.le_refl _)
     refine ⟨.string (bs.extract l hb),?_,.str _ _ _ (extract_data _ _ _)⟩
     unfold Instr.sliceAt Instr.slice
     simp [run_underlying ht.und,b1]
    ·cases h
   ·cases h
  ·cases h
 | lst _ es g off cap z vs hne hl hz h1 h2 h3=>
  simp only at h
  split at h
  ·rename_i e hh he hbh
   split at h
   ·rename_i l hbl
    obtain ⟨r1,r2,r3⟩:=hat he (some ⟨g,off,none⟩) es.length cap l hh hbh hbl hl
    split at h
    ·rename_i hall
     simp only [Qat,osi] at h
     subst h
     refine ⟨_,r1,?_⟩
     have hlen:((es.drop l).take (hh - l)).length=hh - l:=by simp; omega
     have hz':z=(c.ty e).size:=by
      cases es with
      | nil=>exact absurd rfl hne
      | cons r es=>
       have:=hz r (by simp)
       simp at hall
       omega
     rcases Nat.eq_zero_or_pos (hh - l) with h0 |h0
     ·rw [h0,List.take_zero]
      exact .lst0 _ _ _
     ·have hcl:cap≠l:=by omega
      rw [if_neg hcl]
      simp only [Option.map_some,Addr.QgW]
      have hq:VRel I ρ (.lst ((es.drop l).take (hh - l))) (.slice (some ⟨g,off+l * (c.ty e).size,none⟩) ((es.drop l).take (hh - l)).length (cap - l)):=by
       refine .lst _ _ _ _ _ z (fun i j=>vs (l+i) j) (fun e0=>by rw [e0] at hlen; simp at hlen; omega) (by omega) (fun r hr=>hz r (QnG hr)) (fun i j r x hr hx=>?_) (fun i j r x hr hx=>?_) (fun r hr=>h3 r (QnG hr))
       ·obtain ⟨_,hr'⟩:=QpR hr
        have:=h1 (l+i) j r x hr' hx
        rw [← hz']
        rwa [show off+((l+i) * z+j)=off+l * z+(i * z+j) by rw [Nat.add_mul]; omega] at this
       ·obtain ⟨_,hr'⟩:=QpR hr
        exact h2 (l+i) j r x hr' hx
      rwa [hlen] at hq
    ·cases h
   ·cases h
  ·cases h
 | lst0 _ a cap=>
  simp only at h
  split at h
  ·rename_i e hh he hbh
   split at h
   ·rename_i l hbl
    simp only [List.length_nil] at hbh
    obtain ⟨r1,r2,r3⟩:=hat he a 0 cap l hh hbh hbl (Nat.zero_le _)
    have hv:v=.lst []:=by simpa [Qat] using h.symm
    subst hv
    have e0:hh - l=0:=by omega
    rw [e0] at r1
    exact ⟨_,r1,.lst0 _ _ _⟩
   ·cases h
  ·cases h
 | sl _ b off len a cap g z n hρ ha hl=>
  simp only at h
  split at h
  ·rename_i e hh he hbh
   split at h
   ·rename_i l hbl
    obtain ⟨r1,r2,r3⟩:=hat he (some a) len cap l hh hbh hbl hl
    split at h
    ·rename_i hsz
     have hz:=QpZ hs hsz hρ
     simp only [osi] at h
     subst h
     refine ⟨_,r1,?_⟩
     have e:(if cap=l then some a else Option.map (fun x=>x.add (l * (c.ty e).size)) (some a))=some (if cap=l then a else a.add (l * (c.ty e).size)):=by split<;>rfl
     rw [e]
     refine .sl _ _ _ _ _ _ g z n hρ (fun hpos=>?_) (by omega)
     rcases hpos with hpos |hpos
     ·obtain ⟨a1,a2⟩:=ha (.inl (by omega))
      have hcl:cap≠l:=by omega
      rw [if_neg hcl,a1,Addr.QgW,← hz,Nat.add_mul]
      exact ⟨rfl,by omega⟩
     ·have o0:off=0:=by omega
      have l0:l=0:=by omega
      subst l0
      obtain ⟨a1,a2⟩:=ha (.inr o0)
      rw [a1,Nat.zero_mul]
      refine ⟨?_,by omega⟩
      split
      ·simp [o0]
      ·simp [Addr.add,o0]
    ·cases h
   ·cases h
  ·cases h
 | sle _ b g z n a hρ=>
  simp only at h
  split at h
  ·rename_i e hh he hbh
   split at h
   ·rename_i l hbl
    obtain ⟨r1,r2,r3⟩:=hat he a 0 0 l hh hbh hbl (Nat.le_refl _)
    split at h
    ·have h0:hh=0:=by omega
     have l0:l=0:=by omega
     subst h0
     subst l0
     simp at h
     subst h
     exact ⟨_,r1,by simpa using .sle _ _ _ _ _ _ hρ⟩
    ·cases h
   ·cases h
  ·cases h
 | nils=>
  simp only at h
  split at h
  ·rename_i e hh l he hbh hbl
   have h0:hh=0:=by
    have:=(QmK (P:=P) (w:=w) (y:=0) hbh hhi (Nat.le_refl _) (Nat.le_refl _)).1; omega
   subst h0
   obtain ⟨r1,r2,r3⟩:=hat he none 0 0 l 0 hbh hbl (Nat.le_refl _)
   have l0:l=0:=by omega
   subst l0
   simp at h
   subst h
   exact ⟨_,r1,by simpa using .nils _⟩
  ·cases h
 | emp _ a=>
  simp only at h
  split at h
  ·rename_i e hh l he hbh hbl
   have h0:hh=0:=by
    have:=(QmK (P:=P) (w:=w) (y:=0) hbh hhi (Nat.le_refl _) (Nat.le_refl _)).1; omega
   subst h0
   obtain ⟨r1,r2,r3⟩:=hat he a 0 0 l 0 hbh hbl (Nat.le_refl _)
   have l0:l=0:=by omega
   subst l0
   simp at h
   subst h
   exact ⟨_,r1,by simpa using .emp _ _⟩
  ·cases h
 | _=>simp at h
theorem QyL (hc:TysOk P c)(hs:Sim I ρ H w){t:TypeId}{x:AV}{n:Int}{u:Value}(h:QlR c (c.ty t) H x=some n)(hx:VRel I ρ x u)(ts:Array TypeId)(h0:ts[0]?=some t)(ty:TypeId):
  (Builtin.len_ ts ty #[u]).run P w=.ok (.int .i64 n) w:=by
 unfold QlR at h
 have hkn:(c.ty t).known=true:=by unfold TI.known; cases hd:(c.ty t).d<;>simp [hd] at h<;>rfl
 obtain ⟨i,d,z,ht⟩:=hc.ty t hkn
 have hr:=ht.rel
 have hu:=ht.und
 unfold Builtin.len_
 simp only [h0]
 rw [show (#[u]:Array Value)[0]?=some u from rfl]
 simp only [Sem.run_bind,run_underlying hu,Result.andThen_ok]
 revert h hr
 generalize (c.ty t).d=td
 intro h hr
 cases hr with
 | arr m e he=>simp at h; subst h; cases hx<;>rfl
 | ptr e=>
  simp only at h
  split at h
  ·rename_i m e' hd
   simp at h
   subst h
   obtain ⟨i2,d2,z2,ht2⟩:=hc.ty e (QoJ (by rw [hd]; simp))
   have hr2:=ht2.rel
   rw [hd] at hr2
   cases hr2 with
   | arr _ _ _=>
    cases hx<;>simp [run_underlying ht2.und,goInt]
  ·cases h
 | str=>
  cases hx<;>simp [QpF] at h
  rename_i s bs e
  subst h
  subst e
  simp [goInt]
 | slice e he=>
  cases hx<;>simp [QpF] at h<;>subst h<;>simp [goInt]
 | map k e _ _=>
  cases hx with
  | nilm=>simp [QpF] at h; subst h; simp [goInt]
  | map _ b g z n' hρ=>
   simp only [QpF] at h
   split at h
   ·rename_i es hb
    simp at h
    subst h
    obtain ⟨_,ents,clock,h1,h2,h3⟩:=hs.blk b _ g z n' hb hρ
    simp [getObj,Sem.run,h1,goInt,h2]
   ·cases h
  | _=>simp at h
 | _=>simp at h
end
end Go.Ev
