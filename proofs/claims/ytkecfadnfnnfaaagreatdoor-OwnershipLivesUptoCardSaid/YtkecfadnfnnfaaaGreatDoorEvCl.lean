/- What slices.Clone does. -/
import Derived.Test.YtkecfadnfnnfaaaGreatDoorEvK
set_option linter.unusedVariables false
set_option linter.unusedSimpArgs false
namespace Go.Ev
open Go.RowKit
def look (ops:Array Oper):List (Option Tmp×Op×Option (Nat×Bool)):=ops.toList.map fun o=>(o.dst,o.op,o.guard)
abbrev nilS:Operand:=.const (.slice none 0 0)
def Qxa (T:TypeId)(b:Code):Prop:=∃ (i0 i1 i2 i3:Nat) (r0 r1 r2 r3:Array Oper) (tb:TypeId),b=.seq (.region i0 r0 false) (.seq (.seq (.region i1 r1 false) (.cond (.tmp 4) (.seq (.region i2 r2 false) .ret) .skip)) (.seq (.region i3 r3 false) .ret))∧
 look r0=[(some 2,.assign nilS,none)]∧look r1=[(some 3,.move (.tmp 0),none),(some 4,.binOp .eql T (.tmp 3) nilS tb,none)]∧look r2=[(some 2,.assign nilS,none)]∧
 look r3=[(some 5,.buildSlice T 0 #[],none),(some 6,.move (.tmp 0),none),(some 7,.call { callee:=.builtin .append,args:=#[.tmp 5,.tmp 6],argTypes:=#[T,T] },none),(some 2,.assign (.tmp 7),none)]
section
variable {P:Program} {c:Ctx} {I:Imm} {ρ:Ren} {H:Heap} {w:World}
theorem QE7 {ops:Array Oper}{l:List (Option Tmp×Op×Option (Nat×Bool))}(h:look ops=l){i:Nat}{d:Option Tmp}{op:Op}(hi:l[i]?=some (d,op,none)):∃ o,ops[i]?=some o∧o.dst=d∧o.op=op∧o.guard=none:=by
 subst h
 unfold look at hi
 rw [List.getElem?_map] at hi
 cases ho:ops.toList[i]? with
 | none=>rw [ho] at hi; cases hi
 | some o=>
  rw [ho] at hi
  simp at hi
  exact ⟨o,by simpa using ho,hi.1,hi.2.1,hi.2.2⟩
theorem look_size {ops:Array Oper}{l:List (Option Tmp×Op×Option (Nat×Bool))}(h:look ops=l):ops.size=l.length:=by
 subst h; simp [look]
theorem Qxb (r:Operand→Value)(o:Oper)(op:Op)(h:o.op=op):execOp r o=execOp r { dst:=none,op:=op,type:=o.type,pos:=o.pos,after:=#[],guard:=none }:=by
 subst h
 unfold execOp
 cases o.op<;>rfl
theorem QGj {ops:Array Oper}{i:Nat}{rest:List Nat}{o:Oper}{a:Act}{w w':World}{v:Value}{Q:Exit→Act→World→Prop}(ho:ops[i]?=some o)(hg:o.guard=none)(hr:(execOp a.eval o).run P w=.ok (.value v) w')
  (h:wpOps P ops Q rest (a.put o.dst v) w'):wpOps P ops Q (i::rest) a w:=by
 simp only [wpOps,ho,Region.wanted,hg,if_true]
 exact .inl (by unfold Oper.wp; rw [hr]; exact h)
theorem QjN {ops:Array Oper}{l:List (Option Tmp×Op×Option (Nat×Bool))}(hl:look ops=l){i:Nat}{d:Option Tmp}{op:Op}(hi:l[i]?=some (d,op,none)){rest:List Nat}{a:Act}{w w':World}{v:Value}{Q:Exit→Act→World→Prop}
  (hr:∀ ty pos,(execOp a.eval { dst:=none,op:=op,type:=ty,pos:=pos,after:=#[],guard:=none }).run P w=.ok (.value v) w') (h:wpOps P ops Q rest (a.put d v) w'):wpOps P ops Q (i::rest) a w:=by
 obtain ⟨o,h1,h2,h3,h4⟩:=QE7 hl hi
 refine QGj h1 h4 (by rw [Qxb _ o op h3]; exact hr _ _) ?_
 rw [h2]; exact h
theorem QvD {ops:Array Oper}{a:Act}{Q:Exit→Act→World→Prop}(h:Q .normal a w):wpOps P ops Q [] a w:=h
theorem QDD (T:TypeId)(b:Code)(hb:Qxa T b)(u:Value)(hT:∃ e,P.underlying T=some (.slice e)){Q:Exit→Act→World→Prop}
  (h:(∃ l k,u=.slice none l k∧Q .ret ⟨#[u,undef,.slice none 0 0,u,.bool true,undef,undef,undef],[]⟩ w)∨
   ∃ a l k v w1 v1 w2,u=.slice (some a) l k∧(Instr.buildSlice T 0 #[]).run P w=.ok v w1∧(∀ ty,(Builtin.append_ #[T,T] ty #[v,u]).run P w1=.ok v1 w2)∧
     Q .ret ⟨#[u,undef,v1,u,.bool false,v,u,v1],[]⟩ w2):
  b.wp P Q ⟨#[u,undef,undef,undef,undef,undef,undef,undef],[]⟩ w:=by
 obtain ⟨e,hT⟩:=hT
 obtain ⟨i0,i1,i2,i3,r0,r1,r2,r3,tb,rfl,l0,l1,l2,l3⟩:=hb
 have heqv:∀ a l k,(Op.equal T (.slice a l k) (.slice none 0 0)).run P w=.ok a.isNone w:=fun a l k=>by
  unfold Op.equal Op.maxDepth Op.equalIn
  rw [Sem.run_bind,run_underlying hT w]
  cases a<;>rfl
 have heq:∀ (a:Option Addr) (l k:Nat),(do eqGuard .eql T (.tmp 3) nilS (.slice a l k) (.slice none 0 0); binOp .eql T (.slice a l k) (.slice none 0 0):Sem Value).run P w=.ok (.bool a.isNone) w:=by
  intro a l k
  have hg:(eqGuard .eql T (.tmp 3) nilS (.slice a l k) (.slice none 0 0)).run P w=.ok () w:=by unfold eqGuard; simp
  have hbo:binOp .eql T (.slice a l k) (.slice none 0 0)=(do pure (.bool (← Op.equal T (.slice a l k) (.slice none 0 0)))):=rfl
  simp only [Sem.run_bind,hg,Result.andThen_ok,hbo,heqv,Sem.run_pure]
 refine wp_seq (wp_region ?_)
 rw [look_size l0]
 refine QjN l0 (i:=0) (v:=.slice none 0 0) rfl (fun ty pos=>rfl) (QvD ?_)
 refine wp_seq (wp_seq (wp_region ?_))
 rw [look_size l1]
 refine QjN l1 (i:=0) (v:=u) rfl (fun ty pos=>rfl) ?_
 rcases h with ⟨l,k,rfl,hQ⟩ |⟨a,l,k,v,w1,v1,w2,rfl,h1,h2,hQ⟩
 ·refine QjN l1 (i:=1) (v:=.bool true) (w':=w) rfl (fun ty pos=>?_) (QvD ?_)
  ·unfold execOp
   show ((do eqGuard .eql T (.tmp 3) nilS (.slice none l k) (.slice none 0 0); binOp .eql T (.slice none l k) (.slice none 0 0):Sem Value) >>= fun v=>pure (Next.value v)).run P w=_
   rw [Sem.run_bind,heq none l k]
   rfl
  refine wp_cond (t:=true) rfl ?_
  refine wp_seq (wp_region ?_)
  rw [look_size l2]
  refine QjN l2 (i:=0) (v:=.slice none 0 0) rfl (fun ty pos=>rfl) (QvD ?_)
  exact wp_ret hQ
 ·refine QjN l1 (i:=1) (v:=.bool false) (w':=w) rfl (fun ty pos=>?_) (QvD ?_)
  ·unfold execOp
   show ((do eqGuard .eql T (.tmp 3) nilS (.slice (some a) l k) (.slice none 0 0); binOp .eql T (.slice (some a) l k) (.slice none 0 0):Sem Value) >>= fun v=>pure (Next.value v)).run P w=_
   rw [Sem.run_bind,heq (some a) l k]
   rfl
  refine wp_cond (t:=false) rfl ?_
  refine wp_skip ?_
  refine wp_seq (wp_region ?_)
  rw [look_size l3]
  refine QjN l3 (i:=0) (v:=v) (w':=w1) rfl (fun ty pos=>?_) ?_
  ·unfold execOp
   simp only [List.map_toArray,List.map_nil,Sem.run_bind,h1,Result.andThen_ok,Sem.run_pure]
  refine QjN l3 (i:=1) (v:=.slice (some a) l k) rfl (fun ty pos=>rfl) ?_
  refine QjN l3 (i:=2) (v:=v1) (w':=w2) rfl (fun ty pos=>?_) ?_
  ·unfold execOp
   simp only [resolve,Sem.run_bind,Sem.run_pure,Result.andThen_ok,invoke,builtin,List.map_toArray,List.map_cons,List.map_nil]
   refine Eq.trans (congrArg (fun r:Result Value=>r.andThen fun a w=>(pure (Next.value a):Sem Next).run P w) (h2 ty)) ?_
   rfl
  refine QjN l3 (i:=3) (v:=v1) rfl (fun ty pos=>rfl) (QvD ?_)
  exact wp_ret hQ
theorem QBU (hc:TysOk P c){f:FuncId}{F:Func}{T e:TypeId}(hF:P.funcs[f]?=some F){b:Code}(hb:F.body=some b)(hcl:Qxa T b)(hr:F.results=#[.tmp 2])(hn:F.ntmps=8)(he:elemOf (c.ty T)=some e):QxA P c f e:=by
 intro I ρ H w args cvs v H' hs ha h
 obtain ⟨hu,i,d,z,ht⟩:=QkI hc he
 unfold QkA at h
 split at h
 case h_2=>cases h
 rename_i x
 have hl:=ha.len
 simp at hl
 obtain ⟨u,rfl⟩:∃ u,cvs=#[u]:=⟨cvs[0],by
  apply Array.ext
  ·simp; omega
  ·intro i h1 h2
   have:i=0:=by omega
   subst this
   rfl⟩
 have hx:VRel I ρ x u:=ha.at_ 0 x u rfl rfl
 have hres:∀ (x0 x3 x4 x5 x6 x7 r:Value) (w:World),(results F #[x0,undef,r,x3,x4,x5,x6,x7]).run P w=.ok r w:=fun x0 x3 x4 x5 x6 x7 r w=>by
  unfold results
  rw [hr]
  simp [Array.mapM_eq_mapM_toList]
 refine calls_of_wp hF hb ?_
 rw [hn]
 refine QDD T b hcl u ⟨e,hu⟩ ?_
 have hnil:∀ l k,u=.slice none l k→v=.sl H.length 0 0→H'=H++[.rows (c.ty e).size true []]→(∃ l k,u=.slice none l k∧bodyPost P F (fun r w'=>∃ cv I' ρ',r=.returned cv∧Ext H.length I ρ H w I' ρ' H' w'∧Sim I' ρ' H' w'∧VRel I' ρ' v cv∧H.length≤H'.length) .ret ⟨#[u,undef,.slice none 0 0,u,.bool true,undef,undef,undef],[]⟩ w):=by
  rintro l k rfl hv rfl
  obtain ⟨s1,e1⟩:=hs.Qz5 (c.ty e).size
  refine ⟨l,k,rfl,rfl,_,hres _ _ _ _ _ _ _ w,_,I,_,rfl,e1,s1,?_,by simp⟩
  subst hv
  exact .sle _ _ _ _ _ _ (Ren.QaV _ _ _)
 have hsome:∀ (a:Addr) (l k:Nat) (new:List (List AV)),u=.slice (some a) l k→rowsOf H x=some new→QbP x H=true→(new.all fun r=>Nat.beq r.length (c.ty e).size)=true→QbH c e H new=some (v,H')→
   ∃ a l k v0 w1 v1 w2,u=.slice (some a) l k∧(Instr.buildSlice T 0 #[]).run P w=.ok v0 w1∧(∀ ty,(Builtin.append_ #[T,T] ty #[v0,u]).run P w1=.ok v1 w2)∧
     bodyPost P F (fun r w'=>∃ cv I' ρ',r=.returned cv∧Ext H.length I ρ H w I' ρ' H' w'∧Sim I' ρ' H' w'∧VRel I' ρ' v cv∧H.length≤H'.length) .ret ⟨#[u,undef,v1,u,.bool false,v0,u,v1],[]⟩ w2:=by
  intro a l k new hau hrows hp hall happ
  have hbs:(Instr.buildSlice T 0 #[]).run P w=.ok (.slice (some ⟨w.heap.size,0,none⟩) 0 0) (w.alloc (.cells #[] e)):=by
   unfold Instr.buildSlice
   simp only [Sem.run_bind,run_underlying hu,Result.andThen_ok,run_sizeOf ht,Nat.zero_mul]
   rw [if_neg (by decide)]
   simp [Instr.fill,newRow,Array.range_zero']
  obtain ⟨s1,e1⟩:=hs.frozen (l:=[]) (H':=H) (w':=w.alloc (.cells #[] e)) (J:=I) rfl (Imm.le_refl I)
   (hs.imm.keep fun b o v hv=>(Qgt.alloc w (.cells #[] e)).old (QpQ (hs.imm.at_ _ _ _ hv))) ⟨rfl,rfl,rfl,by rw [(Qgt.alloc w (.cells #[] e)).size]; omega,fun k hk=>(Qgt.alloc w (.cells #[] e)).old hk⟩ (fun b hb=>by simp at hb) (fun _ _ _ hv=>.inl hv)
  have happ2:Qgs c T T H .emp x=some (v,H'):=by
   unfold Qgs
   simp only [he,Option.isSome_some,hrows,hp,hall]
   exact happ
  obtain ⟨cv,w2,I2,ρ2,r1,r2,r3,r4,r5⟩:=Qsg (tx:=T) (ty:=T) hc s1 happ2 (.emp _ (some ⟨w.heap.size,0,none⟩)) hx
  have r1':∀ ty,(Builtin.append_ #[T,T] ty #[.slice (some ⟨w.heap.size,0,none⟩) 0 0,u]).run P (w.alloc (.cells #[] e))=.ok cv w2:=fun ty=>r1
  exact ⟨a,l,k,_,_,cv,w2,hau,hbs,r1',rfl,cv,hres _ _ _ _ _ _ _ w2,cv,I2,ρ2,rfl,e1.trans r2 (Nat.le_refl _),r3,r4,r5⟩
 have gen:∀ (new:List (List AV)),rowsOf H x=some new→QbP x H=true→(new.all fun r=>Nat.beq r.length (c.ty e).size)=true→QbH c e H new=some (v,H')→(∀ l k,u=.slice none l k→new=[])→(∃ a l k,u=.slice a l k)→
   (∃ l k,u=.slice none l k∧bodyPost P F (fun r w'=>∃ cv I' ρ',r=.returned cv∧Ext H.length I ρ H w I' ρ' H' w'∧Sim I' ρ' H' w'∧VRel I' ρ' v cv∧H.length≤H'.length) .ret ⟨#[u,undef,.slice none 0 0,u,.bool true,undef,undef,undef],[]⟩ w)∨
   ∃ a l k v0 w1 v1 w2,u=.slice (some a) l k∧(Instr.buildSlice T 0 #[]).run P w=.ok v0 w1∧(∀ ty,(Builtin.append_ #[T,T] ty #[v0,u]).run P w1=.ok v1 w2)∧
     bodyPost P F (fun r w'=>∃ cv I' ρ',r=.returned cv∧Ext H.length I ρ H w I' ρ' H' w'∧Sim I' ρ' H' w'∧VRel I' ρ' v cv∧H.length≤H'.length) .ret ⟨#[u,undef,v1,u,.bool false,v0,u,v1],[]⟩ w2:=by
  intro new h1 h2 h3 h4 h5 h6
  obtain ⟨a,l,k,rfl⟩:=h6
  cases a with
  | none=>
   have:=h5 l k rfl
   subst this
   unfold QbH at h4
   split at h4
   ·simp [Qat] at h4
    exact .inl (hnil l k rfl h4.1.symm h4.2.symm)
   ·cases h4
  | some a=>exact .inr (hsome a l k new rfl h1 h2 h3 h4)
 ·split at h
  ·cases h
  rename_i new0 hrows
  split at h
  ·cases h
  rename_i new hnew
  split at hnew
  case h_2=>cases hnew
  rename_i hp
  simp only [osi] at hnew
  subst hnew
  split at h
  case h_2=>cases h
  rename_i hall
  refine gen new0 hrows hp hall h ?_ ?_
  ·rintro l k rfl
   cases hx with
   | nils=>simp [rowsOf] at hrows; exact hrows
   | emp=>simp [rowsOf] at hrows; exact hrows
   | lst0=>simp [rowsOf] at hrows; exact hrows
   | sle _ b=>
    have cut:∀ es':List (List AV),Qdh es' 0 0 some=some new0→new0=[]:=fun es' hc=>by
     obtain ⟨_,c2⟩:=QeE hc
     simp only [List.take_zero,osi] at c2
     exact c2.symm
    simp only [rowsOf] at hrows
    split at hrows
    ·exact cut _ hrows
    ·exact cut _ hrows
    ·cases hrows
   | _=>simp [rowsOf] at hrows
  ·cases hx<;>first |exact ⟨_,_,_,rfl⟩ |(simp [rowsOf] at hrows; done)
theorem QgK (hc:TysOk P c){f:FuncId}{F:Func}{T e:TypeId}(hF:P.funcs[f]?=some F){b:Code}(hb:F.body=some b)(hcl:Qxa T b)(hr:F.results=#[.tmp 2])(hn:F.ntmps=8)(he:elemOf (c.ty T)=some e)(hname:F.name≠ "runtime.NumGoroutine"):
  Qsc P c f (.clone e):=⟨⟨F,hF,hname,by rw [hb]; rfl⟩,QBU hc hF hb hcl hr hn he⟩
end
end Go.Ev
