/- Of the models: the header of a function, and a node alone, of the program. -/
import Derived.Test.YtkecfadnfnnfaaaGreatDoorPlB3
set_option linter.unusedVariables false
set_option linter.unusedSimpArgs false
namespace Go.Proofs.YtkecfadnfnnfaaaGreatDoor.LabB
open Go Go.Ev Go.Sy
def twC:List GCon→List (List UInt8)→Option (List (List UInt8))
 | [],cs=>some cs
 | c::r,cs=>if cs.contains c.1=true then none else twC r (cs++[c.1])
def twS:List Qaj→List (List UInt8)→List (List UInt8)→Bool
 | [],_,_=>false
 | x::r,ts,cs=>if ts.contains x.1=true then true else match twC x.2 cs with |none=>true |some cs'=>twS r (ts++[x.1]) cs'
def Qye (d:List Qaj):Bool:=twS d [[73,110,116]] []
abbrev Seen:=List ((List UInt8)×Bool)
def Rel (m:Seen)(l:List (List UInt8)):Prop:=∀ y,findD .str .bool m y false=l.contains y
theorem Rel.put {m:Seen}{l:List (List UInt8)}(h:Rel m l)(x:List UInt8):Rel (putD .str .bool m x true) (l++[x]):=fun y=>by
 rw [Qws,h y]
 rw [Bool.eq_iff_iff]
 simp [List.contains_iff_mem]
 exact or_comm
theorem QEQ (m0:Seen)(d:List Qaj)(n i:Int)(cs:List GCon)(hl:cs.length≤1000000):∀ (r pre:List GCon) (m:Seen) (l:List (List UInt8)),cs=pre++r→Rel m l→
  ∃ z,QeV m0 m d n i cs (cs.length:Int) (pre.length:Int)=some z∧(match twC r l with |none=>z=.inl () |some l'=>∃ m',z=.inr m'∧Rel m' l'):=by
 intro r
 induction r with
 | nil=>
  intro pre m l h hr
  subst h
  rw [QjV,QeQ,cond_false]
  exact ⟨_,rfl,_,rfl,hr⟩
 | cons c r ih=>
  intro pre m l h hr
  have hx:cs[pre.length]?=some c:=by rw [h,List.getElem?_append_right (Nat.le_refl _)]; simp
  rw [QjV,Qak hx,cond_true,Qai hx,Qaa,hr c.1,twC]
  cases hc:l.contains c.1 with
  | true=>exact ⟨_,rfl,rfl⟩
  | false=>
   rw [cond_false,Qal hx (by omega)]
   have:=ih (pre++[c]) _ _ (by rw [h]; simp) (hr.put c.1)
   simpa using this
theorem QER (d:List Qaj)(h:QbN d):∀ (r pre:List Qaj) (m m2:Seen) (ts cs:List (List UInt8)),d=pre++r→Rel m ts→Rel m2 cs→
  QeT m m2 d (d.length:Int) (pre.length:Int)=some (if twS r ts cs=true then .inl () else .inr ()):=by
 have hl:=h.len
 intro r
 induction r with
 | nil=>
  intro pre m m2 ts cs h hr hr2
  subst h
  rw [QjS,QeQ,cond_false]
  rfl
 | cons x r ih=>
  intro pre m m2 ts cs hd hr hr2
  have hx:d[pre.length]?=some x:=by rw [hd,List.getElem?_append_right (Nat.le_refl _)]; simp
  rw [QjS,Qak hx,cond_true,Qai hx,Qaa,hr x.1,twS]
  cases hc:ts.contains x.1 with
  | true=>rfl
  | false=>
   obtain ⟨z,hz,hz2⟩:=QEQ (putD .str .bool m x.1 true) d (d.length:Int) (pre.length:Int) x.2 (h.cons x (List.mem_of_getElem? hx)) x.2 [] m2 cs rfl hr2
   rw [cond_false,show QeV (putD .str .bool m x.1 true) m2 d (d.length:Int) (pre.length:Int) x.2 (x.2.length:Int) 0=_ from hz,Qaa,Qal hx (by omega)]
   cases ht:twC x.2 cs with
   | none=>
    rw [ht] at hz2
    subst hz2
    rfl
   | some l'=>
    rw [ht] at hz2
    obtain ⟨m',rfl,hr'⟩:=hz2
    have:=ih (pre++[x]) _ _ _ _ (by rw [hd]; simp) (hr.put x.1) hr'
    simpa using this
theorem QAA (d:List Qaj)(h:QbN d):Qns d=some (Qye d):=by
 rw [QsV,show QeT (putD .str .bool [] [73,110,116] true) [] d (d.length:Int) 0=_ from QER d h d [] _ _ ([]++[[73,110,116]]) [] rfl (Rel.put (fun y=>rfl) _) (fun y=>rfl),Qaa]
 unfold Qye
 rw [List.nil_append]
 by_cases ht:twS d [[73,110,116]] []=true
 ·rw [if_pos ht,ht]
 ·rw [if_neg ht]
  simp only [Bool.not_eq_true] at ht
  rw [ht]
theorem Qzo (l:List (List UInt8))(hl:l.length≤1000000000000)(s:List UInt8):QqB l s=some (l.contains s):=by
 rw [Qx3,Qap (L:=fun i=>QkE l s i) (l:=l) (p:=fun x=>!decide (x=s)) (A:=.inl ()) (B:=.inr ()) (fun i x hx=>by
  rw [Qm1,Qak hx,cond_true,Qai hx,Qaa,Qal hx (by omega),Qan]
  cases decide (x=s)<;>rfl) (by rw [Qm1,Qao,cond_false]),Qaa]
 have:l.contains s=!l.all fun x=>!decide (x=s):=by
  rw [Bool.eq_iff_iff]
  simp [List.contains_iff_mem]
 rw [this]
 cases l.all _<;>rfl
theorem QGu (ts:List (List UInt8))(d:List Qaj)(k:Nat)(x:Qaj)(hx:d[k]?=some x)(hl:x.2.length≤1000000):∀ (r pre:List GCon) (l:List (List UInt8)),x.2=pre++r→l.length≤1000000000+pre.length→
  QeW ts l d (k:Int) (pre.length:Int)=some (match twC r l with |none=>.inl () |some l'=>.inr l')∧∀ l',twC r l=some l'→l'.length=l.length+r.length:=by
 intro r
 induction r with
 | nil=>
  intro pre l h hr
  rw [QjX,Qai hx,Qaa,h,QeQ,cond_false]
  exact ⟨rfl,fun l' hl'=>by simp only [twC,osi] at hl'; rw [hl']; simp⟩
 | cons c r ih=>
  intro pre l h hr
  have hc:x.2[pre.length]?=some c:=by rw [h,List.getElem?_append_right (Nat.le_refl _)]; simp
  have hpl:x.2.length=pre.length+(r.length+1):=by rw [h]; simp
  rw [QjX,Qai hx,Qaa,Qak hc,cond_true,Qai hc,Qaa,Qzo l (by omega),Qaa,twC]
  cases hcc:l.contains c.1 with
  | true=>exact ⟨rfl,fun l' hl'=>by simp at hl'⟩
  | false=>
   rw [cond_false,Qac (by omega),Qal hc (by omega)]
   have:=ih (pre++[c]) (l++[c.1]) (by rw [h]; simp) (by simp; omega)
   simp only [List.length_append,List.length_cons,List.length_nil] at this ⊢
   refine ⟨by simpa using this.1,fun l' hl'=>?_⟩
   have:=this.2 l' (by simpa using hl')
   omega
theorem QGv (d:List Qaj)(h:QbN d):∀ (r pre:List Qaj) (ts cs:List (List UInt8)),d=pre++r→ts.length≤1+pre.length→cs.length≤1000000 * pre.length→
  QeU ts cs d (pre.length:Int)=some (if twS r ts cs=true then .inr () else .inl ()):=by
 have hl:=h.len
 intro r
 induction r with
 | nil=>
  intro pre ts cs h hr hr2
  subst h
  rw [QjU,QeQ,cond_false]
  rfl
 | cons x r ih=>
  intro pre ts cs hd hr hr2
  have hx:d[pre.length]?=some x:=by rw [hd,List.getElem?_append_right (Nat.le_refl _)]; simp
  have hpl:d.length=pre.length+(r.length+1):=by rw [hd]; simp
  have hxl:=h.cons x (List.mem_of_getElem? hx)
  rw [QjU,Qak hx,cond_true,Qai hx,Qaa,Qzo ts (by omega),Qaa,twS]
  cases hc:ts.contains x.1 with
  | true=>rfl
  | false=>
   obtain ⟨hz,hz2⟩:=QGu (ts++[x.1]) d pre.length x hx hxl x.2 [] cs rfl (by simp; omega)
   rw [cond_false,Qac (by omega),show QeW (ts++[x.1]) cs d (pre.length:Int) 0=_ from hz,Qaa,Qal hx (by omega)]
   cases ht:twC x.2 cs with
   | none=>rfl
   | some l'=>
    have:=hz2 l' ht
    have:=ih (pre++[x]) (ts++[x.1]) l' (by rw [hd]; simp) (by simp; omega) (by simp; omega)
    simpa using this
theorem Qyf (d:List Qaj)(h:QbN d):Qnt d=some (Qye d):=by
 rw [QsW,show QeU [[73,110,116]] [] d 0=_ from QGv d h d [] _ _ rfl (by simp) (by simp),Qaa]
 unfold Qye
 cases twS d [[73,110,116]] []<;>rfl
def Qp6 (d:List Qaj):Bool:=d.all fun x=>x.2.all fun c=>c.2.all (isTy d)
theorem any2 (d:List Qaj)(l:List Int)(hl:l.length≤1000000000000):QdH d l=some (!l.all (isTy d)):=by
 rw [Qjq,Qlh]
 rw [Qdp (L:=fun i=>QcH d l (l.length:Int) i) (l:=l) (p:=fun c=>!isTy d c) (A:=fun j=>.inr (j:Int)) (B:=.inl ()) (fun i c hc=>by
  rw [Qe5,Qak hc,cond_true,Qai hc,Qaa,Qqd,Qp4,Qaa,Qaa,Qal hc (by omega),Qan]) (by rw [Qe5,Qao,cond_false])]
 rw [List.not_all_eq_any_not,← Qcn _ l 0]
 cases Qjl _ 0 l with
 | none=>rfl
 | some j=>simp only [Qaa]; rw [QaD (by omega)]; rfl
theorem QHD (d:List Qaj)(h:QbN d):QeS d d (d.length:Int) 0=some (if Qp6 d=true then .inl () else .inr ()):=by
 have hl:=h.len
 refine Qap (L:=fun i=>QeS d d (d.length:Int) i) (l:=d) (p:=fun x=>x.2.all fun c=>c.2.all (isTy d)) (fun i x hx=>?_) ?_
 ·have hm:=List.mem_of_getElem? hx
  have hc:=h.cons x hm
  rw [QjR,Qak hx,cond_true,Qai hx,Qaa,Qap (L:=fun j=>QgP d d (d.length:Int) (i:Int) x.2 (x.2.length:Int) j) (l:=x.2) (p:=fun c=>c.2.all (isTy d)) (A:=.inr ()) (B:=.inl ()) (fun j c hcx=>by
   rw [QjT,Qak hcx,cond_true,Qai hcx,Qaa,any2 d c.2 (h.fields x hm c (List.mem_of_getElem? hcx)),Qaa,Qal hcx (by omega),Qan]
   cases c.2.all (isTy d)<;>rfl) (by rw [QjT,Qao,cond_false]),Qaa,Qal hx (by omega)]
  cases x.2.all _<;>rfl
 ·rw [QjR,Qao,cond_false]
theorem Qyg (d:List Qaj)(h:QbN d):Qnu d=some (Qp6 d):=by
 have hl:=h.len
 rw [QsX,Qap (L:=fun i=>QgQ d i) (l:=d) (p:=fun x=>x.2.all fun c=>c.2.all (isTy d)) (A:=.inr ()) (B:=.inl ()) (fun i x hx=>by
  have hm:=List.mem_of_getElem? hx
  have hc:=h.cons x hm
  rw [QjW,Qak hx,cond_true,Qap (L:=fun j=>QgR d (i:Int) j) (l:=x.2) (p:=fun c=>c.2.all (isTy d)) (A:=.inr ()) (B:=.inl ()) (fun j c hcx=>by
   have hf:=h.fields x hm c (List.mem_of_getElem? hcx)
   rw [QjY,Qai hx,Qaa,Qak hcx,cond_true,Qai hcx,Qaa,Qap (L:=fun k=>QgS d (i:Int) (j:Int) c.2 k) (l:=c.2) (p:=isTy d) (A:=.inr ()) (B:=.inl ()) (fun k t ht=>by
    rw [QjZ,Qak ht,cond_true,Qai ht,Qaa,Qsr,Qaa,Qal ht (by omega),Qan]) (by rw [QjZ,Qao,cond_false]),Qaa,Qal hcx (by omega)]
   cases c.2.all (isTy d)<;>rfl) (by rw [QjY,Qai hx,Qaa,Qao,cond_false]),Qaa,Qal hx (by omega)]
  cases x.2.all _<;>rfl) (by rw [QjW,Qao,cond_false]),Qaa]
 unfold Qp6
 cases d.all _<;>rfl
def cf:List Bool→Nat
 | []=>0
 | false::l=>cf l+1
 | true::l=>cf l
theorem QC5:∀ l:List Bool,cf l≤l.length
 | []=>Nat.le_refl _
 | false::l=>Nat.succ_le_succ (QC5 l)
 | true::l=>Nat.le_succ_of_le (QC5 l)
theorem QtT:∀ (l:List Bool) (i:Nat),l[i]?=some false→cf (l.set i true)+1=cf l
 | [],i,h=>by simp at h
 | b::l,0,h=>by
  simp at h
  subst h
  rfl
 | b::l,i+1,h=>by
  have:=QtT l i (by simpa using h)
  cases b with
  | false=>show cf (l.set i true)+1+1=cf l+1; omega
  | true=>exact this
theorem QfY {α:Type}:∀ (l:List α) (i:Nat) (x:α),l[i]?=some x→l.set i x=l
 | [],i,x,h=>rfl
 | y::l,0,x,h=>by simp at h; subst h; rfl
 | y::l,i+1,x,h=>by rw [List.set_cons_succ,QfY l i x (by simpa using h)]
def ready (done:List Bool)(c:GCon):Bool:=c.2.all fun t=>decide (done[t.toNat]?=some true)
def Qpu (done:List Bool)(i:Nat)(x:Qaj):List Bool:=if x.2.any (ready done)=true then done.set (i+1) true else done
def Qlv:Nat→List Qaj→List Bool→List Bool
 | _,[],done=>done
 | i,x::r,done=>Qlv (i+1) r (Qpu done i x)
def Qvi (d:List Qaj):Nat→List Bool→List Bool
 | 0,done=>done
 | k+1,done=>Qvi d k (Qlv 0 d done)
def fin (d:List Qaj):Bool:=(Qvi d (d.length+1) ((List.replicate (d.length+1) false).set 0 true)).all id
theorem Qmm (done:List Bool)(i:Nat)(x:Qaj):(Qpu done i x).length=done.length:=by
 unfold Qpu
 split<;>simp
theorem Qot:∀ (r:List Qaj) (i:Nat) (done:List Bool),(Qlv i r done).length=done.length
 | [],i,done=>rfl
 | x::r,i,done=>by rw [Qlv,Qot r,Qmm]
theorem Qzp (done:List Bool)(i:Nat)(x:Qaj)(h:i+1<done.length):(Qpu done i x=done)∨(done[i+1]?=some false∧x.2.any (ready done)=true∧Qpu done i x=done.set (i+1) true):=by
 unfold Qpu
 have hx:done[i+1]?=some done[i+1]:=List.getElem?_eq_getElem h
 by_cases hr:x.2.any (ready done)=true
 ·rw [if_pos hr]
  cases hb:done[i+1] with
  | true=>exact Or.inl (QfY _ _ _ (by rw [hx,hb]))
  | false=>exact Or.inr ⟨by rw [hx,hb],hr,rfl⟩
 ·rw [if_neg hr]; exact Or.inl rfl
theorem Qvj:∀ (r:List Qaj) (i:Nat) (done:List Bool),i+r.length<done.length→cf (Qlv i r done)≤cf done∧(Qlv i r done≠done→cf (Qlv i r done)<cf done)
 | [],i,done,h=>⟨Nat.le_refl _,fun h=>absurd rfl h⟩
 | x::r,i,done,h=>by
  simp only [List.length_cons] at h
  rw [Qlv]
  have ih:=Qvj r (i+1) (Qpu done i x) (by rw [Qmm]; omega)
  rcases Qzp done i x (by omega) with h1 |⟨h1,h2,h3⟩
  ·rw [h1] at ih ⊢; exact ih
  ·rw [h3] at ih ⊢
   have:=QtT _ _ h1
   exact ⟨by omega,fun _=>by omega⟩
theorem QwF (d:List Qaj)(done:List Bool)(h:Qlv 0 d done=done):∀ k,Qvi d k done=done
 | 0=>rfl
 | k+1=>by rw [Qvi,h,QwF d done h k]
structure Tyd (d:List Qaj):Prop where
 ok:∀ x∈d,∀ c∈x.2,∀ t∈c.2,0≤t∧t≤(d.length:Int)
theorem QFr (d:List Qaj)(h:Qp6 d=true):Tyd d:=⟨fun x hx c hc t ht=>by
 unfold Qp6 at h
 rw [List.all_eq_true] at h
 have h1:=h x hx
 rw [List.all_eq_true] at h1
 have h2:=h1 c hc
 rw [List.all_eq_true] at h2
 have h3:=h2 t ht
 unfold isTy at h3
 exact of_decide_eq_true h3⟩
theorem any5 (done:List Bool)(l:List Int)(hl:l.length≤1000000000000)(hr:∀ t∈l,0≤t∧t<(done.length:Int)):QdK done l=some (!l.all fun t=>decide (done[t.toNat]?=some true)):=by
 rw [Qjt,Qlk]
 rw [Qdp (L:=fun i=>QcK done l (l.length:Int) i) (l:=l) (p:=fun t=>!decide (done[t.toNat]?=some true)) (A:=fun j=>.inr (j:Int)) (B:=.inl ()) (fun i c hc=>by
  obtain ⟨h0,h1⟩:=hr c (List.mem_of_getElem? hc)
  obtain ⟨b,hb,hb'⟩:=QgJ h0 h1
  rw [Qe8,Qak hc,cond_true,Qai hc,Qaa,Qny,hb,Qaa,Qaa,Qal hc (by omega),Qan,hb']
  cases b<;>rfl) (by rw [Qe8,Qao,cond_false])]
 rw [List.not_all_eq_any_not,← Qcn _ l 0]
 cases Qjl _ 0 l with
 | none=>rfl
 | some j=>simp only [Qaa]; rw [QaD (by omega)]; rfl
theorem any4 (d:List Qaj)(h:QbN d)(ht:Tyd d)(done:List Bool)(hd:done.length=d.length+1)(x:Qaj)(hx:x∈d):QdJ done x.2=some (x.2.any (ready done)):=by
 have hl:=h.cons x hx
 rw [Qjs,Qlj]
 rw [Qdp (L:=fun i=>QcJ done x.2 (x.2.length:Int) i) (l:=x.2) (p:=ready done) (A:=fun j=>.inr (j:Int)) (B:=.inl ()) (fun i c hc=>by
  have hm:=List.mem_of_getElem? hc
  rw [Qe7,Qak hc,cond_true,Qai hc,Qaa,Qpm,any5 done c.2 (h.fields x hx c hm) (fun t htm=>by have:=ht.ok x hx c hm t htm; omega),Qaa,Qaa,Qal hc (by omega),Qan,Bool.not_not]
  rfl) (by rw [Qe7,Qao,cond_false])]
 rw [← Qcn _ x.2 0]
 cases Qjl _ 0 x.2 with
 | none=>rfl
 | some j=>simp only [Qaa]; rw [QaD (by omega)]; rfl
theorem QIB (d:List Qaj)(h:QbN d)(ht:Tyd d):∀ (r pre:List Qaj) (done:List Bool) (more:Bool),d=pre++r→done.length=d.length+1→
  Qc5 done d more (d.length:Int) (pre.length:Int)=some (Qlv pre.length r done,more||decide (Qlv pre.length r done≠done)):=by
 have hl:=h.len
 intro r
 induction r with
 | nil=>
  intro pre done more hd hn
  rw [QiZ]
  subst hd
  rw [QeQ,cond_false,Qlv]
  simp
 | cons x r ih=>
  intro pre done more hd hn
  have hx:d[pre.length]?=some x:=by rw [hd,List.getElem?_append_right (Nat.le_refl _)]; simp
  have hpl:d.length=pre.length+(r.length+1):=by rw [hd]; simp
  have hi:pre.length+1<done.length:=by omega
  have hb:done[pre.length+1]?=some done[pre.length+1]:=List.getElem?_eq_getElem hi
  rw [QiZ,Qak hx,cond_true,Qai hx,Qaa,any4 d h ht done hn x (List.mem_of_getElem? hx),Qaa,Qal hx (by omega),Qai hb]
  simp only [Qaa,Qah,Qfj]
  rw [Qlv]
  have hcf:=Qvj r (pre.length+1) (Qpu done pre.length x) (by rw [Qmm]; omega)
  have ih1:=fun b=>ih (pre++[x]) (Qpu done pre.length x) b (by rw [hd]; simp) (by rw [Qmm]; exact hn)
  simp only [List.length_append,List.length_cons,List.length_nil,Nat.zero_add] at ih1
  rcases Qzp done pre.length x hi with h1 |⟨h1,h2,h3⟩
  ·have hz:(x.2.any (ready done)&&!done[pre.length+1])=false:=by
    by_cases hr:x.2.any (ready done)=true
    ·unfold Qpu at h1
     rw [if_pos hr] at h1
     have:(done.set (pre.length+1) true)[pre.length+1]?=some true:=by rw [List.getElem?_set_self hi]
     rw [h1,hb] at this
     simp only [osi] at this
     rw [this]; simp
    ·simp only [Bool.not_eq_true] at hr
     rw [hr]; rfl
   rw [hz,cond_false]
   have:=ih1 more
   rw [h1] at this ⊢
   exact this
  ·rw [hb] at h1
   simp only [osi] at h1
   rw [h1,h2]
   simp only [Bool.not_false,Bool.and_self,cond_true,Int.toNat_natCast]
   rw [← h3,ih1 true]
   have hc1:=QtT done (pre.length+1) (by rw [hb,h1])
   have:Qlv (pre.length+1) r (Qpu done pre.length x)≠done:=fun e=>by
    rw [e,h3] at hcf
    omega
   rw [decide_eq_true this]
   simp
theorem QHE (d:List Qaj)(h:QbN d)(ht:Tyd d):∀ (k:Nat) (done:List Bool),done.length=d.length+1→cf done≤k→Qf6 done d true=some (Qvi d (k+1) done)
 | k,done,hn,hc=>by
  rw [QiX,cond_true,show Qc5 done d false (d.length:Int) 0=_ from QIB d h ht d [] done false rfl hn,Qaa]
  simp only [List.length_nil,Bool.false_or]
  have hcf:=Qvj d 0 done (by omega)
  by_cases he:Qlv 0 d done=done
  ·rw [show decide (Qlv 0 d done≠done)=false from decide_eq_false (by simp [he]),he,QiX,cond_false,QwF d done he]
  ·rw [decide_eq_true he]
   have:=hcf.2 he
   match k with
   | 0=>omega
   | k+1=>rw [QHE d h ht k _ (by rw [Qot]; exact hn) (by omega),← Qvi]
theorem QHF (l:List Bool)(hl:l.length≤1000000):Qdr l false=some (!l.all id):=by
 rw [Qih,Qk4]
 rw [Qdp (L:=fun i=>Qds l false (l.length:Int) i) (l:=l) (p:=fun b=>!b) (A:=fun j=>.inl (j:Int)) (B:=.inr ()) (fun i b hb=>by
  rw [Qdk,Qak hb,cond_true,Qai hb,Qaa,Qal hb (by omega)]
  cases b<;>rfl) (by rw [Qdk,Qao,cond_false])]
 rw [show (!l.all id)=l.any (fun b=>!b) by rw [List.not_all_eq_any_not]; rfl,← Qcn _ l 0]
 cases Qjl _ 0 l with
 | none=>rfl
 | some j=>simp only [Qaa]; rw [QaD (by omega)]; rfl
theorem Qst (d:List Qaj):∀ (k:Nat) (done:List Bool),(Qvi d k done).length=done.length
 | 0,done=>rfl
 | k+1,done=>by rw [Qvi,Qst d k,Qot]
theorem QES (d:List Qaj)(h:QbN d)(ht:Tyd d):Ql2 d=some (fin d):=by
 have hl:=h.len
 rw [Qr8,Sy.QbA (by omega),Qab (by omega),Int.toNat_natCast,Qac (by omega)]
 rw [show at' (List.replicate (d.length+1) false) 0=some false from Qai (i:=0) (by simp),Qaa]
 rw [QHE d h ht d.length _ (by simp) (by
  show cf (((List.replicate (d.length+1) false)).set 0 true)≤d.length
  rw [List.replicate_succ,List.set_cons_zero]
  show cf (List.replicate d.length false)≤d.length
  exact Nat.le_trans (QC5 _) (by simp)),Qaa,QHF _ (by rw [Qst]; simp; omega),Qaa,Bool.not_not]
 rfl
theorem QHG (d:List Qaj)(done:List Bool)(i j k:Int)(l:List Int)(hl:l.length≤1000000000000)(hr:∀ t∈l,0≤t∧t<(done.length:Int)):Qd9 done d i j k true l 0=some (l.all fun t=>decide (done[t.toNat]?=some true)):=by
 have:=QaT (L:=fun b m=>Qd9 done d i j k b l m) (l:=l) (F:=fun b t=>b&&decide (done[t.toNat]?=some true)) (E:=id) (fun _ _=>True)
  (fun b m t ht _=>⟨by
   obtain ⟨h0,h1⟩:=hr t (List.mem_of_getElem? ht)
   obtain ⟨c,hc,hc'⟩:=QgJ h0 h1
   rw [Qi4,Qak ht,cond_true,Qai ht]
   simp only [Qaa]
   rw [hc,Qal ht (by omega),hc']
   cases b<;>cases c<;>rfl,trivial⟩)
  (fun b _=>by rw [Qi4,Qao,cond_false]; rfl) true trivial
 rw [this]
 congr 1
 have e:∀ (l:List Int) (b:Bool),List.foldl (fun b t=>b&&decide (done[t.toNat]?=some true)) b l=(b&&l.all fun t=>decide (done[t.toNat]?=some true)):=by
  intro l
  induction l with
  | nil=>intro b; simp
  | cons t l ih=>intro b; rw [List.foldl_cons,ih,List.all_cons,Bool.and_assoc]
 rw [e]
 rfl
def Qpv (i:Nat)(m:List Bool)(c:GCon):List Bool:=if ready m c=true then m.set (i+1) true else m
theorem QC6 (i:Nat)(m:List Bool)(c:GCon):(Qpv i m c).length=m.length:=by unfold Qpv; split<;>simp
theorem QtU (i:Nat):∀ (l:List GCon) (m:List Bool),i+1<m.length→m[i+1]?=some true→l.foldl (Qpv i) m=m
 | [],m,h,hm=>rfl
 | c::l,m,h,hm=>by
  have:Qpv i m c=m:=by
   unfold Qpv
   split
   ·exact QfY _ _ _ hm
   ·rfl
  rw [List.foldl_cons,this,QtU i l m h hm]
theorem QHH (i:Nat):∀ (l:List GCon) (m:List Bool),i+1<m.length→l.foldl (Qpv i) m=if l.any (ready m)=true then m.set (i+1) true else m
 | [],m,h=>rfl
 | c::l,m,h=>by
  rw [List.foldl_cons,List.any_cons]
  by_cases hc:ready m c=true
  ·have:Qpv i m c=m.set (i+1) true:=by unfold Qpv; rw [if_pos hc]
   rw [this,hc,Bool.true_or,if_pos rfl,QtU i l _ (by simpa using h) (by rw [List.getElem?_set_self h])]
  ·have:Qpv i m c=m:=by unfold Qpv; rw [if_neg hc]
   simp only [Bool.not_eq_true] at hc
   rw [this,hc,Bool.false_or,QHH i l m h]
theorem QHI (d:List Qaj)(h:QbN d)(ht:Tyd d)(rd:Int)(i:Nat)(x:Qaj)(hx:d[i]?=some x)(done:List Bool)(hn:done.length=d.length+1):Qd8 done d rd (i:Int) 0=some (Qpu done i x):=by
 have hm:=List.mem_of_getElem? hx
 have hl:=h.len
 have hc:=h.cons x hm
 have hil:=QaU hx
 have:=QaT (L:=fun m k=>Qd8 m d rd (i:Int) k) (l:=x.2) (F:=Qpv i) (E:=id) (fun _ m=>m.length=d.length+1)
  (fun m k c hcx hI=>⟨by
   have hcm:=List.mem_of_getElem? hcx
   have hib:i+1<m.length:=by omega
   have hb:m[i+1]?=some m[i+1]:=List.getElem?_eq_getElem hib
   rw [Qi3,Qai hx,Qaa,Qak hcx,cond_true,Qai hcx,Qaa,QHG d m rd (i:Int) (k:Int) c.2 (h.fields x hm c hcm) (fun t htm=>by have:=ht.ok x hm c hcm t htm; omega),Qaa,Qal hx (by omega),Qai hb]
   simp only [Qaa,Qah,QaQ]
   rw [Qal hcx (by omega)]
   congr 1
   unfold Qpv ready
   by_cases hr:(c.2.all fun t=>decide (m[t.toNat]?=some true))=true
   ·rw [if_pos hr,hr]; simp
   ·rw [if_neg hr]
    simp only [Bool.not_eq_true] at hr
    rw [hr,Bool.or_false]
    exact QfY _ _ _ hb,by show (Qpv i m c).length=_; rw [QC6]; exact hI⟩)
  (fun m _=>by rw [Qi3,Qai hx,Qaa,Qao,cond_false]; rfl) done hn
 rw [this,QHH i x.2 done (by omega)]
 rfl
theorem QHJ (d:List Qaj)(h:QbN d)(ht:Tyd d)(rd:Int):∀ (r pre:List Qaj) (done:List Bool),d=pre++r→done.length=d.length+1→Qd6 done d rd (pre.length:Int)=some (Qlv pre.length r done):=by
 have hl:=h.len
 intro r
 induction r with
 | nil=>
  intro pre done hd hn
  rw [Qi0]
  subst hd
  rw [QeQ,cond_false]
  rfl
 | cons x r ih=>
  intro pre done hd hn
  have hx:d[pre.length]?=some x:=by rw [hd,List.getElem?_append_right (Nat.le_refl _)]; simp
  rw [Qi0,Qak hx,cond_true,QHI d h ht rd pre.length x hx done hn,Qaa,Qal hx (by omega),Qlv]
  have:=ih (pre++[x]) (Qpu done pre.length x) (by rw [hd]; simp) (by rw [Qmm]; exact hn)
  simpa using this
theorem QFs (d:List Qaj)(h:QbN d)(ht:Tyd d):∀ (k i:Nat) (done:List Bool),i+k=d.length+1→done.length=d.length+1→Qd4 done d (i:Int)=some (Qvi d k done)
 | 0,i,done,hk,hn=>by
  rw [QiY,Qac (by omega)]
  rfl
 | k+1,i,done,hk,hn=>by
  have hl:=h.len
  rw [QiY,Qab (by omega),show Qd6 done d (i:Int) 0=_ from QHJ d h ht (i:Int) d [] done rfl hn,Qaa,Sy.QbA (by omega),QFs d h ht k (i+1) _ (by omega) (by rw [Qot]; exact hn)]
  rfl
theorem QHK (l:List Bool)(hl:l.length≤1000000):Qd7 l 0=some (if l.all id=true then .inr () else .inl ()):=by
 refine Qap (L:=fun i=>Qd7 l i) (p:=id) (fun i b hb=>?_) ?_
 ·rw [Qi2,Qak hb,cond_true,Qai hb,Qaa,Qal hb (by omega),Qan]
  rfl
 ·rw [Qi2,Qao,cond_false]
theorem QC7 (d:List Qaj)(h:QbN d)(ht:Tyd d):Ql3 d=some (fin d):=by
 have hl:=h.len
 rw [Qr9,Sy.QbA (by omega),Qab (by omega),Int.toNat_natCast,Qac (by omega)]
 rw [show at' (List.replicate (d.length+1) false) 0=some false from Qai (i:=0) (by simp),Qaa]
 rw [show Qd4 ((List.replicate (d.length+1) false).set 0 true) d 0=_ from QFs d h ht (d.length+1) 0 _ (by omega) (by simp),Qaa,QHK _ (by rw [Qst]; simp; omega),Qaa]
 unfold fin
 cases List.all _ _<;>rfl
def chkD (d:List Qaj):Int:=if many d=true then 6 else if formed d=false then 3 else if Qye d=true then 8 else if Qp6 d=false then 10 else if fin d=false then 7 else 0
theorem QC8 (d:List Qaj)(h:QbN d):Qnq d=some (chkD d):=by
 rw [QsT,QC3 d h,Qaa,Qyd d h,QAA d h,QHD d h]
 simp only [Qaa]
 unfold chkD
 cases many d with
 | true=>rfl
 | false=>
  cases formed d with
  | false=>rfl
  | true=>
   cases Qye d with
   | true=>rfl
   | false=>
    cases ht:Qp6 d with
    | false=>rfl
    | true=>
     simp only [cond_false,cond_true,if_true]
     rw [QES d h (QFr d ht),Qaa]
     cases fin d<;>rfl
theorem QAB (d:List Qaj)(h:QbN d):Qnr d=some (chkD d):=by
 rw [QsU,QAz d h,Qaa,QwE d h,Qyf d h,Qyg d h]
 simp only [Qaa]
 unfold chkD
 cases many d with
 | true=>rfl
 | false=>
  cases formed d with
  | false=>rfl
  | true=>
   cases Qye d with
   | true=>rfl
   | false=>
    cases ht:Qp6 d with
    | false=>rfl
    | true=>
     simp only [cond_false,cond_true]
     rw [QC7 d h (QFr d ht),Qaa]
     cases fin d<;>rfl
end Go.Proofs.YtkecfadnfnnfaaaGreatDoor.LabB
namespace Go.Proofs.YtkecfadnfnnfaaaGreatDoor.LabB
open Go Go.Ev Go.Sy
abbrev fPar (f:GFun):Int:=f.2.1
abbrev fRes (f:GFun):Int:=f.2.2.1
abbrev Qae (f:GFun):List GVar:=f.2.2.2.1
abbrev Qaw (f:GFun):List Qag:=f.2.2.2.2.1
abbrev QbU (f:GFun):Int:=f.2.2.2.2.2.1
abbrev fExt (f:GFun):Bool:=f.2.2.2.2.2.2
structure Qja (f:GFun):Prop where
 name:f.1.length≤1000000000
 vars:f.2.2.2.1.length≤1000000
 code:f.2.2.2.2.1.length≤1000000
 nodes:∀ n∈f.2.2.2.2.1,QbM n
structure Qbv (p:Qad):Prop where
 Qou:QbN p.1
 funs:p.2.length≤1000
 all:∀ f∈p.2,Qja f
def hdr (p:Qad)(k:Nat)(f:GFun):Int:=
 if QwD f.1=false then 3
 else if (p.2.take k).any (fun g=>decide (g.1=f.1))=true then 8
 else if 6<fPar f∨512<((Qae f).length:Int)∨4096<((Qaw f).length:Int) then 6
 else if fPar f<0∨((Qae f).length:Int)<fPar f then 3
 else if (fExt f=true∧(fPar f<((Qae f).length:Int)∨0<((Qaw f).length:Int)∨QbU f≠0))∨(fExt f=false∧(QbU f<0∨((Qaw f).length:Int)≤QbU f)) then 3
 else if isTy p.1 (fRes f)=false then 10
 else if (Qae f).all (fun v=>isTy p.1 v.1)=false then 10
 else if (Qae f).all (fun v=>!(v.2&&flat p.1 v.1))=false then 11
 else 0
theorem hdrL (p:Qad)(k:Nat)(f:GFun)(hp:p.2.length≤1000)(a b c:List Bool)(x:GFun)(hx:x.1=f.1):
  QbD a b c p.1 p.2 f.1 f.2.1 f.2.2.1 f.2.2.2.1 f.2.2.2.2.1 f.2.2.2.2.2.1 f.2.2.2.2.2.2 x (p.2.take k) ((p.2.take k).length:Int) 0=some (if (p.2.take k).any (fun g=>decide (g.1=f.1))=true then .inl () else .inr ()):=by
 have hl:(p.2.take k).length≤1000:=by rw [List.length_take]; omega
 rw [Qap (L:=fun i=>QbD a b c p.1 p.2 f.1 f.2.1 f.2.2.1 f.2.2.2.1 f.2.2.2.2.1 f.2.2.2.2.2.1 f.2.2.2.2.2.2 x (p.2.take k) ((p.2.take k).length:Int) i) (l:=p.2.take k) (p:=fun g=>!decide (g.1=f.1)) (A:=.inl ()) (B:=.inr ()) (fun i g hg=>by
  rw [Qe3,Qak hg,cond_true,Qai hg,Qaa,Qal hg (by omega),Qan,hx]
  cases decide (g.1=f.1)<;>rfl) (by rw [Qe3,Qao,cond_false]),← List.not_any_eq_all_not]
 cases List.any _ _<;>rfl
theorem any3 (p:Qad)(f:GFun)(a b c:List Bool)(l:List GVar)(hl:l.length≤1000000):
  QdI a b c p.1 p.2 f.1 f.2.1 f.2.2.1 f.2.2.2.1 f.2.2.2.2.1 f.2.2.2.2.2.1 f.2.2.2.2.2.2 l=some (!l.all fun v=>isTy p.1 v.1):=by
 rw [Qjr,Qli]
 rw [Qdp (L:=fun i=>QcI a b c p.1 p.2 f.1 f.2.1 f.2.2.1 f.2.2.2.1 f.2.2.2.2.1 f.2.2.2.2.2.1 f.2.2.2.2.2.2 l (l.length:Int) i) (l:=l) (p:=fun v=>!isTy p.1 v.1) (A:=fun j=>.inr (j:Int)) (B:=.inl ()) (fun i v hv=>by
  rw [Qe6,Qak hv,cond_true,Qai hv,Qaa,Qj0,Qgr]
  simp only [Qah,Qaa,Qg2]
  rw [Qal hv (by omega),Qan]
  have:(!(!decide (v.1<0)&&!decide ((p.1.length:Int)<v.1)))=!isTy p.1 v.1:=by
   unfold isTy
   rw [Bool.eq_iff_iff]
   simp only [Bool.and_eq_true,Bool.not_eq_true',Bool.and_eq_false_iff,decide_eq_true_eq,decide_eq_false_iff_not,Bool.not_eq_false']
   omega
  rw [this]) (by rw [Qe6,Qao,cond_false])]
 rw [List.not_all_eq_any_not,← Qcn _ l 0]
 cases Qjl _ 0 l with
 | none=>rfl
 | some j=>simp only [Qaa]; rw [QaD (by omega)]; rfl
theorem any6 (p:Qad)(hd:QbN p.1)(f:GFun)(a b c:List Bool)(l:List GVar)(hl:l.length≤1000000):
  QdL a b c p.1 p.2 f.1 f.2.1 f.2.2.1 f.2.2.2.1 f.2.2.2.2.1 f.2.2.2.2.2.1 f.2.2.2.2.2.2 l=some (!l.all fun v=>!(v.2&&flat p.1 v.1)):=by
 rw [Qju,Qll]
 rw [Qdp (L:=fun i=>QcL a b c p.1 p.2 f.1 f.2.1 f.2.2.1 f.2.2.2.1 f.2.2.2.2.1 f.2.2.2.2.2.1 f.2.2.2.2.2.2 l (l.length:Int) i) (l:=l) (p:=fun v=>v.2&&flat p.1 v.1) (A:=fun j=>.inr (j:Int)) (B:=.inl ()) (fun i v hv=>by
  rw [Qe9,Qak hv,cond_true,Qai hv,Qaa,Qj2,Qos p.1 hd]
  simp only [Qah,Qaa,Qfj]
  rw [Qal hv (by omega),Qan]) (by rw [Qe9,Qao,cond_false])]
 rw [← List.not_any_eq_all_not,Bool.not_not,← Qcn _ l 0]
 cases Qjl _ 0 l with
 | none=>rfl
 | some j=>simp only [Qaa]; rw [QaD (by omega)]; rfl
theorem QET (p:Qad)(hp:Qbv p)(k:Nat)(hk:k≤p.2.length)(f:GFun)(hf:Qja f)(a b c:List Bool):
  Qfp a b c p.1 p.2 f.1 f.2.1 f.2.2.1 f.2.2.2.1 f.2.2.2.2.1 f.2.2.2.2.2.1 f.2.2.2.2.2.2 (k:Int)=some (hdr p k f):=by
 have hn:=hf.name
 have hv:=hf.vars
 rw [Qlf,QC0 _ (by omega),Qaa,Qab (by omega),Qab (by omega),Int.toNat_natCast,hdrL p k f hp.funs a b c _ rfl,any3 p f a b c _ hv,any6 p hp.Qou f a b c _ hv,Qgr]
 simp only [Qah,Qaa,QaB,QaQ,Qg2,QkB]
 have hty:(!decide (f.2.2.1<0)&&!decide ((p.1.length:Int)<f.2.2.1))=isTy p.1 f.2.2.1:=by
  unfold isTy
  rw [Bool.eq_iff_iff]
  simp only [Bool.and_eq_true,Bool.not_eq_true',Bool.and_eq_false_iff,decide_eq_true_eq,decide_eq_false_iff_not,Bool.not_eq_false']
  omega
 rw [hty]
 unfold hdr
 cases hnm:QwD f.1 with
 | false=>rfl
 | true=>
  cases ht:(p.2.take k).any (fun g=>decide (g.1=f.1)) with
  | true=>rfl
  | false=>
   simp only [cond_true,Bool.false_eq_true,if_false,Bool.true_eq_false]
   by_cases h6:6<fPar f∨512<((Qae f).length:Int)∨4096<((Qaw f).length:Int)
   ·rw [if_pos h6,Qoh (by simp only [Bool.or_eq_true,decide_eq_true_eq]; show (6<fPar f∨512<((Qae f).length:Int))∨4096<((Qaw f).length:Int); omega)]
   ·rw [if_neg h6,QdQ (by simp only [Bool.or_eq_false_iff,decide_eq_false_iff_not]; show (¬ 6<fPar f∧¬ 512<((Qae f).length:Int))∧¬ 4096<((Qaw f).length:Int); omega)]
    by_cases h3:fPar f<0∨((Qae f).length:Int)<fPar f
    ·rw [if_pos h3,Qoh (by simp only [Bool.or_eq_true,decide_eq_true_eq]; exact h3)]
    ·rw [if_neg h3,QdQ (by simp only [Bool.or_eq_false_iff,decide_eq_false_iff_not]; show ¬ fPar f<0∧¬ ((Qae f).length:Int)<fPar f; omega)]
     have hbody:(fExt f=true∧(fPar f<((Qae f).length:Int)∨0<((Qaw f).length:Int)∨QbU f≠0))∨(fExt f=false∧(QbU f<0∨((Qaw f).length:Int)≤QbU f))↔(bif f.2.2.2.2.2.2 then (decide (f.2.1<(f.2.2.2.1.length:Int))||decide (0<(f.2.2.2.2.1.length:Int)))||!decide (f.2.2.2.2.2.1=0) else decide (f.2.2.2.2.2.1<0)||!decide (f.2.2.2.2.2.1<(f.2.2.2.2.1.length:Int)))=true:=by
      show (fExt f=true∧(fPar f<((Qae f).length:Int)∨0<((Qaw f).length:Int)∨QbU f≠0))∨(fExt f=false∧(QbU f<0∨((Qaw f).length:Int)≤QbU f))↔(bif fExt f then (decide (fPar f<((Qae f).length:Int))||decide (0<((Qaw f).length:Int)))||!decide (QbU f=0) else decide (QbU f<0)||!decide (QbU f<((Qaw f).length:Int)))=true
      cases fExt f<;>simp<;>omega
     have hb:∀ (x y:Option Int),(bif f.2.2.2.2.2.2 then bif (decide (f.2.1<(f.2.2.2.1.length:Int))||decide (0<(f.2.2.2.2.1.length:Int)))||!decide (f.2.2.2.2.2.1=0) then x else y else bif decide (f.2.2.2.2.2.1<0)||!decide (f.2.2.2.2.2.1<(f.2.2.2.2.1.length:Int)) then x else y)=if (fExt f=true∧(fPar f<((Qae f).length:Int)∨0<((Qaw f).length:Int)∨QbU f≠0))∨(fExt f=false∧(QbU f<0∨((Qaw f).length:Int)≤QbU f)) then x else y:=by
      intro x y
      by_cases hc:(fExt f=true∧(fPar f<((Qae f).length:Int)∨0<((Qaw f).length:Int)∨QbU f≠0))∨(fExt f=false∧(QbU f<0∨((Qaw f).length:Int)≤QbU f))
      ·rw [if_pos hc]
       have:=hbody.1 hc
       revert this
       cases f.2.2.2.2.2.2<;>simp only [cond_true,cond_false]<;>intro this<;>rw [this]<;>rfl
      ·rw [if_neg hc]
       have:=Bool.eq_false_iff.2 (fun h=>hc (hbody.2 h))
       revert this
       cases f.2.2.2.2.2.2<;>simp only [cond_true,cond_false]<;>intro this<;>rw [this]<;>rfl
     rw [hb]
     split
     ·rfl
     ·cases isTy p.1 f.2.2.1<;>cases (f.2.2.2.1.all fun v=>isTy p.1 v.1)<;>cases (f.2.2.2.1.all fun v=>!(v.2&&flat p.1 v.1))<;>rfl
end Go.Proofs.YtkecfadnfnnfaaaGreatDoor.LabB
