/- Of the models: the header of a function, and a node alone, of the program. -/
import Derived.Test.YtkecfadnfnnfaaaGreatDoorPlB3
set_option linter.unusedVariables false
set_option linter.unusedSimpArgs false
namespace Go.Proofs.YtkecfadnfnnfaaaGreatDoor.LabB
open Go Go.Ev Go.Sy
def twC:List GCon→List (List UInt8)→Option (List (List UInt8))
 | [],cs=>some cs
 | c::r,cs=>if cs.contains c.1=true then none else twC r (cs++[c.1])
def twS:List Qah→List (List UInt8)→List (List UInt8)→Bool
 | [],_,_=>false
 | x::r,ts,cs=>if ts.contains x.1=true then true else match twC x.2 cs with |none=>true |some cs'=>twS r (ts++[x.1]) cs'
def Qxj (d:List Qah):Bool:=twS d [[73,110,116]] []
abbrev Seen:=List ((List UInt8)×Bool)
def Rel (m:Seen)(l:List (List UInt8)):Prop:=∀ y,findD .str .bool m y false=l.contains y
theorem Rel.put {m:Seen}{l:List (List UInt8)}(h:Rel m l)(x:List UInt8):Rel (putD .str .bool m x true) (l++[x]):=fun y=>by
 rw [Qvw,h y]
 rw [Bool.eq_iff_iff]
 simp [List.contains_iff_mem]
 exact or_comm
theorem QDN (m0:Seen)(d:List Qah)(n i:Int)(cs:List GCon)(hl:cs.length≤1000000):∀ (r pre:List GCon) (m:Seen) (l:List (List UInt8)),cs=pre++r→Rel m l→
  ∃ z,Qea m0 m d n i cs (cs.length:Int) (pre.length:Int)=some z∧(match twC r l with |none=>z=.inl () |some l'=>∃ m',z=.inr m'∧Rel m' l'):=by
 intro r
 induction r with
 | nil=>
  intro pre m l h hr
  subst h
  rw [QiV,Qd5,cond_false]
  exact ⟨_,rfl,_,rfl,hr⟩
 | cons c r ih=>
  intro pre m l h hr
  have hx:cs[pre.length]?=some c:=by rw [h,List.getElem?_append_right (Nat.le_refl _)]; simp
  rw [QiV,Qal hx,cond_true,Qag hx,Qaa,hr c.1,twC]
  cases hc:l.contains c.1 with
  | true=>exact ⟨_,rfl,rfl⟩
  | false=>
   rw [cond_false,Qam hx (by omega)]
   have:=ih (pre++[c]) _ _ (by rw [h]; simp) (hr.put c.1)
   simpa using this
theorem QDO (d:List Qah)(h:Qbo d):∀ (r pre:List Qah) (m m2:Seen) (ts cs:List (List UInt8)),d=pre++r→Rel m ts→Rel m2 cs→
  Qd8 m m2 d (d.length:Int) (pre.length:Int)=some (if twS r ts cs=true then .inl () else .inr ()):=by
 have hl:=h.len
 intro r
 induction r with
 | nil=>
  intro pre m m2 ts cs h hr hr2
  subst h
  rw [QiS,Qd5,cond_false]
  rfl
 | cons x r ih=>
  intro pre m m2 ts cs hd hr hr2
  have hx:d[pre.length]?=some x:=by rw [hd,List.getElem?_append_right (Nat.le_refl _)]; simp
  rw [QiS,Qal hx,cond_true,Qag hx,Qaa,hr x.1,twS]
  cases hc:ts.contains x.1 with
  | true=>rfl
  | false=>
   obtain ⟨z,hz,hz2⟩:=QDN (putD .str .bool m x.1 true) d (d.length:Int) (pre.length:Int) x.2 (h.cons x (List.mem_of_getElem? hx)) x.2 [] m2 cs rfl hr2
   rw [cond_false,show Qea (putD .str .bool m x.1 true) m2 d (d.length:Int) (pre.length:Int) x.2 (x.2.length:Int) 0=_ from hz,Qaa,Qam hx (by omega)]
   cases ht:twC x.2 cs with
   | none=>
    rw [ht] at hz2
    subst hz2
    rfl
   | some l'=>
    rw [ht] at hz2
    obtain ⟨m',rfl,hr'⟩:=hz2
    have:=ih (pre++[x]) _ _ _ _ (by rw [hd]; simp) (hr.put x.1) hr'
    simpa using this
theorem QzD (d:List Qah)(h:Qbo d):Qmq d=some (Qxj d):=by
 rw [QrR,show Qd8 (putD .str .bool [] [73,110,116] true) [] d (d.length:Int) 0=_ from QDO d h d [] _ _ ([]++[[73,110,116]]) [] rfl (Rel.put (fun y=>rfl) _) (fun y=>rfl),Qaa]
 unfold Qxj
 rw [List.nil_append]
 by_cases ht:twS d [[73,110,116]] []=true
 ·rw [if_pos ht,ht]
 ·rw [if_neg ht]
  simp only [Bool.not_eq_true] at ht
  rw [ht]
theorem Qyq (l:List (List UInt8))(hl:l.length≤1000000000000)(s:List UInt8):QpA l s=some (l.contains s):=by
 rw [Qw8,QaF (L:=fun i=>QjB l s i) (l:=l) (p:=fun x=>!decide (x=s)) (A:=.inl ()) (B:=.inr ()) (fun i x hx=>by
  rw [QlZ,Qal hx,cond_true,Qag hx,Qaa,Qam hx (by omega),Qak]
  cases decide (x=s)<;>rfl) (by rw [QlZ,Qar,cond_false]),Qaa]
 have:l.contains s=!l.all fun x=>!decide (x=s):=by
  rw [Bool.eq_iff_iff]
  simp [List.contains_iff_mem]
 rw [this]
 cases l.all _<;>rfl
theorem QFr (ts:List (List UInt8))(d:List Qah)(k:Nat)(x:Qah)(hx:d[k]?=some x)(hl:x.2.length≤1000000):∀ (r pre:List GCon) (l:List (List UInt8)),x.2=pre++r→l.length≤1000000000+pre.length→
  Qeb ts l d (k:Int) (pre.length:Int)=some (match twC r l with |none=>.inl () |some l'=>.inr l')∧∀ l',twC r l=some l'→l'.length=l.length+r.length:=by
 intro r
 induction r with
 | nil=>
  intro pre l h hr
  rw [QiX,Qag hx,Qaa,h,Qd5,cond_false]
  exact ⟨rfl,fun l' hl'=>by simp only [twC,osi] at hl'; rw [hl']; simp⟩
 | cons c r ih=>
  intro pre l h hr
  have hc:x.2[pre.length]?=some c:=by rw [h,List.getElem?_append_right (Nat.le_refl _)]; simp
  have hpl:x.2.length=pre.length+(r.length+1):=by rw [h]; simp
  rw [QiX,Qag hx,Qaa,Qal hc,cond_true,Qag hc,Qaa,Qyq l (by omega),Qaa,twC]
  cases hcc:l.contains c.1 with
  | true=>exact ⟨rfl,fun l' hl'=>by simp at hl'⟩
  | false=>
   rw [cond_false,Qac (by omega),Qam hc (by omega)]
   have:=ih (pre++[c]) (l++[c.1]) (by rw [h]; simp) (by simp; omega)
   simp only [List.length_append,List.length_cons,List.length_nil] at this ⊢
   refine ⟨by simpa using this.1,fun l' hl'=>?_⟩
   have:=this.2 l' (by simpa using hl')
   omega
theorem QFs (d:List Qah)(h:Qbo d):∀ (r pre:List Qah) (ts cs:List (List UInt8)),d=pre++r→ts.length≤1+pre.length→cs.length≤1000000 * pre.length→
  Qd9 ts cs d (pre.length:Int)=some (if twS r ts cs=true then .inr () else .inl ()):=by
 have hl:=h.len
 intro r
 induction r with
 | nil=>
  intro pre ts cs h hr hr2
  subst h
  rw [QiU,Qd5,cond_false]
  rfl
 | cons x r ih=>
  intro pre ts cs hd hr hr2
  have hx:d[pre.length]?=some x:=by rw [hd,List.getElem?_append_right (Nat.le_refl _)]; simp
  have hpl:d.length=pre.length+(r.length+1):=by rw [hd]; simp
  have hxl:=h.cons x (List.mem_of_getElem? hx)
  rw [QiU,Qal hx,cond_true,Qag hx,Qaa,Qyq ts (by omega),Qaa,twS]
  cases hc:ts.contains x.1 with
  | true=>rfl
  | false=>
   obtain ⟨hz,hz2⟩:=QFr (ts++[x.1]) d pre.length x hx hxl x.2 [] cs rfl (by simp; omega)
   rw [cond_false,Qac (by omega),show Qeb (ts++[x.1]) cs d (pre.length:Int) 0=_ from hz,Qaa,Qam hx (by omega)]
   cases ht:twC x.2 cs with
   | none=>rfl
   | some l'=>
    have:=hz2 l' ht
    have:=ih (pre++[x]) (ts++[x.1]) l' (by rw [hd]; simp) (by simp; omega) (by simp; omega)
    simpa using this
theorem Qxk (d:List Qah)(h:Qbo d):Qmr d=some (Qxj d):=by
 rw [QrS,show Qd9 [[73,110,116]] [] d 0=_ from QFs d h d [] _ _ rfl (by simp) (by simp),Qaa]
 unfold Qxj
 cases twS d [[73,110,116]] []<;>rfl
def Qo4 (d:List Qah):Bool:=d.all fun x=>x.2.all fun c=>c.2.all (isTy d)
theorem any2 (d:List Qah)(l:List Int)(hl:l.length≤1000000000000):Qc4 d l=some (!l.all (isTy d)):=by
 rw [Qiq,Qkk]
 rw [Qdk (L:=fun i=>Qb8 d l (l.length:Int) i) (l:=l) (p:=fun c=>!isTy d c) (A:=fun j=>.inr (j:Int)) (B:=.inl ()) (fun i c hc=>by
  rw [Qeg,Qal hc,cond_true,Qag hc,Qaa,Qpd,Qo2,Qaa,Qaa,Qam hc (by omega),Qak]) (by rw [Qeg,Qar,cond_false])]
 rw [List.not_all_eq_any_not,← Qcg _ l 0]
 cases QiM _ 0 l with
 | none=>rfl
 | some j=>simp only [Qaa]; rw [QaP (by omega)]; rfl
theorem QGC (d:List Qah)(h:Qbo d):Qd7 d d (d.length:Int) 0=some (if Qo4 d=true then .inl () else .inr ()):=by
 have hl:=h.len
 refine QaF (L:=fun i=>Qd7 d d (d.length:Int) i) (l:=d) (p:=fun x=>x.2.all fun c=>c.2.all (isTy d)) (fun i x hx=>?_) ?_
 ·have hm:=List.mem_of_getElem? hx
  have hc:=h.cons x hm
  rw [QiR,Qal hx,cond_true,Qag hx,Qaa,QaF (L:=fun j=>QfP d d (d.length:Int) (i:Int) x.2 (x.2.length:Int) j) (l:=x.2) (p:=fun c=>c.2.all (isTy d)) (A:=.inr ()) (B:=.inl ()) (fun j c hcx=>by
   rw [QiT,Qal hcx,cond_true,Qag hcx,Qaa,any2 d c.2 (h.fields x hm c (List.mem_of_getElem? hcx)),Qaa,Qam hcx (by omega),Qak]
   cases c.2.all (isTy d)<;>rfl) (by rw [QiT,Qar,cond_false]),Qaa,Qam hx (by omega)]
  cases x.2.all _<;>rfl
 ·rw [QiR,Qar,cond_false]
theorem Qxl (d:List Qah)(h:Qbo d):Qms d=some (Qo4 d):=by
 have hl:=h.len
 rw [QrT,QaF (L:=fun i=>QfQ d i) (l:=d) (p:=fun x=>x.2.all fun c=>c.2.all (isTy d)) (A:=.inr ()) (B:=.inl ()) (fun i x hx=>by
  have hm:=List.mem_of_getElem? hx
  have hc:=h.cons x hm
  rw [QiW,Qal hx,cond_true,QaF (L:=fun j=>QfR d (i:Int) j) (l:=x.2) (p:=fun c=>c.2.all (isTy d)) (A:=.inr ()) (B:=.inl ()) (fun j c hcx=>by
   have hf:=h.fields x hm c (List.mem_of_getElem? hcx)
   rw [QiY,Qag hx,Qaa,Qal hcx,cond_true,Qag hcx,Qaa,QaF (L:=fun k=>QfS d (i:Int) (j:Int) c.2 k) (l:=c.2) (p:=isTy d) (A:=.inr ()) (B:=.inl ()) (fun k t ht=>by
    rw [QiZ,Qal ht,cond_true,Qag ht,Qaa,Qrp,Qaa,Qam ht (by omega),Qak]) (by rw [QiZ,Qar,cond_false]),Qaa,Qam hcx (by omega)]
   cases c.2.all (isTy d)<;>rfl) (by rw [QiY,Qag hx,Qaa,Qar,cond_false]),Qaa,Qam hx (by omega)]
  cases x.2.all _<;>rfl) (by rw [QiW,Qar,cond_false]),Qaa]
 unfold Qo4
 cases d.all _<;>rfl
def cf:List Bool→Nat
 | []=>0
 | false::l=>cf l+1
 | true::l=>cf l
theorem QzE:∀ l:List Bool,cf l≤l.length
 | []=>Nat.le_refl _
 | false::l=>Nat.succ_le_succ (QzE l)
 | true::l=>Nat.le_succ_of_le (QzE l)
theorem QsQ:∀ (l:List Bool) (i:Nat),l[i]?=some false→cf (l.set i true)+1=cf l
 | [],i,h=>by simp at h
 | b::l,0,h=>by
  simp at h
  subst h
  rfl
 | b::l,i+1,h=>by
  have:=QsQ l i (by simpa using h)
  cases b with
  | false=>show cf (l.set i true)+1+1=cf l+1; omega
  | true=>exact this
theorem Qe1 {α:Type}:∀ (l:List α) (i:Nat) (x:α),l[i]?=some x→l.set i x=l
 | [],i,x,h=>rfl
 | y::l,0,x,h=>by simp at h; subst h; rfl
 | y::l,i+1,x,h=>by rw [List.set_cons_succ,Qe1 l i x (by simpa using h)]
def ready (done:List Bool)(c:GCon):Bool:=c.2.all fun t=>decide (done[t.toNat]?=some true)
def Qor (done:List Bool)(i:Nat)(x:Qah):List Bool:=if x.2.any (ready done)=true then done.set (i+1) true else done
def Qkw:Nat→List Qah→List Bool→List Bool
 | _,[],done=>done
 | i,x::r,done=>Qkw (i+1) r (Qor done i x)
def Quj (d:List Qah):Nat→List Bool→List Bool
 | 0,done=>done
 | k+1,done=>Quj d k (Qkw 0 d done)
def fin (d:List Qah):Bool:=(Quj d (d.length+1) ((List.replicate (d.length+1) false).set 0 true)).all id
theorem Qll (done:List Bool)(i:Nat)(x:Qah):(Qor done i x).length=done.length:=by
 unfold Qor
 split<;>simp
theorem Qnq:∀ (r:List Qah) (i:Nat) (done:List Bool),(Qkw i r done).length=done.length
 | [],i,done=>rfl
 | x::r,i,done=>by rw [Qkw,Qnq r,Qll]
theorem Qyr (done:List Bool)(i:Nat)(x:Qah)(h:i+1<done.length):(Qor done i x=done)∨(done[i+1]?=some false∧x.2.any (ready done)=true∧Qor done i x=done.set (i+1) true):=by
 unfold Qor
 have hx:done[i+1]?=some done[i+1]:=List.getElem?_eq_getElem h
 by_cases hr:x.2.any (ready done)=true
 ·rw [if_pos hr]
  cases hb:done[i+1] with
  | true=>exact Or.inl (Qe1 _ _ _ (by rw [hx,hb]))
  | false=>exact Or.inr ⟨by rw [hx,hb],hr,rfl⟩
 ·rw [if_neg hr]; exact Or.inl rfl
theorem Quk:∀ (r:List Qah) (i:Nat) (done:List Bool),i+r.length<done.length→cf (Qkw i r done)≤cf done∧(Qkw i r done≠done→cf (Qkw i r done)<cf done)
 | [],i,done,h=>⟨Nat.le_refl _,fun h=>absurd rfl h⟩
 | x::r,i,done,h=>by
  simp only [List.length_cons] at h
  rw [Qkw]
  have ih:=Quk r (i+1) (Qor done i x) (by rw [Qll]; omega)
  rcases Qyr done i x (by omega) with h1 |⟨h1,h2,h3⟩
  ·rw [h1] at ih ⊢; exact ih
  ·rw [h3] at ih ⊢
   have:=QsQ _ _ h1
   exact ⟨by omega,fun _=>by omega⟩
theorem QvI (d:List Qah)(done:List Bool)(h:Qkw 0 d done=done):∀ k,Quj d k done=done
 | 0=>rfl
 | k+1=>by rw [Quj,h,QvI d done h k]
structure Tyd (d:List Qah):Prop where
 ok:∀ x∈d,∀ c∈x.2,∀ t∈c.2,0≤t∧t≤(d.length:Int)
theorem QEn (d:List Qah)(h:Qo4 d=true):Tyd d:=⟨fun x hx c hc t ht=>by
 unfold Qo4 at h
 rw [List.all_eq_true] at h
 have h1:=h x hx
 rw [List.all_eq_true] at h1
 have h2:=h1 c hc
 rw [List.all_eq_true] at h2
 have h3:=h2 t ht
 unfold isTy at h3
 exact of_decide_eq_true h3⟩
theorem any5 (done:List Bool)(l:List Int)(hl:l.length≤1000000000000)(hr:∀ t∈l,0≤t∧t<(done.length:Int)):Qc7 done l=some (!l.all fun t=>decide (done[t.toNat]?=some true)):=by
 rw [Qit,Qkn]
 rw [Qdk (L:=fun i=>Qcb done l (l.length:Int) i) (l:=l) (p:=fun t=>!decide (done[t.toNat]?=some true)) (A:=fun j=>.inr (j:Int)) (B:=.inl ()) (fun i c hc=>by
  obtain ⟨h0,h1⟩:=hr c (List.mem_of_getElem? hc)
  obtain ⟨b,hb,hb'⟩:=Qfp h0 h1
  rw [Qej,Qal hc,cond_true,Qag hc,Qaa,Qmx,hb,Qaa,Qaa,Qam hc (by omega),Qak,hb']
  cases b<;>rfl) (by rw [Qej,Qar,cond_false])]
 rw [List.not_all_eq_any_not,← Qcg _ l 0]
 cases QiM _ 0 l with
 | none=>rfl
 | some j=>simp only [Qaa]; rw [QaP (by omega)]; rfl
theorem any4 (d:List Qah)(h:Qbo d)(ht:Tyd d)(done:List Bool)(hd:done.length=d.length+1)(x:Qah)(hx:x∈d):Qc6 done x.2=some (x.2.any (ready done)):=by
 have hl:=h.cons x hx
 rw [Qis,Qkm]
 rw [Qdk (L:=fun i=>Qca done x.2 (x.2.length:Int) i) (l:=x.2) (p:=ready done) (A:=fun j=>.inr (j:Int)) (B:=.inl ()) (fun i c hc=>by
  have hm:=List.mem_of_getElem? hc
  rw [Qei,Qal hc,cond_true,Qag hc,Qaa,Qok,any5 done c.2 (h.fields x hx c hm) (fun t htm=>by have:=ht.ok x hx c hm t htm; omega),Qaa,Qaa,Qam hc (by omega),Qak,Bool.not_not]
  rfl) (by rw [Qei,Qar,cond_false])]
 rw [← Qcg _ x.2 0]
 cases QiM _ 0 x.2 with
 | none=>rfl
 | some j=>simp only [Qaa]; rw [QaP (by omega)]; rfl
theorem QHw (d:List Qah)(h:Qbo d)(ht:Tyd d):∀ (r pre:List Qah) (done:List Bool) (more:Bool),d=pre++r→done.length=d.length+1→
  Qcw done d more (d.length:Int) (pre.length:Int)=some (Qkw pre.length r done,more||decide (Qkw pre.length r done≠done)):=by
 have hl:=h.len
 intro r
 induction r with
 | nil=>
  intro pre done more hd hn
  rw [QhV]
  subst hd
  rw [Qd5,cond_false,Qkw]
  simp
 | cons x r ih=>
  intro pre done more hd hn
  have hx:d[pre.length]?=some x:=by rw [hd,List.getElem?_append_right (Nat.le_refl _)]; simp
  have hpl:d.length=pre.length+(r.length+1):=by rw [hd]; simp
  have hi:pre.length+1<done.length:=by omega
  have hb:done[pre.length+1]?=some done[pre.length+1]:=List.getElem?_eq_getElem hi
  rw [QhV,Qal hx,cond_true,Qag hx,Qaa,any4 d h ht done hn x (List.mem_of_getElem? hx),Qaa,Qam hx (by omega),Qag hb]
  simp only [Qaa,Qai,Qeo]
  rw [Qkw]
  have hcf:=Quk r (pre.length+1) (Qor done pre.length x) (by rw [Qll]; omega)
  have ih1:=fun b=>ih (pre++[x]) (Qor done pre.length x) b (by rw [hd]; simp) (by rw [Qll]; exact hn)
  simp only [List.length_append,List.length_cons,List.length_nil,Nat.zero_add] at ih1
  rcases Qyr done pre.length x hi with h1 |⟨h1,h2,h3⟩
  ·have hz:(x.2.any (ready done)&&!done[pre.length+1])=false:=by
    by_cases hr:x.2.any (ready done)=true
    ·unfold Qor at h1
     rw [if_pos hr] at h1
     have:(done.set (pre.length+1) true)[pre.length+1]?=some true:=by rw [List.getElem?_set_self hi]
     rw [h1,hb] at this
     simp only [osi] at this
     rw [this]; simp
    ·simp only [Bool.not_eq_true] at hr
     rw [hr]; rfl
   rw [hz,cond_false]
   have:=ih1 more
   rw [h1] at this ⊢
   exact this
  ·rw [hb] at h1
   simp only [osi] at h1
   rw [h1,h2]
   simp only [Bool.not_false,Bool.and_self,cond_true,Int.toNat_natCast]
   rw [← h3,ih1 true]
   have hc1:=QsQ done (pre.length+1) (by rw [hb,h1])
   have:Qkw (pre.length+1) r (Qor done pre.length x)≠done:=fun e=>by
    rw [e,h3] at hcf
    omega
   rw [decide_eq_true this]
   simp
theorem QGD (d:List Qah)(h:Qbo d)(ht:Tyd d):∀ (k:Nat) (done:List Bool),done.length=d.length+1→cf done≤k→Qe9 done d true=some (Quj d (k+1) done)
 | k,done,hn,hc=>by
  rw [QhT,cond_true,show Qcw done d false (d.length:Int) 0=_ from QHw d h ht d [] done false rfl hn,Qaa]
  simp only [List.length_nil,Bool.false_or]
  have hcf:=Quk d 0 done (by omega)
  by_cases he:Qkw 0 d done=done
  ·rw [show decide (Qkw 0 d done≠done)=false from decide_eq_false (by simp [he]),he,QhT,cond_false,QvI d done he]
  ·rw [decide_eq_true he]
   have:=hcf.2 he
   match k with
   | 0=>omega
   | k+1=>rw [QGD d h ht k _ (by rw [Qnq]; exact hn) (by omega),← Quj]
theorem QGE (l:List Bool)(hl:l.length≤1000000):QcS l false=some (!l.all id):=by
 rw [Qhh,Qj4]
 rw [Qdk (L:=fun i=>QcT l false (l.length:Int) i) (l:=l) (p:=fun b=>!b) (A:=fun j=>.inl (j:Int)) (B:=.inr ()) (fun i b hb=>by
  rw [QcM,Qal hb,cond_true,Qag hb,Qaa,Qam hb (by omega)]
  cases b<;>rfl) (by rw [QcM,Qar,cond_false])]
 rw [show (!l.all id)=l.any (fun b=>!b) by rw [List.not_all_eq_any_not]; rfl,← Qcg _ l 0]
 cases QiM _ 0 l with
 | none=>rfl
 | some j=>simp only [Qaa]; rw [QaP (by omega)]; rfl
theorem Qrr (d:List Qah):∀ (k:Nat) (done:List Bool),(Quj d k done).length=done.length
 | 0,done=>rfl
 | k+1,done=>by rw [Quj,Qrr d k,Qnq]
theorem QDP (d:List Qah)(h:Qbo d)(ht:Tyd d):Qk3 d=some (fin d):=by
 have hl:=h.len
 rw [Qq5,Sy.QaZ (by omega),Qab (by omega),Int.toNat_natCast,Qac (by omega)]
 rw [show at' (List.replicate (d.length+1) false) 0=some false from Qag (i:=0) (by simp),Qaa]
 rw [QGD d h ht d.length _ (by simp) (by
  show cf (((List.replicate (d.length+1) false)).set 0 true)≤d.length
  rw [List.replicate_succ,List.set_cons_zero]
  show cf (List.replicate d.length false)≤d.length
  exact Nat.le_trans (QzE _) (by simp)),Qaa,QGE _ (by rw [Qrr]; simp; omega),Qaa,Bool.not_not]
 rfl
theorem QGF (d:List Qah)(done:List Bool)(i j k:Int)(l:List Int)(hl:l.length≤1000000000000)(hr:∀ t∈l,0≤t∧t<(done.length:Int)):Qdw done d i j k true l 0=some (l.all fun t=>decide (done[t.toNat]?=some true)):=by
 have:=QaM (L:=fun b m=>Qdw done d i j k b l m) (l:=l) (F:=fun b t=>b&&decide (done[t.toNat]?=some true)) (E:=id) (fun _ _=>True)
  (fun b m t ht _=>⟨by
   obtain ⟨h0,h1⟩:=hr t (List.mem_of_getElem? ht)
   obtain ⟨c,hc,hc'⟩:=Qfp h0 h1
   rw [Qh0,Qal ht,cond_true,Qag ht]
   simp only [Qaa]
   rw [hc,Qam ht (by omega),hc']
   cases b<;>cases c<;>rfl,trivial⟩)
  (fun b _=>by rw [Qh0,Qar,cond_false]; rfl) true trivial
 rw [this]
 congr 1
 have e:∀ (l:List Int) (b:Bool),List.foldl (fun b t=>b&&decide (done[t.toNat]?=some true)) b l=(b&&l.all fun t=>decide (done[t.toNat]?=some true)):=by
  intro l
  induction l with
  | nil=>intro b; simp
  | cons t l ih=>intro b; rw [List.foldl_cons,ih,List.all_cons,Bool.and_assoc]
 rw [e]
 rfl
def Qos (i:Nat)(m:List Bool)(c:GCon):List Bool:=if ready m c=true then m.set (i+1) true else m
theorem QB9 (i:Nat)(m:List Bool)(c:GCon):(Qos i m c).length=m.length:=by unfold Qos; split<;>simp
theorem QsR (i:Nat):∀ (l:List GCon) (m:List Bool),i+1<m.length→m[i+1]?=some true→l.foldl (Qos i) m=m
 | [],m,h,hm=>rfl
 | c::l,m,h,hm=>by
  have:Qos i m c=m:=by
   unfold Qos
   split
   ·exact Qe1 _ _ _ hm
   ·rfl
  rw [List.foldl_cons,this,QsR i l m h hm]
theorem QGG (i:Nat):∀ (l:List GCon) (m:List Bool),i+1<m.length→l.foldl (Qos i) m=if l.any (ready m)=true then m.set (i+1) true else m
 | [],m,h=>rfl
 | c::l,m,h=>by
  rw [List.foldl_cons,List.any_cons]
  by_cases hc:ready m c=true
  ·have:Qos i m c=m.set (i+1) true:=by unfold Qos; rw [if_pos hc]
   rw [this,hc,Bool.true_or,if_pos rfl,QsR i l _ (by simpa using h) (by rw [List.getElem?_set_self h])]
  ·have:Qos i m c=m:=by unfold Qos; rw [if_neg hc]
   simp only [Bool.not_eq_true] at hc
   rw [this,hc,Bool.false_or,QGG i l m h]
theorem QGH (d:List Qah)(h:Qbo d)(ht:Tyd d)(rd:Int)(i:Nat)(x:Qah)(hx:d[i]?=some x)(done:List Bool)(hn:done.length=d.length+1):Qdv done d rd (i:Int) 0=some (Qor done i x):=by
 have hm:=List.mem_of_getElem? hx
 have hl:=h.len
 have hc:=h.cons x hm
 have hil:=Qa7 hx
 have:=QaM (L:=fun m k=>Qdv m d rd (i:Int) k) (l:=x.2) (F:=Qos i) (E:=id) (fun _ m=>m.length=d.length+1)
  (fun m k c hcx hI=>⟨by
   have hcm:=List.mem_of_getElem? hcx
   have hib:i+1<m.length:=by omega
   have hb:m[i+1]?=some m[i+1]:=List.getElem?_eq_getElem hib
   rw [QhZ,Qag hx,Qaa,Qal hcx,cond_true,Qag hcx,Qaa,QGF d m rd (i:Int) (k:Int) c.2 (h.fields x hm c hcm) (fun t htm=>by have:=ht.ok x hm c hcm t htm; omega),Qaa,Qam hx (by omega),Qag hb]
   simp only [Qaa,Qai,QaQ]
   rw [Qam hcx (by omega)]
   congr 1
   unfold Qos ready
   by_cases hr:(c.2.all fun t=>decide (m[t.toNat]?=some true))=true
   ·rw [if_pos hr,hr]; simp
   ·rw [if_neg hr]
    simp only [Bool.not_eq_true] at hr
    rw [hr,Bool.or_false]
    exact Qe1 _ _ _ hb,by show (Qos i m c).length=_; rw [QB9]; exact hI⟩)
  (fun m _=>by rw [QhZ,Qag hx,Qaa,Qar,cond_false]; rfl) done hn
 rw [this,QGG i x.2 done (by omega)]
 rfl
theorem QGI (d:List Qah)(h:Qbo d)(ht:Tyd d)(rd:Int):∀ (r pre:List Qah) (done:List Bool),d=pre++r→done.length=d.length+1→Qdt done d rd (pre.length:Int)=some (Qkw pre.length r done):=by
 have hl:=h.len
 intro r
 induction r with
 | nil=>
  intro pre done hd hn
  rw [QhW]
  subst hd
  rw [Qd5,cond_false]
  rfl
 | cons x r ih=>
  intro pre done hd hn
  have hx:d[pre.length]?=some x:=by rw [hd,List.getElem?_append_right (Nat.le_refl _)]; simp
  rw [QhW,Qal hx,cond_true,QGH d h ht rd pre.length x hx done hn,Qaa,Qam hx (by omega),Qkw]
  have:=ih (pre++[x]) (Qor done pre.length x) (by rw [hd]; simp) (by rw [Qll]; exact hn)
  simpa using this
theorem QEo (d:List Qah)(h:Qbo d)(ht:Tyd d):∀ (k i:Nat) (done:List Bool),i+k=d.length+1→done.length=d.length+1→Qdr done d (i:Int)=some (Quj d k done)
 | 0,i,done,hk,hn=>by
  rw [QhU,Qac (by omega)]
  rfl
 | k+1,i,done,hk,hn=>by
  have hl:=h.len
  rw [QhU,Qab (by omega),show Qdt done d (i:Int) 0=_ from QGI d h ht (i:Int) d [] done rfl hn,Qaa,Sy.QaZ (by omega),QEo d h ht k (i+1) _ (by omega) (by rw [Qnq]; exact hn)]
  rfl
theorem QGJ (l:List Bool)(hl:l.length≤1000000):Qdu l 0=some (if l.all id=true then .inr () else .inl ()):=by
 refine QaF (L:=fun i=>Qdu l i) (p:=id) (fun i b hb=>?_) ?_
 ·rw [QhY,Qal hb,cond_true,Qag hb,Qaa,Qam hb (by omega),Qak]
  rfl
 ·rw [QhY,Qar,cond_false]
theorem QCa (d:List Qah)(h:Qbo d)(ht:Tyd d):Qk4 d=some (fin d):=by
 have hl:=h.len
 rw [Qq6,Sy.QaZ (by omega),Qab (by omega),Int.toNat_natCast,Qac (by omega)]
 rw [show at' (List.replicate (d.length+1) false) 0=some false from Qag (i:=0) (by simp),Qaa]
 rw [show Qdr ((List.replicate (d.length+1) false).set 0 true) d 0=_ from QEo d h ht (d.length+1) 0 _ (by omega) (by simp),Qaa,QGJ _ (by rw [Qrr]; simp; omega),Qaa]
 unfold fin
 cases List.all _ _<;>rfl
def chkD (d:List Qah):Int:=if many d=true then 6 else if formed d=false then 3 else if Qxj d=true then 8 else if Qo4 d=false then 10 else if fin d=false then 7 else 0
theorem QCb (d:List Qah)(h:Qbo d):Qmo d=some (chkD d):=by
 rw [QrP,QB7 d h,Qaa,Qxi d h,QzD d h,QGC d h]
 simp only [Qaa]
 unfold chkD
 cases many d with
 | true=>rfl
 | false=>
  cases formed d with
  | false=>rfl
  | true=>
   cases Qxj d with
   | true=>rfl
   | false=>
    cases ht:Qo4 d with
    | false=>rfl
    | true=>
     simp only [cond_false,cond_true,if_true]
     rw [QDP d h (QEn d ht),Qaa]
     cases fin d<;>rfl
theorem QzF (d:List Qah)(h:Qbo d):Qmp d=some (chkD d):=by
 rw [QrQ,QzC d h,Qaa,QvH d h,Qxk d h,Qxl d h]
 simp only [Qaa]
 unfold chkD
 cases many d with
 | true=>rfl
 | false=>
  cases formed d with
  | false=>rfl
  | true=>
   cases Qxj d with
   | true=>rfl
   | false=>
    cases ht:Qo4 d with
    | false=>rfl
    | true=>
     simp only [cond_false,cond_true]
     rw [QCa d h (QEn d ht),Qaa]
     cases fin d<;>rfl
end Go.Proofs.YtkecfadnfnnfaaaGreatDoor.LabB
namespace Go.Proofs.YtkecfadnfnnfaaaGreatDoor.LabB
open Go Go.Ev Go.Sy
abbrev fPar (f:GFun):Int:=f.2.1
abbrev fRes (f:GFun):Int:=f.2.2.1
abbrev Qad (f:GFun):List GVar:=f.2.2.2.1
abbrev Qap (f:GFun):List Qaf:=f.2.2.2.2.1
abbrev Qa0 (f:GFun):Int:=f.2.2.2.2.2.1
abbrev fExt (f:GFun):Bool:=f.2.2.2.2.2.2
structure Qgp (f:GFun):Prop where
 name:f.1.length≤1000000000
 vars:f.2.2.2.1.length≤1000000
 code:f.2.2.2.2.1.length≤1000000
 nodes:∀ n∈f.2.2.2.2.1,QbN n
structure QbS (p:Qae):Prop where
 Qnr:Qbo p.1
 funs:p.2.length≤1000
 all:∀ f∈p.2,Qgp f
def hdr (p:Qae)(k:Nat)(f:GFun):Int:=
 if QvG f.1=false then 3
 else if (p.2.take k).any (fun g=>decide (g.1=f.1))=true then 8
 else if 6<fPar f∨512<((Qad f).length:Int)∨4096<((Qap f).length:Int) then 6
 else if fPar f<0∨((Qad f).length:Int)<fPar f then 3
 else if (fExt f=true∧(fPar f<((Qad f).length:Int)∨0<((Qap f).length:Int)∨Qa0 f≠0))∨(fExt f=false∧(Qa0 f<0∨((Qap f).length:Int)≤Qa0 f)) then 3
 else if isTy p.1 (fRes f)=false then 10
 else if (Qad f).all (fun v=>isTy p.1 v.1)=false then 10
 else if (Qad f).all (fun v=>!(v.2&&flat p.1 v.1))=false then 11
 else 0
theorem hdrL (p:Qae)(k:Nat)(f:GFun)(hp:p.2.length≤1000)(a b c:List Bool)(x:GFun)(hx:x.1=f.1):
  Qbl a b c p.1 p.2 f.1 f.2.1 f.2.2.1 f.2.2.2.1 f.2.2.2.2.1 f.2.2.2.2.2.1 f.2.2.2.2.2.2 x (p.2.take k) ((p.2.take k).length:Int) 0=some (if (p.2.take k).any (fun g=>decide (g.1=f.1))=true then .inl () else .inr ()):=by
 have hl:(p.2.take k).length≤1000:=by rw [List.length_take]; omega
 rw [QaF (L:=fun i=>Qbl a b c p.1 p.2 f.1 f.2.1 f.2.2.1 f.2.2.2.1 f.2.2.2.2.1 f.2.2.2.2.2.1 f.2.2.2.2.2.2 x (p.2.take k) ((p.2.take k).length:Int) i) (l:=p.2.take k) (p:=fun g=>!decide (g.1=f.1)) (A:=.inl ()) (B:=.inr ()) (fun i g hg=>by
  rw [Qee,Qal hg,cond_true,Qag hg,Qaa,Qam hg (by omega),Qak,hx]
  cases decide (g.1=f.1)<;>rfl) (by rw [Qee,Qar,cond_false]),← List.not_any_eq_all_not]
 cases List.any _ _<;>rfl
theorem any3 (p:Qae)(f:GFun)(a b c:List Bool)(l:List GVar)(hl:l.length≤1000000):
  Qc5 a b c p.1 p.2 f.1 f.2.1 f.2.2.1 f.2.2.2.1 f.2.2.2.2.1 f.2.2.2.2.2.1 f.2.2.2.2.2.2 l=some (!l.all fun v=>isTy p.1 v.1):=by
 rw [Qir,Qkl]
 rw [Qdk (L:=fun i=>Qb9 a b c p.1 p.2 f.1 f.2.1 f.2.2.1 f.2.2.2.1 f.2.2.2.2.1 f.2.2.2.2.2.1 f.2.2.2.2.2.2 l (l.length:Int) i) (l:=l) (p:=fun v=>!isTy p.1 v.1) (A:=fun j=>.inr (j:Int)) (B:=.inl ()) (fun i v hv=>by
  rw [Qeh,Qal hv,cond_true,Qag hv,Qaa,Qi0,Qfw]
  simp only [Qai,Qaa,Qf2]
  rw [Qam hv (by omega),Qak]
  have:(!(!decide (v.1<0)&&!decide ((p.1.length:Int)<v.1)))=!isTy p.1 v.1:=by
   unfold isTy
   rw [Bool.eq_iff_iff]
   simp only [Bool.and_eq_true,Bool.not_eq_true',Bool.and_eq_false_iff,decide_eq_true_eq,decide_eq_false_iff_not,Bool.not_eq_false']
   omega
  rw [this]) (by rw [Qeh,Qar,cond_false])]
 rw [List.not_all_eq_any_not,← Qcg _ l 0]
 cases QiM _ 0 l with
 | none=>rfl
 | some j=>simp only [Qaa]; rw [QaP (by omega)]; rfl
theorem any6 (p:Qae)(hd:Qbo p.1)(f:GFun)(a b c:List Bool)(l:List GVar)(hl:l.length≤1000000):
  Qc8 a b c p.1 p.2 f.1 f.2.1 f.2.2.1 f.2.2.2.1 f.2.2.2.2.1 f.2.2.2.2.2.1 f.2.2.2.2.2.2 l=some (!l.all fun v=>!(v.2&&flat p.1 v.1)):=by
 rw [Qiu,Qko]
 rw [Qdk (L:=fun i=>Qcc a b c p.1 p.2 f.1 f.2.1 f.2.2.1 f.2.2.2.1 f.2.2.2.2.1 f.2.2.2.2.2.1 f.2.2.2.2.2.2 l (l.length:Int) i) (l:=l) (p:=fun v=>v.2&&flat p.1 v.1) (A:=fun j=>.inr (j:Int)) (B:=.inl ()) (fun i v hv=>by
  rw [Qek,Qal hv,cond_true,Qag hv,Qaa,Qi2,Qnp p.1 hd]
  simp only [Qai,Qaa,Qeo]
  rw [Qam hv (by omega),Qak]) (by rw [Qek,Qar,cond_false])]
 rw [← List.not_any_eq_all_not,Bool.not_not,← Qcg _ l 0]
 cases QiM _ 0 l with
 | none=>rfl
 | some j=>simp only [Qaa]; rw [QaP (by omega)]; rfl
theorem QDQ (p:Qae)(hp:QbS p)(k:Nat)(hk:k≤p.2.length)(f:GFun)(hf:Qgp f)(a b c:List Bool):
  Qev a b c p.1 p.2 f.1 f.2.1 f.2.2.1 f.2.2.2.1 f.2.2.2.2.1 f.2.2.2.2.2.1 f.2.2.2.2.2.2 (k:Int)=some (hdr p k f):=by
 have hn:=hf.name
 have hv:=hf.vars
 rw [Qki,QB4 _ (by omega),Qaa,Qab (by omega),Qab (by omega),Int.toNat_natCast,hdrL p k f hp.funs a b c _ rfl,any3 p f a b c _ hv,any6 p hp.Qnr f a b c _ hv,Qfw]
 simp only [Qai,Qaa,Qaz,QaQ,Qf2,Qjy]
 have hty:(!decide (f.2.2.1<0)&&!decide ((p.1.length:Int)<f.2.2.1))=isTy p.1 f.2.2.1:=by
  unfold isTy
  rw [Bool.eq_iff_iff]
  simp only [Bool.and_eq_true,Bool.not_eq_true',Bool.and_eq_false_iff,decide_eq_true_eq,decide_eq_false_iff_not,Bool.not_eq_false']
  omega
 rw [hty]
 unfold hdr
 cases hnm:QvG f.1 with
 | false=>rfl
 | true=>
  cases ht:(p.2.take k).any (fun g=>decide (g.1=f.1)) with
  | true=>rfl
  | false=>
   simp only [cond_true,Bool.false_eq_true,if_false,Bool.true_eq_false]
   by_cases h6:6<fPar f∨512<((Qad f).length:Int)∨4096<((Qap f).length:Int)
   ·rw [if_pos h6,Qnf (by simp only [Bool.or_eq_true,decide_eq_true_eq]; show (6<fPar f∨512<((Qad f).length:Int))∨4096<((Qap f).length:Int); omega)]
   ·rw [if_neg h6,Qdd (by simp only [Bool.or_eq_false_iff,decide_eq_false_iff_not]; show (¬ 6<fPar f∧¬ 512<((Qad f).length:Int))∧¬ 4096<((Qap f).length:Int); omega)]
    by_cases h3:fPar f<0∨((Qad f).length:Int)<fPar f
    ·rw [if_pos h3,Qnf (by simp only [Bool.or_eq_true,decide_eq_true_eq]; exact h3)]
    ·rw [if_neg h3,Qdd (by simp only [Bool.or_eq_false_iff,decide_eq_false_iff_not]; show ¬ fPar f<0∧¬ ((Qad f).length:Int)<fPar f; omega)]
     have hbody:(fExt f=true∧(fPar f<((Qad f).length:Int)∨0<((Qap f).length:Int)∨Qa0 f≠0))∨(fExt f=false∧(Qa0 f<0∨((Qap f).length:Int)≤Qa0 f))↔(bif f.2.2.2.2.2.2 then (decide (f.2.1<(f.2.2.2.1.length:Int))||decide (0<(f.2.2.2.2.1.length:Int)))||!decide (f.2.2.2.2.2.1=0) else decide (f.2.2.2.2.2.1<0)||!decide (f.2.2.2.2.2.1<(f.2.2.2.2.1.length:Int)))=true:=by
      show (fExt f=true∧(fPar f<((Qad f).length:Int)∨0<((Qap f).length:Int)∨Qa0 f≠0))∨(fExt f=false∧(Qa0 f<0∨((Qap f).length:Int)≤Qa0 f))↔(bif fExt f then (decide (fPar f<((Qad f).length:Int))||decide (0<((Qap f).length:Int)))||!decide (Qa0 f=0) else decide (Qa0 f<0)||!decide (Qa0 f<((Qap f).length:Int)))=true
      cases fExt f<;>simp<;>omega
     have hb:∀ (x y:Option Int),(bif f.2.2.2.2.2.2 then bif (decide (f.2.1<(f.2.2.2.1.length:Int))||decide (0<(f.2.2.2.2.1.length:Int)))||!decide (f.2.2.2.2.2.1=0) then x else y else bif decide (f.2.2.2.2.2.1<0)||!decide (f.2.2.2.2.2.1<(f.2.2.2.2.1.length:Int)) then x else y)=if (fExt f=true∧(fPar f<((Qad f).length:Int)∨0<((Qap f).length:Int)∨Qa0 f≠0))∨(fExt f=false∧(Qa0 f<0∨((Qap f).length:Int)≤Qa0 f)) then x else y:=by
      intro x y
      by_cases hc:(fExt f=true∧(fPar f<((Qad f).length:Int)∨0<((Qap f).length:Int)∨Qa0 f≠0))∨(fExt f=false∧(Qa0 f<0∨((Qap f).length:Int)≤Qa0 f))
      ·rw [if_pos hc]
       have:=hbody.1 hc
       revert this
       cases f.2.2.2.2.2.2<;>simp only [cond_true,cond_false]<;>intro this<;>rw [this]<;>rfl
      ·rw [if_neg hc]
       have:=Bool.eq_false_iff.2 (fun h=>hc (hbody.2 h))
       revert this
       cases f.2.2.2.2.2.2<;>simp only [cond_true,cond_false]<;>intro this<;>rw [this]<;>rfl
     rw [hb]
     split
     ·rfl
     ·cases isTy p.1 f.2.2.1<;>cases (f.2.2.2.1.all fun v=>isTy p.1 v.1)<;>cases (f.2.2.2.1.all fun v=>!(v.2&&flat p.1 v.1))<;>rfl
end Go.Proofs.YtkecfadnfnnfaaaGreatDoor.LabB
