/- Of the models: the header of a function, and a node alone, of the program. -/
import Derived.Test.YtkecfadnfnnfaaaGreatDoorPlB3
set_option linter.unusedVariables false
set_option linter.unusedSimpArgs false
namespace Go.Proofs.YtkecfadnfnnfaaaGreatDoor.LabB
open Go Go.Ev Go.Sy
def twC:List GCon→List (List UInt8)→Option (List (List UInt8))
 | [],cs=>some cs
 | c::r,cs=>if cs.contains c.1=true then none else twC r (cs++[c.1])
def twS:List Qak→List (List UInt8)→List (List UInt8)→Bool
 | [],_,_=>false
 | x::r,ts,cs=>if ts.contains x.1=true then true else match twC x.2 cs with |none=>true |some cs'=>twS r (ts++[x.1]) cs'
def QwP (d:List Qak):Bool:=twS d [[73,110,116]] []
abbrev Seen:=List ((List UInt8)×Bool)
def Rel (m:Seen)(l:List (List UInt8)):Prop:=∀ y,findD .str .bool m y false=l.contains y
theorem Rel.put {m:Seen}{l:List (List UInt8)}(h:Rel m l)(x:List UInt8):Rel (putD .str .bool m x true) (l++[x]):=fun y=>by
 rw [Qve,h y]
 rw [Bool.eq_iff_iff]
 simp [List.contains_iff_mem]
 exact or_comm
theorem QDi (m0:Seen)(d:List Qak)(n i:Int)(cs:List GCon)(hl:cs.length≤1000000):∀ (r pre:List GCon) (m:Seen) (l:List (List UInt8)),cs=pre++r→Rel m l→
  ∃ z,QdK m0 m d n i cs (cs.length:Int) (pre.length:Int)=some z∧(match twC r l with |none=>z=.inl () |some l'=>∃ m',z=.inr m'∧Rel m' l'):=by
 intro r
 induction r with
 | nil=>
  intro pre m l h hr
  subst h
  rw [QiD,QdD,cond_false]
  exact ⟨_,rfl,_,rfl,hr⟩
 | cons c r ih=>
  intro pre m l h hr
  have hx:cs[pre.length]?=some c:=by rw [h,List.getElem?_append_right (Nat.le_refl _)]; simp
  rw [QiD,Qam hx,cond_true,Qah hx,Qaa,hr c.1,twC]
  cases hc:l.contains c.1 with
  | true=>exact ⟨_,rfl,rfl⟩
  | false=>
   rw [cond_false,Qan hx (by omega)]
   have:=ih (pre++[c]) _ _ (by rw [h]; simp) (hr.put c.1)
   simpa using this
theorem QDj (d:List Qak)(h:Qbh d):∀ (r pre:List Qak) (m m2:Seen) (ts cs:List (List UInt8)),d=pre++r→Rel m ts→Rel m2 cs→
  QdI m m2 d (d.length:Int) (pre.length:Int)=some (if twS r ts cs=true then .inl () else .inr ()):=by
 have hl:=h.len
 intro r
 induction r with
 | nil=>
  intro pre m m2 ts cs h hr hr2
  subst h
  rw [QiA,QdD,cond_false]
  rfl
 | cons x r ih=>
  intro pre m m2 ts cs hd hr hr2
  have hx:d[pre.length]?=some x:=by rw [hd,List.getElem?_append_right (Nat.le_refl _)]; simp
  rw [QiA,Qam hx,cond_true,Qah hx,Qaa,hr x.1,twS]
  cases hc:ts.contains x.1 with
  | true=>rfl
  | false=>
   obtain ⟨z,hz,hz2⟩:=QDi (putD .str .bool m x.1 true) d (d.length:Int) (pre.length:Int) x.2 (h.cons x (List.mem_of_getElem? hx)) x.2 [] m2 cs rfl hr2
   rw [cond_false,show QdK (putD .str .bool m x.1 true) m2 d (d.length:Int) (pre.length:Int) x.2 (x.2.length:Int) 0=_ from hz,Qaa,Qan hx (by omega)]
   cases ht:twC x.2 cs with
   | none=>
    rw [ht] at hz2
    subst hz2
    rfl
   | some l'=>
    rw [ht] at hz2
    obtain ⟨m',rfl,hr'⟩:=hz2
    have:=ih (pre++[x]) _ _ _ _ (by rw [hd]; simp) (hr.put x.1) hr'
    simpa using this
theorem Qy7 (d:List Qak)(h:Qbh d):Qmg d=some (QwP d):=by
 rw [QrI,show QdI (putD .str .bool [] [73,110,116] true) [] d (d.length:Int) 0=_ from QDj d h d [] _ _ ([]++[[73,110,116]]) [] rfl (Rel.put (fun y=>rfl) _) (fun y=>rfl),Qaa]
 unfold QwP
 rw [List.nil_append]
 by_cases ht:twS d [[73,110,116]] []=true
 ·rw [if_pos ht,ht]
 ·rw [if_neg ht]
  simp only [Bool.not_eq_true] at ht
  rw [ht]
theorem QxY (l:List (List UInt8))(hl:l.length≤1000000000000)(s:List UInt8):Qpu l s=some (l.contains s):=by
 rw [QwB,QaF (L:=fun i=>Qjh l s i) (l:=l) (p:=fun x=>!decide (x=s)) (A:=.inl ()) (B:=.inr ()) (fun i x hx=>by
  rw [QlM,Qam hx,cond_true,Qah hx,Qaa,Qan hx (by omega),Qai]
  cases decide (x=s)<;>rfl) (by rw [QlM,Qap,cond_false]),Qaa]
 have:l.contains s=!l.all fun x=>!decide (x=s):=by
  rw [Bool.eq_iff_iff]
  simp [List.contains_iff_mem]
 rw [this]
 cases l.all _<;>rfl
theorem QEU (ts:List (List UInt8))(d:List Qak)(k:Nat)(x:Qak)(hx:d[k]?=some x)(hl:x.2.length≤1000000):∀ (r pre:List GCon) (l:List (List UInt8)),x.2=pre++r→l.length≤1000000000+pre.length→
  QdL ts l d (k:Int) (pre.length:Int)=some (match twC r l with |none=>.inl () |some l'=>.inr l')∧∀ l',twC r l=some l'→l'.length=l.length+r.length:=by
 intro r
 induction r with
 | nil=>
  intro pre l h hr
  rw [QiF,Qah hx,Qaa,h,QdD,cond_false]
  exact ⟨rfl,fun l' hl'=>by simp only [twC,Option.some.injEq] at hl'; rw [hl']; simp⟩
 | cons c r ih=>
  intro pre l h hr
  have hc:x.2[pre.length]?=some c:=by rw [h,List.getElem?_append_right (Nat.le_refl _)]; simp
  have hpl:x.2.length=pre.length+(r.length+1):=by rw [h]; simp
  rw [QiF,Qah hx,Qaa,Qam hc,cond_true,Qah hc,Qaa,QxY l (by omega),Qaa,twC]
  cases hcc:l.contains c.1 with
  | true=>exact ⟨rfl,fun l' hl'=>by simp at hl'⟩
  | false=>
   rw [cond_false,Qab (by omega),Qan hc (by omega)]
   have:=ih (pre++[c]) (l++[c.1]) (by rw [h]; simp) (by simp; omega)
   simp only [List.length_append,List.length_cons,List.length_nil] at this ⊢
   refine ⟨by simpa using this.1,fun l' hl'=>?_⟩
   have:=this.2 l' (by simpa using hl')
   omega
theorem QEV (d:List Qak)(h:Qbh d):∀ (r pre:List Qak) (ts cs:List (List UInt8)),d=pre++r→ts.length≤1+pre.length→cs.length≤1000000 * pre.length→
  QdJ ts cs d (pre.length:Int)=some (if twS r ts cs=true then .inr () else .inl ()):=by
 have hl:=h.len
 intro r
 induction r with
 | nil=>
  intro pre ts cs h hr hr2
  subst h
  rw [QiC,QdD,cond_false]
  rfl
 | cons x r ih=>
  intro pre ts cs hd hr hr2
  have hx:d[pre.length]?=some x:=by rw [hd,List.getElem?_append_right (Nat.le_refl _)]; simp
  have hpl:d.length=pre.length+(r.length+1):=by rw [hd]; simp
  have hxl:=h.cons x (List.mem_of_getElem? hx)
  rw [QiC,Qam hx,cond_true,Qah hx,Qaa,QxY ts (by omega),Qaa,twS]
  cases hc:ts.contains x.1 with
  | true=>rfl
  | false=>
   obtain ⟨hz,hz2⟩:=QEU (ts++[x.1]) d pre.length x hx hxl x.2 [] cs rfl (by simp; omega)
   rw [cond_false,Qab (by omega),show QdL (ts++[x.1]) cs d (pre.length:Int) 0=_ from hz,Qaa,Qan hx (by omega)]
   cases ht:twC x.2 cs with
   | none=>rfl
   | some l'=>
    have:=hz2 l' ht
    have:=ih (pre++[x]) (ts++[x.1]) l' (by rw [hd]; simp) (by simp; omega) (by simp; omega)
    simpa using this
theorem QwQ (d:List Qak)(h:Qbh d):Qmh d=some (QwP d):=by
 rw [QrJ,show QdJ [[73,110,116]] [] d 0=_ from QEV d h d [] _ _ rfl (by simp) (by simp),Qaa]
 unfold QwP
 cases twS d [[73,110,116]] []<;>rfl
def QoV (d:List Qak):Bool:=d.all fun x=>x.2.all fun c=>c.2.all (isTy d)
theorem any2 (d:List Qak)(l:List Int)(hl:l.length≤1000000000000):QcJ d l=some (!l.all (isTy d)):=by
 rw [Qh7,QjZ]
 rw [Qc4 (L:=fun i=>QbI d l (l.length:Int) i) (l:=l) (p:=fun c=>!isTy d c) (A:=fun j=>.inr (j:Int)) (B:=.inl ()) (fun i c hc=>by
  rw [QdV,Qam hc,cond_true,Qah hc,Qaa,Qo9,QoT,Qaa,Qaa,Qan hc (by omega),Qai]) (by rw [QdV,Qap,cond_false])]
 rw [List.not_all_eq_any_not,← QbT _ l 0]
 cases Qis _ 0 l with
 | none=>rfl
 | some j=>simp only [Qaa]; rw [QaD (by omega)]; rfl
theorem QFX (d:List Qak)(h:Qbh d):QdH d d (d.length:Int) 0=some (if QoV d=true then .inl () else .inr ()):=by
 have hl:=h.len
 refine QaF (L:=fun i=>QdH d d (d.length:Int) i) (l:=d) (p:=fun x=>x.2.all fun c=>c.2.all (isTy d)) (fun i x hx=>?_) ?_
 ·have hm:=List.mem_of_getElem? hx
  have hc:=h.cons x hm
  rw [Qiz,Qam hx,cond_true,Qah hx,Qaa,QaF (L:=fun j=>Qfs d d (d.length:Int) (i:Int) x.2 (x.2.length:Int) j) (l:=x.2) (p:=fun c=>c.2.all (isTy d)) (A:=.inr ()) (B:=.inl ()) (fun j c hcx=>by
   rw [QiB,Qam hcx,cond_true,Qah hcx,Qaa,any2 d c.2 (h.fields x hm c (List.mem_of_getElem? hcx)),Qaa,Qan hcx (by omega),Qai]
   cases c.2.all (isTy d)<;>rfl) (by rw [QiB,Qap,cond_false]),Qaa,Qan hx (by omega)]
  cases x.2.all _<;>rfl
 ·rw [Qiz,Qap,cond_false]
theorem QwR (d:List Qak)(h:Qbh d):Qmi d=some (QoV d):=by
 have hl:=h.len
 rw [QrK,QaF (L:=fun i=>Qft d i) (l:=d) (p:=fun x=>x.2.all fun c=>c.2.all (isTy d)) (A:=.inr ()) (B:=.inl ()) (fun i x hx=>by
  have hm:=List.mem_of_getElem? hx
  have hc:=h.cons x hm
  rw [QiE,Qam hx,cond_true,QaF (L:=fun j=>Qfu d (i:Int) j) (l:=x.2) (p:=fun c=>c.2.all (isTy d)) (A:=.inr ()) (B:=.inl ()) (fun j c hcx=>by
   have hf:=h.fields x hm c (List.mem_of_getElem? hcx)
   rw [QiG,Qah hx,Qaa,Qam hcx,cond_true,Qah hcx,Qaa,QaF (L:=fun k=>Qfv d (i:Int) (j:Int) c.2 k) (l:=c.2) (p:=isTy d) (A:=.inr ()) (B:=.inl ()) (fun k t ht=>by
    rw [QiH,Qam ht,cond_true,Qah ht,Qaa,Qre,Qaa,Qan ht (by omega),Qai]) (by rw [QiH,Qap,cond_false]),Qaa,Qan hcx (by omega)]
   cases c.2.all (isTy d)<;>rfl) (by rw [QiG,Qah hx,Qaa,Qap,cond_false]),Qaa,Qan hx (by omega)]
  cases x.2.all _<;>rfl) (by rw [QiE,Qap,cond_false]),Qaa]
 unfold QoV
 cases d.all _<;>rfl
def cf:List Bool→Nat
 | []=>0
 | false::l=>cf l+1
 | true::l=>cf l
theorem QBp:∀ l:List Bool,cf l≤l.length
 | []=>Nat.le_refl _
 | false::l=>Nat.succ_le_succ (QBp l)
 | true::l=>Nat.le_succ_of_le (QBp l)
theorem Qhh:∀ (l:List Bool) (i:Nat),l[i]?=some false→cf (l.set i true)+1=cf l
 | [],i,h=>by simp at h
 | b::l,0,h=>by
  simp at h
  subst h
  rfl
 | b::l,i+1,h=>by
  have:=Qhh l i (by simpa using h)
  cases b with
  | false=>show cf (l.set i true)+1+1=cf l+1; omega
  | true=>exact this
theorem QeK {α:Type}:∀ (l:List α) (i:Nat) (x:α),l[i]?=some x→l.set i x=l
 | [],i,x,h=>rfl
 | y::l,0,x,h=>by simp at h; subst h; rfl
 | y::l,i+1,x,h=>by rw [List.set_cons_succ,QeK l i x (by simpa using h)]
def ready (done:List Bool)(c:GCon):Bool:=c.2.all fun t=>decide (done[t.toNat]?=some true)
def Qoj (done:List Bool)(i:Nat)(x:Qak):List Bool:=if x.2.any (ready done)=true then done.set (i+1) true else done
def Qkb:Nat→List Qak→List Bool→List Bool
 | _,[],done=>done
 | i,x::r,done=>Qkb (i+1) r (Qoj done i x)
def Qt7 (d:List Qak):Nat→List Bool→List Bool
 | 0,done=>done
 | k+1,done=>Qt7 d k (Qkb 0 d done)
def fin (d:List Qak):Bool:=(Qt7 d (d.length+1) ((List.replicate (d.length+1) false).set 0 true)).all id
theorem QkY (done:List Bool)(i:Nat)(x:Qak):(Qoj done i x).length=done.length:=by
 unfold Qoj
 split<;>simp
theorem Qno:∀ (r:List Qak) (i:Nat) (done:List Bool),(Qkb i r done).length=done.length
 | [],i,done=>rfl
 | x::r,i,done=>by rw [Qkb,Qno r,QkY]
theorem QxZ (done:List Bool)(i:Nat)(x:Qak)(h:i+1<done.length):(Qoj done i x=done)∨(done[i+1]?=some false∧x.2.any (ready done)=true∧Qoj done i x=done.set (i+1) true):=by
 unfold Qoj
 have hx:done[i+1]?=some done[i+1]:=List.getElem?_eq_getElem h
 by_cases hr:x.2.any (ready done)=true
 ·rw [if_pos hr]
  cases hb:done[i+1] with
  | true=>exact Or.inl (QeK _ _ _ (by rw [hx,hb]))
  | false=>exact Or.inr ⟨by rw [hx,hb],hr,rfl⟩
 ·rw [if_neg hr]; exact Or.inl rfl
theorem Qt8:∀ (r:List Qak) (i:Nat) (done:List Bool),i+r.length<done.length→cf (Qkb i r done)≤cf done∧(Qkb i r done≠done→cf (Qkb i r done)<cf done)
 | [],i,done,h=>⟨Nat.le_refl _,fun h=>absurd rfl h⟩
 | x::r,i,done,h=>by
  simp only [List.length_cons] at h
  rw [Qkb]
  have ih:=Qt8 r (i+1) (Qoj done i x) (by rw [QkY]; omega)
  rcases QxZ done i x (by omega) with h1 |⟨h1,h2,h3⟩
  ·rw [h1] at ih ⊢; exact ih
  ·rw [h3] at ih ⊢
   have:=Qhh _ _ h1
   exact ⟨by omega,fun _=>by omega⟩
theorem Qvo (d:List Qak)(done:List Bool)(h:Qkb 0 d done=done):∀ k,Qt7 d k done=done
 | 0=>rfl
 | k+1=>by rw [Qt7,h,Qvo d done h k]
structure Tyd (d:List Qak):Prop where
 ok:∀ x∈d,∀ c∈x.2,∀ t∈c.2,0≤t∧t≤(d.length:Int)
theorem QDQ (d:List Qak)(h:QoV d=true):Tyd d:=⟨fun x hx c hc t ht=>by
 unfold QoV at h
 rw [List.all_eq_true] at h
 have h1:=h x hx
 rw [List.all_eq_true] at h1
 have h2:=h1 c hc
 rw [List.all_eq_true] at h2
 have h3:=h2 t ht
 unfold isTy at h3
 exact of_decide_eq_true h3⟩
theorem any5 (done:List Bool)(l:List Int)(hl:l.length≤1000000000000)(hr:∀ t∈l,0≤t∧t<(done.length:Int)):QcM done l=some (!l.all fun t=>decide (done[t.toNat]?=some true)):=by
 rw [Qia,Qj4]
 rw [Qc4 (L:=fun i=>QbN done l (l.length:Int) i) (l:=l) (p:=fun t=>!decide (done[t.toNat]?=some true)) (A:=fun j=>.inr (j:Int)) (B:=.inl ()) (fun i c hc=>by
  obtain ⟨h0,h1⟩:=hr c (List.mem_of_getElem? hc)
  obtain ⟨b,hb,hb'⟩:=Qc2 h0 h1
  rw [Qd0,Qam hc,cond_true,Qah hc,Qaa,Qml,hb,Qaa,Qaa,Qan hc (by omega),Qai,hb']
  cases b<;>rfl) (by rw [Qd0,Qap,cond_false])]
 rw [List.not_all_eq_any_not,← QbT _ l 0]
 cases Qis _ 0 l with
 | none=>rfl
 | some j=>simp only [Qaa]; rw [QaD (by omega)]; rfl
theorem any4 (d:List Qak)(h:Qbh d)(ht:Tyd d)(done:List Bool)(hd:done.length=d.length+1)(x:Qak)(hx:x∈d):QcL done x.2=some (x.2.any (ready done)):=by
 have hl:=h.cons x hx
 rw [Qh9,Qj2]
 rw [Qc4 (L:=fun i=>QbL done x.2 (x.2.length:Int) i) (l:=x.2) (p:=ready done) (A:=fun j=>.inr (j:Int)) (B:=.inl ()) (fun i c hc=>by
  have hm:=List.mem_of_getElem? hc
  rw [QdY,Qam hc,cond_true,Qah hc,Qaa,Qog,any5 done c.2 (h.fields x hx c hm) (fun t htm=>by have:=ht.ok x hx c hm t htm; omega),Qaa,Qaa,Qan hc (by omega),Qai,Bool.not_not]
  rfl) (by rw [QdY,Qap,cond_false])]
 rw [← QbT _ x.2 0]
 cases Qis _ 0 x.2 with
 | none=>rfl
 | some j=>simp only [Qaa]; rw [QaD (by omega)]; rfl
theorem QGX (d:List Qak)(h:Qbh d)(ht:Tyd d):∀ (r pre:List Qak) (done:List Bool) (more:Bool),d=pre++r→done.length=d.length+1→
  Qcf done d more (d.length:Int) (pre.length:Int)=some (Qkb pre.length r done,more||decide (Qkb pre.length r done≠done)):=by
 have hl:=h.len
 intro r
 induction r with
 | nil=>
  intro pre done more hd hn
  rw [QhM]
  subst hd
  rw [QdD,cond_false,Qkb]
  simp
 | cons x r ih=>
  intro pre done more hd hn
  have hx:d[pre.length]?=some x:=by rw [hd,List.getElem?_append_right (Nat.le_refl _)]; simp
  have hpl:d.length=pre.length+(r.length+1):=by rw [hd]; simp
  have hi:pre.length+1<done.length:=by omega
  have hb:done[pre.length+1]?=some done[pre.length+1]:=List.getElem?_eq_getElem hi
  rw [QhM,Qam hx,cond_true,Qah hx,Qaa,any4 d h ht done hn x (List.mem_of_getElem? hx),Qaa,Qan hx (by omega),Qah hb]
  simp only [Qaa,Qaf,QbF]
  rw [Qkb]
  have hcf:=Qt8 r (pre.length+1) (Qoj done pre.length x) (by rw [QkY]; omega)
  have ih1:=fun b=>ih (pre++[x]) (Qoj done pre.length x) b (by rw [hd]; simp) (by rw [QkY]; exact hn)
  simp only [List.length_append,List.length_cons,List.length_nil,Nat.zero_add] at ih1
  rcases QxZ done pre.length x hi with h1 |⟨h1,h2,h3⟩
  ·have hz:(x.2.any (ready done)&&!done[pre.length+1])=false:=by
    by_cases hr:x.2.any (ready done)=true
    ·unfold Qoj at h1
     rw [if_pos hr] at h1
     have:(done.set (pre.length+1) true)[pre.length+1]?=some true:=by rw [List.getElem?_set_self hi]
     rw [h1,hb] at this
     simp only [Option.some.injEq] at this
     rw [this]; simp
    ·simp only [Bool.not_eq_true] at hr
     rw [hr]; rfl
   rw [hz,cond_false]
   have:=ih1 more
   rw [h1] at this ⊢
   exact this
  ·rw [hb] at h1
   simp only [Option.some.injEq] at h1
   rw [h1,h2]
   simp only [Bool.not_false,Bool.and_self,cond_true,Int.toNat_natCast]
   rw [← h3,ih1 true]
   have hc1:=Qhh done (pre.length+1) (by rw [hb,h1])
   have:Qkb (pre.length+1) r (Qoj done pre.length x)≠done:=fun e=>by
    rw [e,h3] at hcf
    omega
   rw [decide_eq_true this]
   simp
theorem QFY (d:List Qak)(h:Qbh d)(ht:Tyd d):∀ (k:Nat) (done:List Bool),done.length=d.length+1→cf done≤k→QeT done d true=some (Qt7 d (k+1) done)
 | k,done,hn,hc=>by
  rw [QhK,cond_true,show Qcf done d false (d.length:Int) 0=_ from QGX d h ht d [] done false rfl hn,Qaa]
  simp only [List.length_nil,Bool.false_or]
  have hcf:=Qt8 d 0 done (by omega)
  by_cases he:Qkb 0 d done=done
  ·rw [show decide (Qkb 0 d done≠done)=false from decide_eq_false (by simp [he]),he,QhK,cond_false,Qvo d done he]
  ·rw [decide_eq_true he]
   have:=hcf.2 he
   match k with
   | 0=>omega
   | k+1=>rw [QFY d h ht k _ (by rw [Qno]; exact hn) (by omega),← Qt7]
theorem QFZ (l:List Bool)(hl:l.length≤1000000):Qcz l false=some (!l.all id):=by
 rw [Qha,QjM]
 rw [Qc4 (L:=fun i=>QcB l false (l.length:Int) i) (l:=l) (p:=fun b=>!b) (A:=fun j=>.inl (j:Int)) (B:=.inr ()) (fun i b hb=>by
  rw [Qct,Qam hb,cond_true,Qah hb,Qaa,Qan hb (by omega)]
  cases b<;>rfl) (by rw [Qct,Qap,cond_false])]
 rw [show (!l.all id)=l.any (fun b=>!b) by rw [List.not_all_eq_any_not]; rfl,← QbT _ l 0]
 cases Qis _ 0 l with
 | none=>rfl
 | some j=>simp only [Qaa]; rw [QaD (by omega)]; rfl
theorem Qrh (d:List Qak):∀ (k:Nat) (done:List Bool),(Qt7 d k done).length=done.length
 | 0,done=>rfl
 | k+1,done=>by rw [Qt7,Qrh d k,Qno]
theorem QDk (d:List Qak)(h:Qbh d)(ht:Tyd d):QkH d=some (fin d):=by
 have hl:=h.len
 rw [QqX,Sy.QcZ (by omega),Qac (by omega),Int.toNat_natCast,Qab (by omega)]
 rw [show at' (List.replicate (d.length+1) false) 0=some false from Qah (i:=0) (by simp),Qaa]
 rw [QFY d h ht d.length _ (by simp) (by
  show cf (((List.replicate (d.length+1) false)).set 0 true)≤d.length
  rw [List.replicate_succ,List.set_cons_zero]
  show cf (List.replicate d.length false)≤d.length
  exact Nat.le_trans (QBp _) (by simp)),Qaa,QFZ _ (by rw [Qrh]; simp; omega),Qaa,Bool.not_not]
 rfl
theorem QF0 (d:List Qak)(done:List Bool)(i j k:Int)(l:List Int)(hl:l.length≤1000000000000)(hr:∀ t∈l,0≤t∧t<(done.length:Int)):Qdh done d i j k true l 0=some (l.all fun t=>decide (done[t.toNat]?=some true)):=by
 have:=QbZ (L:=fun b m=>Qdh done d i j k b l m) (l:=l) (F:=fun b t=>b&&decide (done[t.toNat]?=some true)) (E:=id) (fun _ _=>True)
  (fun b m t ht _=>⟨by
   obtain ⟨h0,h1⟩:=hr t (List.mem_of_getElem? ht)
   obtain ⟨c,hc,hc'⟩:=Qc2 h0 h1
   rw [QhS,Qam ht,cond_true,Qah ht]
   simp only [Qaa]
   rw [hc,Qan ht (by omega),hc']
   cases b<;>cases c<;>rfl,trivial⟩)
  (fun b _=>by rw [QhS,Qap,cond_false]; rfl) true trivial
 rw [this]
 congr 1
 have e:∀ (l:List Int) (b:Bool),List.foldl (fun b t=>b&&decide (done[t.toNat]?=some true)) b l=(b&&l.all fun t=>decide (done[t.toNat]?=some true)):=by
  intro l
  induction l with
  | nil=>intro b; simp
  | cons t l ih=>intro b; rw [List.foldl_cons,ih,List.all_cons,Bool.and_assoc]
 rw [e]
 rfl
def Qok (i:Nat)(m:List Bool)(c:GCon):List Bool:=if ready m c=true then m.set (i+1) true else m
theorem QBq (i:Nat)(m:List Bool)(c:GCon):(Qok i m c).length=m.length:=by unfold Qok; split<;>simp
theorem QsI (i:Nat):∀ (l:List GCon) (m:List Bool),i+1<m.length→m[i+1]?=some true→l.foldl (Qok i) m=m
 | [],m,h,hm=>rfl
 | c::l,m,h,hm=>by
  have:Qok i m c=m:=by
   unfold Qok
   split
   ·exact QeK _ _ _ hm
   ·rfl
  rw [List.foldl_cons,this,QsI i l m h hm]
theorem QF1 (i:Nat):∀ (l:List GCon) (m:List Bool),i+1<m.length→l.foldl (Qok i) m=if l.any (ready m)=true then m.set (i+1) true else m
 | [],m,h=>rfl
 | c::l,m,h=>by
  rw [List.foldl_cons,List.any_cons]
  by_cases hc:ready m c=true
  ·have:Qok i m c=m.set (i+1) true:=by unfold Qok; rw [if_pos hc]
   rw [this,hc,Bool.true_or,if_pos rfl,QsI i l _ (by simpa using h) (by rw [List.getElem?_set_self h])]
  ·have:Qok i m c=m:=by unfold Qok; rw [if_neg hc]
   simp only [Bool.not_eq_true] at hc
   rw [this,hc,Bool.false_or,QF1 i l m h]
theorem QF2 (d:List Qak)(h:Qbh d)(ht:Tyd d)(rd:Int)(i:Nat)(x:Qak)(hx:d[i]?=some x)(done:List Bool)(hn:done.length=d.length+1):Qdg done d rd (i:Int) 0=some (Qoj done i x):=by
 have hm:=List.mem_of_getElem? hx
 have hl:=h.len
 have hc:=h.cons x hm
 have hil:=Qau hx
 have:=QbZ (L:=fun m k=>Qdg m d rd (i:Int) k) (l:=x.2) (F:=Qok i) (E:=id) (fun _ m=>m.length=d.length+1)
  (fun m k c hcx hI=>⟨by
   have hcm:=List.mem_of_getElem? hcx
   have hib:i+1<m.length:=by omega
   have hb:m[i+1]?=some m[i+1]:=List.getElem?_eq_getElem hib
   rw [QhQ,Qah hx,Qaa,Qam hcx,cond_true,Qah hcx,Qaa,QF0 d m rd (i:Int) (k:Int) c.2 (h.fields x hm c hcm) (fun t htm=>by have:=ht.ok x hm c hcm t htm; omega),Qaa,Qan hx (by omega),Qah hb]
   simp only [Qaa,Qaf,QaG]
   rw [Qan hcx (by omega)]
   congr 1
   unfold Qok ready
   by_cases hr:(c.2.all fun t=>decide (m[t.toNat]?=some true))=true
   ·rw [if_pos hr,hr]; simp
   ·rw [if_neg hr]
    simp only [Bool.not_eq_true] at hr
    rw [hr,Bool.or_false]
    exact QeK _ _ _ hb,by show (Qok i m c).length=_; rw [QBq]; exact hI⟩)
  (fun m _=>by rw [QhQ,Qah hx,Qaa,Qap,cond_false]; rfl) done hn
 rw [this,QF1 i x.2 done (by omega)]
 rfl
theorem QF3 (d:List Qak)(h:Qbh d)(ht:Tyd d)(rd:Int):∀ (r pre:List Qak) (done:List Bool),d=pre++r→done.length=d.length+1→Qde done d rd (pre.length:Int)=some (Qkb pre.length r done):=by
 have hl:=h.len
 intro r
 induction r with
 | nil=>
  intro pre done hd hn
  rw [QhN]
  subst hd
  rw [QdD,cond_false]
  rfl
 | cons x r ih=>
  intro pre done hd hn
  have hx:d[pre.length]?=some x:=by rw [hd,List.getElem?_append_right (Nat.le_refl _)]; simp
  rw [QhN,Qam hx,cond_true,QF2 d h ht rd pre.length x hx done hn,Qaa,Qan hx (by omega),Qkb]
  have:=ih (pre++[x]) (Qoj done pre.length x) (by rw [hd]; simp) (by rw [QkY]; exact hn)
  simpa using this
theorem QDR (d:List Qak)(h:Qbh d)(ht:Tyd d):∀ (k i:Nat) (done:List Bool),i+k=d.length+1→done.length=d.length+1→Qdc done d (i:Int)=some (Qt7 d k done)
 | 0,i,done,hk,hn=>by
  rw [QhL,Qab (by omega)]
  rfl
 | k+1,i,done,hk,hn=>by
  have hl:=h.len
  rw [QhL,Qac (by omega),show Qde done d (i:Int) 0=_ from QF3 d h ht (i:Int) d [] done rfl hn,Qaa,Sy.QcZ (by omega),QDR d h ht k (i+1) _ (by omega) (by rw [Qno]; exact hn)]
  rfl
theorem QF4 (l:List Bool)(hl:l.length≤1000000):Qdf l 0=some (if l.all id=true then .inr () else .inl ()):=by
 refine QaF (L:=fun i=>Qdf l i) (p:=id) (fun i b hb=>?_) ?_
 ·rw [QhP,Qam hb,cond_true,Qah hb,Qaa,Qan hb (by omega),Qai]
  rfl
 ·rw [QhP,Qap,cond_false]
theorem QBr (d:List Qak)(h:Qbh d)(ht:Tyd d):QkI d=some (fin d):=by
 have hl:=h.len
 rw [QqY,Sy.QcZ (by omega),Qac (by omega),Int.toNat_natCast,Qab (by omega)]
 rw [show at' (List.replicate (d.length+1) false) 0=some false from Qah (i:=0) (by simp),Qaa]
 rw [show Qdc ((List.replicate (d.length+1) false).set 0 true) d 0=_ from QDR d h ht (d.length+1) 0 _ (by omega) (by simp),Qaa,QF4 _ (by rw [Qrh]; simp; omega),Qaa]
 unfold fin
 cases List.all _ _<;>rfl
def chkD (d:List Qak):Int:=if many d=true then 6 else if formed d=false then 3 else if QwP d=true then 8 else if QoV d=false then 10 else if fin d=false then 7 else 0
theorem QBs (d:List Qak)(h:Qbh d):Qme d=some (chkD d):=by
 rw [QrG,QBn d h,Qaa,QwO d h,Qy7 d h,QFX d h]
 simp only [Qaa]
 unfold chkD
 cases many d with
 | true=>rfl
 | false=>
  cases formed d with
  | false=>rfl
  | true=>
   cases QwP d with
   | true=>rfl
   | false=>
    cases ht:QoV d with
    | false=>rfl
    | true=>
     simp only [cond_false,cond_true,if_true]
     rw [QDk d h (QDQ d ht),Qaa]
     cases fin d<;>rfl
theorem Qy8 (d:List Qak)(h:Qbh d):Qmf d=some (chkD d):=by
 rw [QrH,Qy6 d h,Qaa,Qvn d h,QwQ d h,QwR d h]
 simp only [Qaa]
 unfold chkD
 cases many d with
 | true=>rfl
 | false=>
  cases formed d with
  | false=>rfl
  | true=>
   cases QwP d with
   | true=>rfl
   | false=>
    cases ht:QoV d with
    | false=>rfl
    | true=>
     simp only [cond_false,cond_true]
     rw [QBr d h (QDQ d ht),Qaa]
     cases fin d<;>rfl
end Go.Proofs.YtkecfadnfnnfaaaGreatDoor.LabB
namespace Go.Proofs.YtkecfadnfnnfaaaGreatDoor.LabB
open Go Go.Ev Go.Sy
abbrev fPar (f:GFun):Int:=f.2.1
abbrev fRes (f:GFun):Int:=f.2.2.1
abbrev Qad (f:GFun):List GVar:=f.2.2.2.1
abbrev Qaj (f:GFun):List Qae:=f.2.2.2.2.1
abbrev QaM (f:GFun):Int:=f.2.2.2.2.2.1
abbrev fExt (f:GFun):Bool:=f.2.2.2.2.2.2
structure QsJ (f:GFun):Prop where
 name:f.1.length≤1000000000
 vars:f.2.2.2.1.length≤1000000
 code:f.2.2.2.2.1.length≤1000000
 nodes:∀ n∈f.2.2.2.2.1,QaL n
structure QeA (p:Qag):Prop where
 Qol:Qbh p.1
 funs:p.2.length≤1000
 all:∀ f∈p.2,QsJ f
def hdr (p:Qag)(k:Nat)(f:GFun):Int:=
 if Qvm f.1=false then 3
 else if (p.2.take k).any (fun g=>decide (g.1=f.1))=true then 8
 else if 6<fPar f∨512<((Qad f).length:Int)∨4096<((Qaj f).length:Int) then 6
 else if fPar f<0∨((Qad f).length:Int)<fPar f then 3
 else if (fExt f=true∧(fPar f<((Qad f).length:Int)∨0<((Qaj f).length:Int)∨QaM f≠0))∨(fExt f=false∧(QaM f<0∨((Qaj f).length:Int)≤QaM f)) then 3
 else if isTy p.1 (fRes f)=false then 10
 else if (Qad f).all (fun v=>isTy p.1 v.1)=false then 10
 else if (Qad f).all (fun v=>!(v.2&&flat p.1 v.1))=false then 11
 else 0
theorem hdrL (p:Qag)(k:Nat)(f:GFun)(hp:p.2.length≤1000)(a b c:List Bool)(x:GFun)(hx:x.1=f.1):
  Qa6 a b c p.1 p.2 f.1 f.2.1 f.2.2.1 f.2.2.2.1 f.2.2.2.2.1 f.2.2.2.2.2.1 f.2.2.2.2.2.2 x (p.2.take k) ((p.2.take k).length:Int) 0=some (if (p.2.take k).any (fun g=>decide (g.1=f.1))=true then .inl () else .inr ()):=by
 have hl:(p.2.take k).length≤1000:=by rw [List.length_take]; omega
 rw [QaF (L:=fun i=>Qa6 a b c p.1 p.2 f.1 f.2.1 f.2.2.1 f.2.2.2.1 f.2.2.2.2.1 f.2.2.2.2.2.1 f.2.2.2.2.2.2 x (p.2.take k) ((p.2.take k).length:Int) i) (l:=p.2.take k) (p:=fun g=>!decide (g.1=f.1)) (A:=.inl ()) (B:=.inr ()) (fun i g hg=>by
  rw [QdS,Qam hg,cond_true,Qah hg,Qaa,Qan hg (by omega),Qai,hx]
  cases decide (g.1=f.1)<;>rfl) (by rw [QdS,Qap,cond_false]),← List.not_any_eq_all_not]
 cases List.any _ _<;>rfl
theorem any3 (p:Qag)(f:GFun)(a b c:List Bool)(l:List GVar)(hl:l.length≤1000000):
  QcK a b c p.1 p.2 f.1 f.2.1 f.2.2.1 f.2.2.2.1 f.2.2.2.2.1 f.2.2.2.2.2.1 f.2.2.2.2.2.2 l=some (!l.all fun v=>isTy p.1 v.1):=by
 rw [Qh8,Qj1]
 rw [Qc4 (L:=fun i=>QbK a b c p.1 p.2 f.1 f.2.1 f.2.2.1 f.2.2.2.1 f.2.2.2.2.1 f.2.2.2.2.2.1 f.2.2.2.2.2.2 l (l.length:Int) i) (l:=l) (p:=fun v=>!isTy p.1 v.1) (A:=fun j=>.inr (j:Int)) (B:=.inl ()) (fun i v hv=>by
  rw [QdX,Qam hv,cond_true,Qah hv,Qaa,QiJ,Qe9]
  simp only [Qaf,Qaa,Qc5]
  rw [Qan hv (by omega),Qai]
  have:(!(!decide (v.1<0)&&!decide ((p.1.length:Int)<v.1)))=!isTy p.1 v.1:=by
   unfold isTy
   rw [Bool.eq_iff_iff]
   simp only [Bool.and_eq_true,Bool.not_eq_true',Bool.and_eq_false_iff,decide_eq_true_eq,decide_eq_false_iff_not,Bool.not_eq_false']
   omega
  rw [this]) (by rw [QdX,Qap,cond_false])]
 rw [List.not_all_eq_any_not,← QbT _ l 0]
 cases Qis _ 0 l with
 | none=>rfl
 | some j=>simp only [Qaa]; rw [QaD (by omega)]; rfl
theorem any6 (p:Qag)(hd:Qbh p.1)(f:GFun)(a b c:List Bool)(l:List GVar)(hl:l.length≤1000000):
  QcN a b c p.1 p.2 f.1 f.2.1 f.2.2.1 f.2.2.2.1 f.2.2.2.2.1 f.2.2.2.2.2.1 f.2.2.2.2.2.2 l=some (!l.all fun v=>!(v.2&&flat p.1 v.1)):=by
 rw [Qib,Qj5]
 rw [Qc4 (L:=fun i=>QbO a b c p.1 p.2 f.1 f.2.1 f.2.2.1 f.2.2.2.1 f.2.2.2.2.1 f.2.2.2.2.2.1 f.2.2.2.2.2.2 l (l.length:Int) i) (l:=l) (p:=fun v=>v.2&&flat p.1 v.1) (A:=fun j=>.inr (j:Int)) (B:=.inl ()) (fun i v hv=>by
  rw [Qd1,Qam hv,cond_true,Qah hv,Qaa,QiO,Qrf p.1 hd]
  simp only [Qaf,Qaa,QbF]
  rw [Qan hv (by omega),Qai]) (by rw [Qd1,Qap,cond_false])]
 rw [← List.not_any_eq_all_not,Bool.not_not,← QbT _ l 0]
 cases Qis _ 0 l with
 | none=>rfl
 | some j=>simp only [Qaa]; rw [QaD (by omega)]; rfl
theorem QDl (p:Qag)(hp:QeA p)(k:Nat)(hk:k≤p.2.length)(f:GFun)(hf:QsJ f)(a b c:List Bool):
  Qed a b c p.1 p.2 f.1 f.2.1 f.2.2.1 f.2.2.2.1 f.2.2.2.2.1 f.2.2.2.2.2.1 f.2.2.2.2.2.2 (k:Int)=some (hdr p k f):=by
 have hn:=hf.name
 have hv:=hf.vars
 rw [QjV,QBk _ (by omega),Qaa,Qac (by omega),Qac (by omega),Int.toNat_natCast,hdrL p k f hp.funs a b c _ rfl,any3 p f a b c _ hv,any6 p hp.Qol f a b c _ hv,Qe9]
 simp only [Qaf,Qaa,Qar,QaG,Qc5,Qjd]
 have hty:(!decide (f.2.2.1<0)&&!decide ((p.1.length:Int)<f.2.2.1))=isTy p.1 f.2.2.1:=by
  unfold isTy
  rw [Bool.eq_iff_iff]
  simp only [Bool.and_eq_true,Bool.not_eq_true',Bool.and_eq_false_iff,decide_eq_true_eq,decide_eq_false_iff_not,Bool.not_eq_false']
  omega
 rw [hty]
 unfold hdr
 cases hnm:Qvm f.1 with
 | false=>rfl
 | true=>
  cases ht:(p.2.take k).any (fun g=>decide (g.1=f.1)) with
  | true=>rfl
  | false=>
   simp only [cond_true,Bool.false_eq_true,if_false,Bool.true_eq_false]
   by_cases h6:6<fPar f∨512<((Qad f).length:Int)∨4096<((Qaj f).length:Int)
   ·rw [if_pos h6,Qc3 (by simp only [Bool.or_eq_true,decide_eq_true_eq]; show (6<fPar f∨512<((Qad f).length:Int))∨4096<((Qaj f).length:Int); omega)]
   ·rw [if_neg h6,Qcp (by simp only [Bool.or_eq_false_iff,decide_eq_false_iff_not]; show (¬ 6<fPar f∧¬ 512<((Qad f).length:Int))∧¬ 4096<((Qaj f).length:Int); omega)]
    by_cases h3:fPar f<0∨((Qad f).length:Int)<fPar f
    ·rw [if_pos h3,Qc3 (by simp only [Bool.or_eq_true,decide_eq_true_eq]; exact h3)]
    ·rw [if_neg h3,Qcp (by simp only [Bool.or_eq_false_iff,decide_eq_false_iff_not]; show ¬ fPar f<0∧¬ ((Qad f).length:Int)<fPar f; omega)]
     have hbody:(fExt f=true∧(fPar f<((Qad f).length:Int)∨0<((Qaj f).length:Int)∨QaM f≠0))∨(fExt f=false∧(QaM f<0∨((Qaj f).length:Int)≤QaM f))↔(bif f.2.2.2.2.2.2 then (decide (f.2.1<(f.2.2.2.1.length:Int))||decide (0<(f.2.2.2.2.1.length:Int)))||!decide (f.2.2.2.2.2.1=0) else decide (f.2.2.2.2.2.1<0)||!decide (f.2.2.2.2.2.1<(f.2.2.2.2.1.length:Int)))=true:=by
      show (fExt f=true∧(fPar f<((Qad f).length:Int)∨0<((Qaj f).length:Int)∨QaM f≠0))∨(fExt f=false∧(QaM f<0∨((Qaj f).length:Int)≤QaM f))↔(bif fExt f then (decide (fPar f<((Qad f).length:Int))||decide (0<((Qaj f).length:Int)))||!decide (QaM f=0) else decide (QaM f<0)||!decide (QaM f<((Qaj f).length:Int)))=true
      cases fExt f<;>simp<;>omega
     have hb:∀ (x y:Option Int),(bif f.2.2.2.2.2.2 then bif (decide (f.2.1<(f.2.2.2.1.length:Int))||decide (0<(f.2.2.2.2.1.length:Int)))||!decide (f.2.2.2.2.2.1=0) then x else y else bif decide (f.2.2.2.2.2.1<0)||!decide (f.2.2.2.2.2.1<(f.2.2.2.2.1.length:Int)) then x else y)=if (fExt f=true∧(fPar f<((Qad f).length:Int)∨0<((Qaj f).length:Int)∨QaM f≠0))∨(fExt f=false∧(QaM f<0∨((Qaj f).length:Int)≤QaM f)) then x else y:=by
      intro x y
      by_cases hc:(fExt f=true∧(fPar f<((Qad f).length:Int)∨0<((Qaj f).length:Int)∨QaM f≠0))∨(fExt f=false∧(QaM f<0∨((Qaj f).length:Int)≤QaM f))
      ·rw [if_pos hc]
       have:=hbody.1 hc
       revert this
       cases f.2.2.2.2.2.2<;>simp only [cond_true,cond_false]<;>intro this<;>rw [this]<;>rfl
      ·rw [if_neg hc]
       have:=Bool.eq_false_iff.2 (fun h=>hc (hbody.2 h))
       revert this
       cases f.2.2.2.2.2.2<;>simp only [cond_true,cond_false]<;>intro this<;>rw [this]<;>rfl
     rw [hb]
     split
     ·rfl
     ·cases isTy p.1 f.2.2.1<;>cases (f.2.2.2.1.all fun v=>isTy p.1 v.1)<;>cases (f.2.2.2.1.all fun v=>!(v.2&&flat p.1 v.1))<;>rfl
end Go.Proofs.YtkecfadnfnnfaaaGreatDoor.LabB
