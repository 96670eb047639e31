/- Of the models: the header of a function, and a node alone, of the program. -/
import Derived.Test.YtkecfadnfnnfaaaGreatDoorPlB3
set_option linter.unusedVariables false
set_option linter.unusedSimpArgs false
namespace Go.Proofs.YtkecfadnfnnfaaaGreatDoor.LabB
open Go Go.Ev Go.Sy
def twC:List GCon→List (List UInt8)→Option (List (List UInt8))
 | [],cs=>some cs
 | c::r,cs=>if cs.contains c.1=true then none else twC r (cs++[c.1])
def twS:List Qak→List (List UInt8)→List (List UInt8)→Bool
 | [],_,_=>false
 | x::r,ts,cs=>if ts.contains x.1=true then true else match twC x.2 cs with |none=>true |some cs'=>twS r (ts++[x.1]) cs'
def QB9 (d:List Qak):Bool:=twS d [[73,110,116]] []
abbrev Seen:=List ((List UInt8)×Bool)
def Rel (m:Seen)(l:List (List UInt8)):Prop:=∀ y,findD .str .bool m y false=l.contains y
theorem Rel.put {m:Seen}{l:List (List UInt8)}(h:Rel m l)(x:List UInt8):Rel (putD .str .bool m x true) (l++[x]):=fun y=>by
 rw [Qt6,h y]
 rw [Bool.eq_iff_iff]
 simp [List.contains_iff_mem]
 exact or_comm
theorem QCa (m0:Seen)(d:List Qak)(n i:Int)(cs:List GCon)(hl:cs.length≤1000000):∀ (r pre:List GCon) (m:Seen) (l:List (List UInt8)),cs=pre++r→Rel m l→
  ∃ z,Qep m0 m d n i cs (cs.length:Int) (pre.length:Int)=some z∧(match twC r l with |none=>z=.inl () |some l'=>∃ m',z=.inr m'∧Rel m' l'):=by
 intro r
 induction r with
 | nil=>
  intro pre m l h hr
  subst h
  rw [QiD,Qgw,cond_false]
  exact ⟨_,rfl,_,rfl,hr⟩
 | cons c r ih=>
  intro pre m l h hr
  have hx:cs[pre.length]?=some c:=by rw [h,List.getElem?_append_right (Nat.le_refl _)]; simp
  rw [QiD,Qal hx,cond_true,Qah hx,Qaa,hr c.1,twC]
  cases hc:l.contains c.1 with
  | true=>exact ⟨_,rfl,rfl⟩
  | false=>
   rw [cond_false,Qan hx (by omega)]
   have:=ih (pre++[c]) _ _ (by rw [h]; simp) (hr.put c.1)
   simpa using this
theorem QCb (d:List Qak)(h:QeO d):∀ (r pre:List Qak) (m m2:Seen) (ts cs:List (List UInt8)),d=pre++r→Rel m ts→Rel m2 cs→
  Qeo m m2 d (d.length:Int) (pre.length:Int)=some (if twS r ts cs=true then .inl () else .inr ()):=by
 have hl:=h.len
 intro r
 induction r with
 | nil=>
  intro pre m m2 ts cs h hr hr2
  subst h
  rw [QiB,Qgw,cond_false]
  rfl
 | cons x r ih=>
  intro pre m m2 ts cs hd hr hr2
  have hx:d[pre.length]?=some x:=by rw [hd,List.getElem?_append_right (Nat.le_refl _)]; simp
  rw [QiB,Qal hx,cond_true,Qah hx,Qaa,hr x.1,twS]
  cases hc:ts.contains x.1 with
  | true=>rfl
  | false=>
   obtain ⟨z,hz,hz2⟩:=QCa (putD .str .bool m x.1 true) d (d.length:Int) (pre.length:Int) x.2 (h.cons x (List.mem_of_getElem? hx)) x.2 [] m2 cs rfl hr2
   rw [cond_false,show Qep (putD .str .bool m x.1 true) m2 d (d.length:Int) (pre.length:Int) x.2 (x.2.length:Int) 0=_ from hz,Qaa,Qan hx (by omega)]
   cases ht:twC x.2 cs with
   | none=>
    rw [ht] at hz2
    subst hz2
    rfl
   | some l'=>
    rw [ht] at hz2
    obtain ⟨m',rfl,hr'⟩:=hz2
    have:=ih (pre++[x]) _ _ _ _ (by rw [hd]; simp) (hr.put x.1) hr'
    simpa using this
theorem Qx1 (d:List Qak)(h:QeO d):QlN d=some (QB9 d):=by
 rw [QqG,show Qeo (putD .str .bool [] [73,110,116] true) [] d (d.length:Int) 0=_ from QCb d h d [] _ _ ([]++[[73,110,116]]) [] rfl (Rel.put (fun y=>rfl) _) (fun y=>rfl),Qaa]
 unfold QB9
 rw [List.nil_append]
 by_cases ht:twS d [[73,110,116]] []=true
 ·rw [if_pos ht,ht]
 ·rw [if_neg ht]
  simp only [Bool.not_eq_true] at ht
  rw [ht]
def Qug (d:List Qak):Bool:=d.all fun x=>x.2.all fun c=>c.2.all (isTy d)
theorem any2 (d:List Qak)(l:List Int)(hl:l.length≤1000000000000):Qdp d l=some (!l.all (isTy d)):=by
 rw [Qib,QjI]
 rw [QdH (L:=fun i=>Qcu d l (l.length:Int) i) (l:=l) (p:=fun c=>!isTy d c) (A:=fun j=>.inr (j:Int)) (B:=.inl ()) (fun i c hc=>by
  rw [QeA,Qal hc,cond_true,Qah hc,Qaa,Qoa,Qn4,Qaa,Qaa,Qan hc (by omega),Qaz]) (by rw [QeA,Qap,cond_false])]
 rw [List.not_all_eq_any_not,← QcF _ l 0]
 cases Qix _ 0 l with
 | none=>rfl
 | some j=>simp only [Qaa]; rw [QaR (by omega)]; rfl
theorem QEO (d:List Qak)(h:QeO d):Qen d d (d.length:Int) 0=some (if Qug d=true then .inl () else .inr ()):=by
 have hl:=h.len
 refine Qay (L:=fun i=>Qen d d (d.length:Int) i) (l:=d) (p:=fun x=>x.2.all fun c=>c.2.all (isTy d)) (fun i x hx=>?_) ?_
 ·have hm:=List.mem_of_getElem? hx
  have hc:=h.cons x hm
  rw [QiA,Qal hx,cond_true,Qah hx,Qaa,Qay (L:=fun j=>Qf6 d d (d.length:Int) (i:Int) x.2 (x.2.length:Int) j) (l:=x.2) (p:=fun c=>c.2.all (isTy d)) (A:=.inr ()) (B:=.inl ()) (fun j c hcx=>by
   rw [QiC,Qal hcx,cond_true,Qah hcx,Qaa,any2 d c.2 (h.fields x hm c (List.mem_of_getElem? hcx)),Qaa,Qan hcx (by omega),Qaz]
   cases c.2.all (isTy d)<;>rfl) (by rw [QiC,Qap,cond_false]),Qaa,Qan hx (by omega)]
  cases x.2.all _<;>rfl
 ·rw [QiA,Qap,cond_false]
def cf:List Bool→Nat
 | []=>0
 | false::l=>cf l+1
 | true::l=>cf l
theorem QAu:∀ l:List Bool,cf l≤l.length
 | []=>Nat.le_refl _
 | false::l=>Nat.succ_le_succ (QAu l)
 | true::l=>Nat.le_succ_of_le (QAu l)
theorem QrC:∀ (l:List Bool) (i:Nat),l[i]?=some false→cf (l.set i true)+1=cf l
 | [],i,h=>by simp at h
 | b::l,0,h=>by
  simp at h
  subst h
  rfl
 | b::l,i+1,h=>by
  have:=QrC l i (by simpa using h)
  cases b with
  | false=>show cf (l.set i true)+1+1=cf l+1; omega
  | true=>exact this
theorem QgD {α:Type}:∀ (l:List α) (i:Nat) (x:α),l[i]?=some x→l.set i x=l
 | [],i,x,h=>rfl
 | y::l,0,x,h=>by simp at h; subst h; rfl
 | y::l,i+1,x,h=>by rw [List.set_cons_succ,QgD l i x (by simpa using h)]
def ready (done:List Bool)(c:GCon):Bool:=c.2.all fun t=>decide (done[t.toNat]?=some true)
def Qqd (done:List Bool)(i:Nat)(x:Qak):List Bool:=if x.2.any (ready done)=true then done.set (i+1) true else done
def Qlf:Nat→List Qak→List Bool→List Bool
 | _,[],done=>done
 | i,x::r,done=>Qlf (i+1) r (Qqd done i x)
def Quh (d:List Qak):Nat→List Bool→List Bool
 | 0,done=>done
 | k+1,done=>Quh d k (Qlf 0 d done)
def fin (d:List Qak):Bool:=(Quh d (d.length+1) ((List.replicate (d.length+1) false).set 0 true)).all id
theorem QmF (done:List Bool)(i:Nat)(x:Qak):(Qqd done i x).length=done.length:=by
 unfold Qqd
 split<;>simp
theorem Qqe:∀ (r:List Qak) (i:Nat) (done:List Bool),(Qlf i r done).length=done.length
 | [],i,done=>rfl
 | x::r,i,done=>by rw [Qlf,Qqe r,QmF]
theorem QwT (done:List Bool)(i:Nat)(x:Qak)(h:i+1<done.length):(Qqd done i x=done)∨(done[i+1]?=some false∧x.2.any (ready done)=true∧Qqd done i x=done.set (i+1) true):=by
 unfold Qqd
 have hx:done[i+1]?=some done[i+1]:=List.getElem?_eq_getElem h
 by_cases hr:x.2.any (ready done)=true
 ·rw [if_pos hr]
  cases hb:done[i+1] with
  | true=>exact Or.inl (QgD _ _ _ (by rw [hx,hb]))
  | false=>exact Or.inr ⟨by rw [hx,hb],hr,rfl⟩
 ·rw [if_neg hr]; exact Or.inl rfl
theorem QsV:∀ (r:List Qak) (i:Nat) (done:List Bool),i+r.length<done.length→cf (Qlf i r done)≤cf done∧(Qlf i r done≠done→cf (Qlf i r done)<cf done)
 | [],i,done,h=>⟨Nat.le_refl _,fun h=>absurd rfl h⟩
 | x::r,i,done,h=>by
  simp only [List.length_cons] at h
  rw [Qlf]
  have ih:=QsV r (i+1) (Qqd done i x) (by rw [QmF]; omega)
  rcases QwT done i x (by omega) with h1 |⟨h1,h2,h3⟩
  ·rw [h1] at ih ⊢; exact ih
  ·rw [h3] at ih ⊢
   have:=QrC _ _ h1
   exact ⟨by omega,fun _=>by omega⟩
theorem Qui (d:List Qak)(done:List Bool)(h:Qlf 0 d done=done):∀ k,Quh d k done=done
 | 0=>rfl
 | k+1=>by rw [Quh,h,Qui d done h k]
structure Tyd (d:List Qak):Prop where
 ok:∀ x∈d,∀ c∈x.2,∀ t∈c.2,0≤t∧t≤(d.length:Int)
theorem QEP (d:List Qak)(h:Qug d=true):Tyd d:=⟨fun x hx c hc t ht=>by
 unfold Qug at h
 rw [List.all_eq_true] at h
 have h1:=h x hx
 rw [List.all_eq_true] at h1
 have h2:=h1 c hc
 rw [List.all_eq_true] at h2
 have h3:=h2 t ht
 unfold isTy at h3
 exact of_decide_eq_true h3⟩
theorem any5 (done:List Bool)(l:List Int)(hl:l.length≤1000000000000)(hr:∀ t∈l,0≤t∧t<(done.length:Int)):Qds done l=some (!l.all fun t=>decide (done[t.toNat]?=some true)):=by
 rw [Qie,QjL]
 rw [QdH (L:=fun i=>Qcx done l (l.length:Int) i) (l:=l) (p:=fun t=>!decide (done[t.toNat]?=some true)) (A:=fun j=>.inr (j:Int)) (B:=.inl ()) (fun i c hc=>by
  obtain ⟨h0,h1⟩:=hr c (List.mem_of_getElem? hc)
  obtain ⟨b,hb,hb'⟩:=Qhy h0 h1
  rw [QeD,Qal hc,cond_true,Qah hc,Qaa,QlP,hb,Qaa,Qaa,Qan hc (by omega),Qaz,hb']
  cases b<;>rfl) (by rw [QeD,Qap,cond_false])]
 rw [List.not_all_eq_any_not,← QcF _ l 0]
 cases Qix _ 0 l with
 | none=>rfl
 | some j=>simp only [Qaa]; rw [QaR (by omega)]; rfl
theorem any4 (d:List Qak)(h:QeO d)(ht:Tyd d)(done:List Bool)(hd:done.length=d.length+1)(x:Qak)(hx:x∈d):Qdr done x.2=some (x.2.any (ready done)):=by
 have hl:=h.cons x hx
 rw [Qid,QjK]
 rw [QdH (L:=fun i=>Qcw done x.2 (x.2.length:Int) i) (l:=x.2) (p:=ready done) (A:=fun j=>.inr (j:Int)) (B:=.inl ()) (fun i c hc=>by
  have hm:=List.mem_of_getElem? hc
  rw [QeC,Qal hc,cond_true,Qah hc,Qaa,Qnq,any5 done c.2 (h.fields x hx c hm) (fun t htm=>by have:=ht.ok x hx c hm t htm; omega),Qaa,Qaa,Qan hc (by omega),Qaz,Bool.not_not]
  rfl) (by rw [QeC,Qap,cond_false])]
 rw [← QcF _ x.2 0]
 cases Qix _ 0 x.2 with
 | none=>rfl
 | some j=>simp only [Qaa]; rw [QaR (by omega)]; rfl
theorem QFD (d:List Qak)(h:QeO d)(ht:Tyd d):∀ (r pre:List Qak) (done:List Bool) (more:Bool),d=pre++r→done.length=d.length+1→
  QcT done d more (d.length:Int) (pre.length:Int)=some (Qlf pre.length r done,more||decide (Qlf pre.length r done≠done)):=by
 have hl:=h.len
 intro r
 induction r with
 | nil=>
  intro pre done more hd hn
  rw [QhZ]
  subst hd
  rw [Qgw,cond_false,Qlf]
  simp
 | cons x r ih=>
  intro pre done more hd hn
  have hx:d[pre.length]?=some x:=by rw [hd,List.getElem?_append_right (Nat.le_refl _)]; simp
  have hpl:d.length=pre.length+(r.length+1):=by rw [hd]; simp
  have hi:pre.length+1<done.length:=by omega
  have hb:done[pre.length+1]?=some done[pre.length+1]:=List.getElem?_eq_getElem hi
  rw [QhZ,Qal hx,cond_true,Qah hx,Qaa,any4 d h ht done hn x (List.mem_of_getElem? hx),Qaa,Qan hx (by omega),Qah hb]
  simp only [Qaa,Qai,Qje]
  rw [Qlf]
  have hcf:=QsV r (pre.length+1) (Qqd done pre.length x) (by rw [QmF]; omega)
  have ih1:=fun b=>ih (pre++[x]) (Qqd done pre.length x) b (by rw [hd]; simp) (by rw [QmF]; exact hn)
  simp only [List.length_append,List.length_cons,List.length_nil,Nat.zero_add] at ih1
  rcases QwT done pre.length x hi with h1 |⟨h1,h2,h3⟩
  ·have hz:(x.2.any (ready done)&&!done[pre.length+1])=false:=by
    by_cases hr:x.2.any (ready done)=true
    ·unfold Qqd at h1
     rw [if_pos hr] at h1
     have:(done.set (pre.length+1) true)[pre.length+1]?=some true:=by rw [List.getElem?_set_self hi]
     rw [h1,hb] at this
     simp only [osi] at this
     rw [this]; simp
    ·simp only [Bool.not_eq_true] at hr
     rw [hr]; rfl
   rw [hz,cond_false]
   have:=ih1 more
   rw [h1] at this ⊢
   exact this
  ·rw [hb] at h1
   simp only [osi] at h1
   rw [h1,h2]
   simp only [Bool.not_false,Bool.and_self,cond_true,Int.toNat_natCast]
   rw [← h3,ih1 true]
   have hc1:=QrC done (pre.length+1) (by rw [hb,h1])
   have:Qlf (pre.length+1) r (Qqd done pre.length x)≠done:=fun e=>by
    rw [e,h3] at hcf
    omega
   rw [decide_eq_true this]
   simp
theorem QEQ (d:List Qak)(h:QeO d)(ht:Tyd d):∀ (k:Nat) (done:List Bool),done.length=d.length+1→cf done≤k→Qfx done d true=some (Quh d (k+1) done)
 | k,done,hn,hc=>by
  rw [QhY,cond_true,show QcT done d false (d.length:Int) 0=_ from QFD d h ht d [] done false rfl hn,Qaa]
  simp only [List.length_nil,Bool.false_or]
  have hcf:=QsV d 0 done (by omega)
  by_cases he:Qlf 0 d done=done
  ·rw [show decide (Qlf 0 d done≠done)=false from decide_eq_false (by simp [he]),he,QhY,cond_false,Qui d done he]
  ·rw [decide_eq_true he]
   have:=hcf.2 he
   match k with
   | 0=>omega
   | k+1=>rw [QEQ d h ht k _ (by rw [Qqe]; exact hn) (by omega),← Quh]
theorem QER (l:List Bool)(hl:l.length≤1000000):Qdc l false=some (!l.all id):=by
 rw [Qho,Qjz]
 rw [QdH (L:=fun i=>Qdd l false (l.length:Int) i) (l:=l) (p:=fun b=>!b) (A:=fun j=>.inl (j:Int)) (B:=.inr ()) (fun i b hb=>by
  rw [Qc6,Qal hb,cond_true,Qah hb,Qaa,Qan hb (by omega)]
  cases b<;>rfl) (by rw [Qc6,Qap,cond_false])]
 rw [show (!l.all id)=l.any (fun b=>!b) by rw [List.not_all_eq_any_not]; rfl,← QcF _ l 0]
 cases Qix _ 0 l with
 | none=>rfl
 | some j=>simp only [Qaa]; rw [QaR (by omega)]; rfl
theorem Quj (d:List Qak):∀ (k:Nat) (done:List Bool),(Quh d k done).length=done.length
 | 0,done=>rfl
 | k+1,done=>by rw [Quh,Quj d k,Qqe]
theorem QCc (d:List Qak)(h:QeO d)(ht:Tyd d):Qko d=some (fin d):=by
 have hl:=h.len
 rw [Qp2,Sy.QbK (by omega),Qab (by omega),Int.toNat_natCast,Qac (by omega)]
 rw [show at' (List.replicate (d.length+1) false) 0=some false from Qah (i:=0) (by simp),Qaa]
 rw [QEQ d h ht d.length _ (by simp) (by
  show cf (((List.replicate (d.length+1) false)).set 0 true)≤d.length
  rw [List.replicate_succ,List.set_cons_zero]
  show cf (List.replicate d.length false)≤d.length
  exact Nat.le_trans (QAu _) (by simp)),Qaa,QER _ (by rw [Quj]; simp; omega),Qaa,Bool.not_not]
 rfl
def chkD (d:List Qak):Int:=if many d=true then 6 else if formed d=false then 3 else if QB9 d=true then 8 else if Qug d=false then 10 else if fin d=false then 7 else 0
theorem QAv (d:List Qak)(h:QeO d):QlM d=some (chkD d):=by
 rw [QqF,QAs d h,Qaa,QvP d h,Qx1 d h,QEO d h]
 simp only [Qaa]
 unfold chkD
 cases many d with
 | true=>rfl
 | false=>
  cases formed d with
  | false=>rfl
  | true=>
   cases QB9 d with
   | true=>rfl
   | false=>
    cases ht:Qug d with
    | false=>rfl
    | true=>
     simp only [cond_false,cond_true,if_true]
     rw [QCc d h (QEP d ht),Qaa]
     cases fin d<;>rfl
end Go.Proofs.YtkecfadnfnnfaaaGreatDoor.LabB
namespace Go.Proofs.YtkecfadnfnnfaaaGreatDoor.LabB
open Go Go.Ev Go.Sy
abbrev fPar (f:GFun):Int:=f.2.1
abbrev fRes (f:GFun):Int:=f.2.2.1
abbrev Qaf (f:GFun):List GVar:=f.2.2.2.1
abbrev QaL (f:GFun):List Qag:=f.2.2.2.2.1
abbrev Qdj (f:GFun):Int:=f.2.2.2.2.2.1
abbrev fExt (f:GFun):Bool:=f.2.2.2.2.2.2
structure QjD (f:GFun):Prop where
 name:f.1.length≤1000000000
 vars:f.2.2.2.1.length≤1000000
 code:f.2.2.2.2.1.length≤1000000
 nodes:∀ n∈f.2.2.2.2.1,QcD n
structure Qcq (p:Qae):Prop where
 QsW:QeO p.1
 funs:p.2.length≤1000
 all:∀ f∈p.2,QjD f
def hdr (p:Qae)(k:Nat)(f:GFun):Int:=
 if QAp f.1=false then 3
 else if (p.2.take k).any (fun g=>decide (g.1=f.1))=true then 8
 else if 6<fPar f∨512<((Qaf f).length:Int)∨4096<((QaL f).length:Int) then 6
 else if fPar f<0∨((Qaf f).length:Int)<fPar f then 3
 else if (fExt f=true∧(fPar f<((Qaf f).length:Int)∨0<((QaL f).length:Int)∨Qdj f≠0))∨(fExt f=false∧(Qdj f<0∨((QaL f).length:Int)≤Qdj f)) then 3
 else if isTy p.1 (fRes f)=false then 10
 else if (Qaf f).all (fun v=>isTy p.1 v.1)=false then 10
 else if (Qaf f).all (fun v=>!(v.2&&flat p.1 v.1))=false then 11
 else 0
theorem hdrL (p:Qae)(k:Nat)(f:GFun)(hp:p.2.length≤1000)(a b c:List Bool)(x:GFun)(hx:x.1=f.1):
  Qbv a b c p.1 p.2 f.1 f.2.1 f.2.2.1 f.2.2.2.1 f.2.2.2.2.1 f.2.2.2.2.2.1 f.2.2.2.2.2.2 x (p.2.take k) ((p.2.take k).length:Int) 0=some (if (p.2.take k).any (fun g=>decide (g.1=f.1))=true then .inl () else .inr ()):=by
 have hl:(p.2.take k).length≤1000:=by rw [List.length_take]; omega
 rw [Qay (L:=fun i=>Qbv a b c p.1 p.2 f.1 f.2.1 f.2.2.1 f.2.2.2.1 f.2.2.2.2.1 f.2.2.2.2.2.1 f.2.2.2.2.2.2 x (p.2.take k) ((p.2.take k).length:Int) i) (l:=p.2.take k) (p:=fun g=>!decide (g.1=f.1)) (A:=.inl ()) (B:=.inr ()) (fun i g hg=>by
  rw [Qey,Qal hg,cond_true,Qah hg,Qaa,Qan hg (by omega),Qaz,hx]
  cases decide (g.1=f.1)<;>rfl) (by rw [Qey,Qap,cond_false]),← List.not_any_eq_all_not]
 cases List.any _ _<;>rfl
theorem any3 (p:Qae)(f:GFun)(a b c:List Bool)(l:List GVar)(hl:l.length≤1000000):
  Qdq a b c p.1 p.2 f.1 f.2.1 f.2.2.1 f.2.2.2.1 f.2.2.2.2.1 f.2.2.2.2.2.1 f.2.2.2.2.2.2 l=some (!l.all fun v=>isTy p.1 v.1):=by
 rw [Qic,QjJ]
 rw [QdH (L:=fun i=>Qcv a b c p.1 p.2 f.1 f.2.1 f.2.2.1 f.2.2.2.1 f.2.2.2.2.1 f.2.2.2.2.2.1 f.2.2.2.2.2.2 l (l.length:Int) i) (l:=l) (p:=fun v=>!isTy p.1 v.1) (A:=fun j=>.inr (j:Int)) (B:=.inl ()) (fun i v hv=>by
  rw [QeB,Qal hv,cond_true,Qah hv,Qaa,QiE,QfO]
  simp only [Qai,Qaa,Qmy]
  rw [Qan hv (by omega),Qaz]
  have:(!(!decide (v.1<0)&&!decide ((p.1.length:Int)<v.1)))=!isTy p.1 v.1:=by
   unfold isTy
   rw [Bool.eq_iff_iff]
   simp only [Bool.and_eq_true,Bool.not_eq_true',Bool.and_eq_false_iff,decide_eq_true_eq,decide_eq_false_iff_not,Bool.not_eq_false']
   omega
  rw [this]) (by rw [QeB,Qap,cond_false])]
 rw [List.not_all_eq_any_not,← QcF _ l 0]
 cases Qix _ 0 l with
 | none=>rfl
 | some j=>simp only [Qaa]; rw [QaR (by omega)]; rfl
theorem any6 (p:Qae)(hd:QeO p.1)(f:GFun)(a b c:List Bool)(l:List GVar)(hl:l.length≤1000000):
  Qdt a b c p.1 p.2 f.1 f.2.1 f.2.2.1 f.2.2.2.1 f.2.2.2.2.1 f.2.2.2.2.2.1 f.2.2.2.2.2.2 l=some (!l.all fun v=>!(v.2&&flat p.1 v.1)):=by
 rw [Qif,QjM]
 rw [QdH (L:=fun i=>Qcy a b c p.1 p.2 f.1 f.2.1 f.2.2.1 f.2.2.2.1 f.2.2.2.2.1 f.2.2.2.2.2.1 f.2.2.2.2.2.2 l (l.length:Int) i) (l:=l) (p:=fun v=>v.2&&flat p.1 v.1) (A:=fun j=>.inr (j:Int)) (B:=.inl ()) (fun i v hv=>by
  rw [QeE,Qal hv,cond_true,Qah hv,Qaa,QiG,QmE p.1 hd]
  simp only [Qai,Qaa,Qje]
  rw [Qan hv (by omega),Qaz]) (by rw [QeE,Qap,cond_false])]
 rw [← List.not_any_eq_all_not,Bool.not_not,← QcF _ l 0]
 cases Qix _ 0 l with
 | none=>rfl
 | some j=>simp only [Qaa]; rw [QaR (by omega)]; rfl
theorem QCd (p:Qae)(hp:Qcq p)(k:Nat)(hk:k≤p.2.length)(f:GFun)(hf:QjD f)(a b c:List Bool):
  QeU a b c p.1 p.2 f.1 f.2.1 f.2.2.1 f.2.2.2.1 f.2.2.2.2.1 f.2.2.2.2.2.1 f.2.2.2.2.2.2 (k:Int)=some (hdr p k f):=by
 have hn:=hf.name
 have hv:=hf.vars
 rw [QjG,QAq _ (by omega),Qaa,Qab (by omega),Qab (by omega),Int.toNat_natCast,hdrL p k f hp.funs a b c _ rfl,any3 p f a b c _ hv,any6 p hp.QsW f a b c _ hv,QfO]
 simp only [Qai,Qaa,Qb0,Qb9,Qmy,QsG]
 have hty:(!decide (f.2.2.1<0)&&!decide ((p.1.length:Int)<f.2.2.1))=isTy p.1 f.2.2.1:=by
  unfold isTy
  rw [Bool.eq_iff_iff]
  simp only [Bool.and_eq_true,Bool.not_eq_true',Bool.and_eq_false_iff,decide_eq_true_eq,decide_eq_false_iff_not,Bool.not_eq_false']
  omega
 rw [hty]
 unfold hdr
 cases hnm:QAp f.1 with
 | false=>rfl
 | true=>
  cases ht:(p.2.take k).any (fun g=>decide (g.1=f.1)) with
  | true=>rfl
  | false=>
   simp only [cond_true,Bool.false_eq_true,if_false,Bool.true_eq_false]
   by_cases h6:6<fPar f∨512<((Qaf f).length:Int)∨4096<((QaL f).length:Int)
   ·rw [if_pos h6,Qt5 (by simp only [Bool.or_eq_true,decide_eq_true_eq]; show (6<fPar f∨512<((Qaf f).length:Int))∨4096<((QaL f).length:Int); omega)]
   ·rw [if_neg h6,Qem (by simp only [Bool.or_eq_false_iff,decide_eq_false_iff_not]; show (¬ 6<fPar f∧¬ 512<((Qaf f).length:Int))∧¬ 4096<((QaL f).length:Int); omega)]
    by_cases h3:fPar f<0∨((Qaf f).length:Int)<fPar f
    ·rw [if_pos h3,Qt5 (by simp only [Bool.or_eq_true,decide_eq_true_eq]; exact h3)]
    ·rw [if_neg h3,Qem (by simp only [Bool.or_eq_false_iff,decide_eq_false_iff_not]; show ¬ fPar f<0∧¬ ((Qaf f).length:Int)<fPar f; omega)]
     have hbody:(fExt f=true∧(fPar f<((Qaf f).length:Int)∨0<((QaL f).length:Int)∨Qdj f≠0))∨(fExt f=false∧(Qdj f<0∨((QaL f).length:Int)≤Qdj f))↔(bif f.2.2.2.2.2.2 then (decide (f.2.1<(f.2.2.2.1.length:Int))||decide (0<(f.2.2.2.2.1.length:Int)))||!decide (f.2.2.2.2.2.1=0) else decide (f.2.2.2.2.2.1<0)||!decide (f.2.2.2.2.2.1<(f.2.2.2.2.1.length:Int)))=true:=by
      show (fExt f=true∧(fPar f<((Qaf f).length:Int)∨0<((QaL f).length:Int)∨Qdj f≠0))∨(fExt f=false∧(Qdj f<0∨((QaL f).length:Int)≤Qdj f))↔(bif fExt f then (decide (fPar f<((Qaf f).length:Int))||decide (0<((QaL f).length:Int)))||!decide (Qdj f=0) else decide (Qdj f<0)||!decide (Qdj f<((QaL f).length:Int)))=true
      cases fExt f<;>simp<;>omega
     have hb:∀ (x y:Option Int),(bif f.2.2.2.2.2.2 then bif (decide (f.2.1<(f.2.2.2.1.length:Int))||decide (0<(f.2.2.2.2.1.length:Int)))||!decide (f.2.2.2.2.2.1=0) then x else y else bif decide (f.2.2.2.2.2.1<0)||!decide (f.2.2.2.2.2.1<(f.2.2.2.2.1.length:Int)) then x else y)=if (fExt f=true∧(fPar f<((Qaf f).length:Int)∨0<((QaL f).length:Int)∨Qdj f≠0))∨(fExt f=false∧(Qdj f<0∨((QaL f).length:Int)≤Qdj f)) then x else y:=by
      intro x y
      by_cases hc:(fExt f=true∧(fPar f<((Qaf f).length:Int)∨0<((QaL f).length:Int)∨Qdj f≠0))∨(fExt f=false∧(Qdj f<0∨((QaL f).length:Int)≤Qdj f))
      ·rw [if_pos hc]
       have:=hbody.1 hc
       revert this
       cases f.2.2.2.2.2.2<;>simp only [cond_true,cond_false]<;>intro this<;>rw [this]<;>rfl
      ·rw [if_neg hc]
       have:=Bool.eq_false_iff.2 (fun h=>hc (hbody.2 h))
       revert this
       cases f.2.2.2.2.2.2<;>simp only [cond_true,cond_false]<;>intro this<;>rw [this]<;>rfl
     rw [hb]
     split
     ·rfl
     ·cases isTy p.1 f.2.2.1<;>cases (f.2.2.2.1.all fun v=>isTy p.1 v.1)<;>cases (f.2.2.2.1.all fun v=>!(v.2&&flat p.1 v.1))<;>rfl
end Go.Proofs.YtkecfadnfnnfaaaGreatDoor.LabB
