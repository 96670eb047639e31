/- Of the models of the ownership statements: the visits. -/
import Derived.Test.YtkecfadnfnnfaaaGreatDoorPlO4
set_option linter.unusedVariables false
set_option linter.unusedSimpArgs false
namespace Go.Proofs.YtkecfadnfnnfaaaGreatDoor.LabB.O
open Go Go.Ev Go.Sy Go.Proofs.YtkecfadnfnnfaaaGreatDoor.LabB
theorem SR.dec {sl:List Int}{sc:List Bool}(h:SR sl sc){v:Int}(h0:0≤v):decide (v∈sl)=gm sc v:=by
 rw [Bool.eq_iff_iff,decide_eq_true_eq,Qw0,h.mem v]
 exact ⟨fun h=>h.2,fun h=>⟨h0,h⟩⟩
theorem QAK {gone scope:List Int}{G B:List Bool}(hg:SR gone G)(hb:SR scope B)(cons:List Int):(scope.all fun v=>!(!decide (v∈gone)&&!decide (v∈cons)))=endS G B cons:=by
 unfold endS
 rw [Bool.eq_iff_iff,List.all_eq_true]
 constructor
 ·intro h
  refine QAI _ _ fun i b hi=>?_
  rw [Nat.zero_add]
  cases b with
  | false=>rfl
  | true=>
   have:=h (i:Int) ((hb.mem _).2 ⟨by omega,by rw [Int.toNat_natCast]; exact hi⟩)
   rw [SR.dec hg (by omega)] at this
   simpa using this
 ·intro h v hv
  obtain ⟨h0,h1⟩:=(hb.mem v).1 hv
  have:=Qk8 _ 0 v.toNat h true h1
  rw [Nat.zero_add,Int.toNat_of_nonneg h0] at this
  rw [SR.dec hg h0]
  simpa using this
section
variable (p:Qae) (f:GFun)
variable (G B:List Bool) (s:List Int) (n:Qag) (last:Bool) (cons rd gone scope:List Int) (nd er:Int)
theorem rr0 (l:List Int)(hl:Vs p f l):Qcj gone (p,(f,(s,(last,(nd,er))))) n scope l rd 0=some (if l.all (fun v=>!rdOf f v)=true then .inr () else .inl ()):=by
 have:=hl.len
 refine Qay (L:=fun i=>Qcj gone (p,(f,(s,(last,(nd,er))))) n scope l rd i) (l:=l) (fun i v hv=>?_) ?_
 ·obtain ⟨h0,h1,_⟩:=hl.rng v (List.mem_of_getElem? hv)
  obtain ⟨x,hx,_,_,hr⟩:=QhE f h0 h1
  rw [QfR,Qal hv,cond_true,Qah hv,Qaa,show at' f.2.2.2.1 v=some x from hx,Qaa,Qan hv (by omega),hr]
  cases x.2<;>rfl
 ·rw [QfR,Qap,cond_false]
theorem rr2 (hs:RInv p f s)(hg:SR gone G)(hgl:gone.length≤1000000)(l:List Int)(hll:l.length≤1000000)(hl:∀ v∈l,0≤v∧v<((Qaf f).length:Int)∧flV p f v=false):Qcm gone l (p,(f,(s,(last,(nd,er))))) n scope cons rd 0=some (if l.all (fun v=>!gm G (rt s v))=true then .inl () else .inr ()):=by
 refine Qay (L:=fun i=>Qcm gone l (p,(f,(s,(last,(nd,er))))) n scope cons rd i) (l:=l) (fun i v hv=>?_) ?_
 ·obtain ⟨h0,h1,h2⟩:=hl v (List.mem_of_getElem? hv)
  obtain ⟨r0,r1⟩:=(hs.at_ v h0 h1).2.1 h2
  rw [QfS,Qal hv,cond_true,Qah hv,Qaa,QgM h0 (by rw [hs.len]; exact h1),Qaa,Qh4 gone (by omega),Qaa,SR.dec hg r0,Qan hv (by omega)]
  cases gm G (rt s v)<;>rfl
 ·rw [QfS,Qap,cond_false]
theorem rr6 (hs:RInv p f s)(hr:Vs p f rd)(i0:Nat)(v:Int)(hv0:cons[i0]?=some v):Qco gone (p,(f,(s,(last,(nd,er))))) n scope cons rd (i0:Int) 0=some (if rd.all (fun r=>!decide (rt s r=v))=true then .inr () else .inl ()):=by
 have:=hr.len
 refine Qay (L:=fun i=>Qco gone (p,(f,(s,(last,(nd,er))))) n scope cons rd (i0:Int) i) (l:=rd) (fun i r hv=>?_) ?_
 ·obtain ⟨h0,h1,h2⟩:=hr.rng r (List.mem_of_getElem? hv)
  rw [QfU,Qal hv,cond_true,Qah hv,Qaa,QgM h0 (by rw [hs.len]; exact h1),Qaa,Qah hv0,Qaa,Qan hv (by omega)]
  cases decide (rt s r=v)<;>rfl
 ·rw [QfU,Qap,cond_false]
theorem rr4 (hs:RInv p f s)(hc:Vs p f cons)(hr:Vs p f rd):Qcn gone (p,(f,(s,(last,(nd,er))))) n scope cons rd 0=some (if dupS s cons rd=true then .inr () else .inl ()):=by
 have hcl:=hc.len
 unfold dupS
 refine QdG (L:=fun i=>Qcn gone (p,(f,(s,(last,(nd,er))))) n scope cons rd i) (l:=cons) (fun i v hv=>?_) ?_
 ·have hi:=Qcd hv
  have htl:(cons.take i).length≤9223372036854775807:=by rw [List.length_take]; omega
  rw [QfT,Qal hv,cond_true,Qab (show ¬ (i:Int)<0 by omega),Qab (show ¬ (cons.length:Int)<(i:Int) by omega),Qah hv,Qaa,Int.toNat_natCast,Qh4 _ htl v,Qaa,rr6 p f s n last cons rd gone scope nd er hs hr i v hv,Qaa,Qan hv (by omega)]
  cases decide (v∈cons.take i)<;>cases rd.all (fun r=>!decide (rt s r=v))<;>rfl
 ·rw [QfT,Qap,cond_false]
theorem rr8 (hs:RInv p f s)(hr:Vs p f rd):Qcp gone (p,(f,(s,(last,(nd,er))))) n scope cons rd 0=some (if rd.all (fun r=>!badS f s r)=true then .inr () else .inl ()):=by
 have:=hr.len
 refine Qay (L:=fun i=>Qcp gone (p,(f,(s,(last,(nd,er))))) n scope cons rd i) (l:=rd) (fun i r hv=>?_) ?_
 ·obtain ⟨h0,h1,h2⟩:=hr.rng r (List.mem_of_getElem? hv)
  obtain ⟨r0,r1⟩:=(hs.at_ r h0 h1).2.1 h2
  obtain ⟨x,hx,_,_,hrd⟩:=QhE f r0 r1
  rw [QfV,Qal hv,cond_true,Qah hv,Qaa,QgM h0 (by rw [hs.len]; exact h1),Qaa,Qan hv (by omega),show at' f.2.2.2.1 (rt s r)=some x from hx,Qaa,Qai,Qaa]
  unfold badS
  rw [hrd]
  cases (bif decide (rt s r<fPar f) then !x.2 else true)<;>rfl
 ·rw [QfV,Qap,cond_false]
theorem rr10 (hgl:gone.length≤1000000)(hsl:scope.length≤1000000)(hc:Vs p f cons):Qb6 gone (p,(f,(s,(last,(nd,er))))) scope cons 0=some (if (scope.all fun v=>!(!decide (v∈gone)&&!decide (v∈cons)))=true then .inr () else .inl ()):=by
 have:=hc.len
 refine Qay (L:=fun i=>Qb6 gone (p,(f,(s,(last,(nd,er))))) scope cons i) (l:=scope) (fun i v hv=>?_) ?_
 ·rw [QfH,Qal hv,cond_true,Qah hv,Qaa,Qh4 gone (by omega),Qaa,Qh4 cons (by omega),Qaa,Qai,Qaa,Qan hv (by omega)]
  cases decide (v∈gone)<;>cases decide (v∈cons)<;>rfl
 ·rw [QfH,Qap,cond_false]
theorem QFR (l:List Int)(hl:Vs p f l):QbP gone scope (p,(f,(s,(last,(nd,er))))) n l rd 0=some (if l.all (fun v=>!rdOf f v)=true then .inr () else .inl ()):=by
 have:=hl.len
 refine Qay (L:=fun i=>QbP gone scope (p,(f,(s,(last,(nd,er))))) n l rd i) (l:=l) (fun i v hv=>?_) ?_
 ·obtain ⟨h0,h1,_⟩:=hl.rng v (List.mem_of_getElem? hv)
  obtain ⟨x,hx,_,_,hr⟩:=QhE f h0 h1
  rw [Qff,Qal hv,cond_true,Qah hv,Qaa,show at' f.2.2.2.1 v=some x from hx,Qaa,Qan hv (by omega),hr]
  cases x.2<;>rfl
 ·rw [Qff,Qap,cond_false]
theorem QFS (hs:RInv p f s)(hg:SR gone G)(hgl:gone.length≤1000000)(l:List Int)(hll:l.length≤1000000)(hl:∀ v∈l,0≤v∧v<((Qaf f).length:Int)∧flV p f v=false):QbQ gone scope l (p,(f,(s,(last,(nd,er))))) n cons rd 0=some (if l.all (fun v=>!gm G (rt s v))=true then .inr () else .inl ()):=by
 refine Qay (L:=fun i=>QbQ gone scope l (p,(f,(s,(last,(nd,er))))) n cons rd i) (l:=l) (fun i v hv=>?_) ?_
 ·obtain ⟨h0,h1,h2⟩:=hl v (List.mem_of_getElem? hv)
  obtain ⟨r0,r1⟩:=(hs.at_ v h0 h1).2.1 h2
  rw [Qfg,Qal hv,cond_true,Qah hv,Qaa,QgM h0 (by rw [hs.len]; exact h1),Qaa,Qh4 gone (by omega),Qaa,SR.dec hg r0,Qan hv (by omega)]
  cases gm G (rt s v)<;>rfl
 ·rw [Qfg,Qap,cond_false]
theorem QFT (hs:RInv p f s)(hr:Vs p f rd)(i0:Nat)(v:Int)(hv0:cons[i0]?=some v):QbS gone scope (p,(f,(s,(last,(nd,er))))) n cons rd (i0:Int) 0=some (if rd.all (fun r=>!decide (rt s r=v))=true then .inr () else .inl ()):=by
 have:=hr.len
 refine Qay (L:=fun i=>QbS gone scope (p,(f,(s,(last,(nd,er))))) n cons rd (i0:Int) i) (l:=rd) (fun i r hv=>?_) ?_
 ·obtain ⟨h0,h1,h2⟩:=hr.rng r (List.mem_of_getElem? hv)
  rw [Qfi,Qal hv,cond_true,Qah hv,Qaa,QgM h0 (by rw [hs.len]; exact h1),Qaa,Qah hv0,Qaa,Qan hv (by omega)]
  cases decide (rt s r=v)<;>rfl
 ·rw [Qfi,Qap,cond_false]
theorem QFU (hs:RInv p f s)(hc:Vs p f cons)(hr:Vs p f rd):QbR gone scope (p,(f,(s,(last,(nd,er))))) n cons rd 0=some (if dupS s cons rd=true then .inr () else .inl ()):=by
 have hcl:=hc.len
 unfold dupS
 refine QdG (L:=fun i=>QbR gone scope (p,(f,(s,(last,(nd,er))))) n cons rd i) (l:=cons) (fun i v hv=>?_) ?_
 ·have hi:=Qcd hv
  have htl:(cons.take i).length≤9223372036854775807:=by rw [List.length_take]; omega
  rw [Qfh,Qal hv,cond_true,Qab (show ¬ (i:Int)<0 by omega),Qab (show ¬ (cons.length:Int)<(i:Int) by omega),Qah hv,Qaa,Int.toNat_natCast,Qh4 _ htl v,Qaa,QFT p f s n last cons rd gone scope nd er hs hr i v hv,Qaa,Qan hv (by omega)]
  cases decide (v∈cons.take i)<;>cases rd.all (fun r=>!decide (rt s r=v))<;>rfl
 ·rw [Qfh,Qap,cond_false]
theorem QFV (hs:RInv p f s)(hr:Vs p f rd):QbT gone scope (p,(f,(s,(last,(nd,er))))) n cons rd 0=some (if rd.all (fun r=>!badS f s r)=true then .inr () else .inl ()):=by
 have:=hr.len
 refine Qay (L:=fun i=>QbT gone scope (p,(f,(s,(last,(nd,er))))) n cons rd i) (l:=rd) (fun i r hv=>?_) ?_
 ·obtain ⟨h0,h1,h2⟩:=hr.rng r (List.mem_of_getElem? hv)
  obtain ⟨r0,r1⟩:=(hs.at_ r h0 h1).2.1 h2
  obtain ⟨x,hx,_,_,hrd⟩:=QhE f r0 r1
  rw [Qfj,Qal hv,cond_true,Qah hv,Qaa,QgM h0 (by rw [hs.len]; exact h1),Qaa,Qan hv (by omega),show at' f.2.2.2.1 (rt s r)=some x from hx,Qaa,Qai,Qaa]
  unfold badS
  rw [hrd]
  cases (bif decide (rt s r<fPar f) then !x.2 else true)<;>rfl
 ·rw [Qfj,Qap,cond_false]
theorem QE6 (hgl:gone.length≤1000000)(hsl:scope.length≤1000000)(hc:Vs p f cons):QbD gone scope (p,(f,(s,(last,(nd,er))))) cons 0=some (if (scope.all fun v=>!(!decide (v∈gone)&&!decide (v∈cons)))=true then .inr () else .inl ()):=by
 have:=hc.len
 refine Qay (L:=fun i=>QbD gone scope (p,(f,(s,(last,(nd,er))))) cons i) (l:=scope) (fun i v hv=>?_) ?_
 ·rw [QeN,Qal hv,cond_true,Qah hv,Qaa,Qh4 gone (by omega),Qaa,Qh4 cons (by omega),Qaa,Qai,Qaa,Qan hv (by omega)]
  cases decide (v∈gone)<;>cases decide (v∈cons)<;>rfl
 ·rw [QeN,Qap,cond_false]
theorem QAL (sc:List Bool)(hp:Qcq p)(hk:HOk p f)(hn:QcD n)(h:Qbh p f sc n)(hsc:sc.length=(Qaf f).length)(hs:RInv p f s)(hg:SR ([]:List Int) G)(hb:SR scope B)(hsl:scope.length≤1000000):
  Qgs (p,(f,(s,(last,(nd,er))))) n scope=some (QfI f s last (nOp n) (Qad p f n) (reads p f n) G B):=by
 have hc:=h.cons hn hsc
 have hr:=h.rds hn hsc
 have h1:=hc.len
 have h2:=hr.len
 have hap:(Qad p f n++reads p f n).length=(Qad p f n).length+(reads p f n).length:=by simp
 rw [QlS]
 dsimp only
 rw [Qgp p f hp hk n hn h hsc,Qaa,Qus p f hp hk n hn h hsc,Qaa,rr0 p f s n last (reads p f n) ([]:List Int) scope nd er (Qad p f n) hc,Qaa,Qac (show (Qad p f n).length * 8≤35184372088832 by omega),Qac (show ((Qad p f n).length+(reads p f n).length) * 8≤35184372088832 by omega),
  rr2 p f G s n last (Qad p f n) (reads p f n) ([]:List Int) scope nd er hs hg (Nat.zero_le _) _ (by omega) (hc.app p f hr),Qaa,rr4 p f s n last (Qad p f n) (reads p f n) ([]:List Int) scope nd er hs hc hr,Qaa,
  rr8 p f s n last (Qad p f n) (reads p f n) ([]:List Int) scope nd er hs hr,Qaa,rr10 p f s last (Qad p f n) ([]:List Int) scope nd er (Nat.zero_le _) hsl hc,Qaa,QAK hg hb]
 simp only [Qai,Qaa,Qb9]
 unfold QfI
 cases (Qad p f n).all (fun v=>!rdOf f v) with
 | false=>rfl
 | true=>
  cases (Qad p f n++reads p f n).all (fun v=>!gm G (rt s v)) with
  | false=>rfl
  | true=>
   cases dupS s (Qad p f n) (reads p f n) with
   | false=>rfl
   | true=>
    have e0:decide (n.1=0)=decide (nOp n=0):=rfl
    have e7:decide (n.1=7)=decide (nOp n=7):=rfl
    have e8:decide (n.1=8)=decide (nOp n=8):=rfl
    rw [e0,e7,e8]
    by_cases o0:nOp n=0
    ·rw [QdC o0,QaR (show ¬ nOp n=7 by omega),QaR (show ¬ nOp n=8 by omega),if_pos (Or.inl o0)]
     cases (reads p f n).all (fun r=>!badS f s r)<;>cases last<;>cases endS G B (Qad p f n)<;>rfl
    ·by_cases o7:nOp n=7
     ·rw [QaR o0,QdC o7,QaR (show ¬ nOp n=8 by omega),if_pos (Or.inr (Or.inl o7))]
      cases (reads p f n).all (fun r=>!badS f s r)<;>cases last<;>cases endS G B (Qad p f n)<;>rfl
     ·by_cases o8:nOp n=8
      ·rw [QaR o0,QaR o7,QdC o8,if_pos (Or.inr (Or.inr o8))]
       cases (reads p f n).all (fun r=>!badS f s r)<;>cases last<;>cases endS G B (Qad p f n)<;>rfl
      ·rw [QaR o0,QaR o7,QaR o8,if_neg (show ¬ (nOp n=0∨nOp n=7∨nOp n=8) by omega)]
       cases last<;>rfl
theorem QvV (sc:List Bool)(hp:Qcq p)(hk:HOk p f)(hn:QcD n)(h:Qbh p f sc n)(hsc:sc.length=(Qaf f).length)(hs:RInv p f s)(hg:SR gone G)(hgl:gone.length≤1000000)(hb:SR scope B)(hsl:scope.length≤1000000):
  QfC gone scope (p,(f,(s,(last,(nd,er))))) n=some (QfI f s last (nOp n) (Qad p f n) (reads p f n) G B):=by
 have hc:=h.cons hn hsc
 have hr:=h.rds hn hsc
 have h1:=hc.len
 have h2:=hr.len
 have hap:(Qad p f n++reads p f n).length=(Qad p f n).length+(reads p f n).length:=by simp
 rw [QkB]
 dsimp only
 rw [Qgp p f hp hk n hn h hsc,Qaa,Qus p f hp hk n hn h hsc,Qaa,QFR p f s n last (reads p f n) gone scope nd er (Qad p f n) hc,Qaa,Qac (show (Qad p f n).length * 8≤35184372088832 by omega),Qac (show ((Qad p f n).length+(reads p f n).length) * 8≤35184372088832 by omega),
  QFS p f G s n last (Qad p f n) (reads p f n) gone scope nd er hs hg (hgl) _ (by omega) (hc.app p f hr),Qaa,QFU p f s n last (Qad p f n) (reads p f n) gone scope nd er hs hc hr,Qaa,
  QFV p f s n last (Qad p f n) (reads p f n) gone scope nd er hs hr,Qaa,QE6 p f s last (Qad p f n) gone scope nd er (hgl) hsl hc,Qaa,QAK hg hb]
 simp only [Qai,Qaa,Qb9]
 unfold QfI
 cases (Qad p f n).all (fun v=>!rdOf f v) with
 | false=>rfl
 | true=>
  cases (Qad p f n++reads p f n).all (fun v=>!gm G (rt s v)) with
  | false=>rfl
  | true=>
   cases dupS s (Qad p f n) (reads p f n) with
   | false=>rfl
   | true=>
    have e0:decide (n.1=0)=decide (nOp n=0):=rfl
    have e7:decide (n.1=7)=decide (nOp n=7):=rfl
    have e8:decide (n.1=8)=decide (nOp n=8):=rfl
    rw [e0,e7,e8]
    by_cases o0:nOp n=0
    ·rw [QdC o0,QaR (show ¬ nOp n=7 by omega),QaR (show ¬ nOp n=8 by omega),if_pos (Or.inl o0)]
     cases (reads p f n).all (fun r=>!badS f s r)<;>cases last<;>cases endS G B (Qad p f n)<;>rfl
    ·by_cases o7:nOp n=7
     ·rw [QaR o0,QdC o7,QaR (show ¬ nOp n=8 by omega),if_pos (Or.inr (Or.inl o7))]
      cases (reads p f n).all (fun r=>!badS f s r)<;>cases last<;>cases endS G B (Qad p f n)<;>rfl
     ·by_cases o8:nOp n=8
      ·rw [QaR o0,QaR o7,QdC o8,if_pos (Or.inr (Or.inr o8))]
       cases (reads p f n).all (fun r=>!badS f s r)<;>cases last<;>cases endS G B (Qad p f n)<;>rfl
      ·rw [QaR o0,QaR o7,QaR o8,if_neg (show ¬ (nOp n=0∨nOp n=7∨nOp n=8) by omega)]
       cases last<;>rfl
theorem Qqp {v:Int}(h0:0≤v)(h1:v<((Qaf f).length:Int)):Qcl (QaE p f) s p.1 p.2 f.1 f.2.1 f.2.2.1 f.2.2.2.1 f.2.2.2.2.1 f.2.2.2.2.2.1 f.2.2.2.2.2.2 v=some (own p f v):=by
 obtain ⟨x,hx,_,_,hr⟩:=QhE f h0 h1
 rw [QjS,QoA p f h0 h1,Qaa,show at' f.2.2.2.1 v=some x from hx,Qaa,Qai,Qaa]
 unfold own
 rw [hr]
 cases flV p f v<;>rfl
theorem Qht (hp:Qcq p)(hk:HOk p f)(l:List Int)(hl:l.length≤1000000)(hr:∀ v∈l,0≤v∧v<((Qaf f).length:Int)):QeY p f l=some (l.filter (own p f)):=by
 rw [QqJ]
 have:=QaY (L:=fun s i=>Qdk s p f l i) (l:=l) (F:=fun s v=>if own p f v=true then s++[v] else s) (E:=id) (fun i s=>s.length≤i)
  (fun s i v hv hI=>⟨by
   have hI':s.length≤i:=hI
   have:=Qcd hv
   obtain ⟨h0,h1⟩:=hr v (List.mem_of_getElem? hv)
   obtain ⟨x,hx,_,_,hrd⟩:=QhE f h0 h1
   rw [QiH,Qal hv,cond_true,Qah hv,Qaa,show at' f.2.2.2.1 v=some x from hx,Qaa,QwZ p f hp hk h0 h1,Qaa,Qan hv (by omega),Qac (show (s.length+1) * 8≤35184372088832 by omega)]
   unfold own
   rw [hrd]
   cases x.2<;>cases flV p f v<;>rfl,Nat.le_trans (QsU _ _ _) (by have:=hI; omega)⟩)
  (fun s hI=>by rw [QiH,Qap,cond_false]; rfl) [] (by simp)
 rw [this,foldl_filter]
 rfl
theorem QCj (b:Bool)(l m:List Int)(sc:List Bool):setS b (l++m) sc=setS b m (setS b l sc):=by unfold setS; rw [List.foldl_append]
theorem QoC (q:Int→Bool):∀ (l:List Int) (B:List Bool),l.foldl (fun B v=>if q v=true then B.set v.toNat true else B) B=setS true (l.filter q) B
 | [],B=>rfl
 | v::l,B=>by
  rw [List.foldl_cons,QoC q l,List.filter_cons]
  cases q v<;>rfl
theorem QvW (q:Bool)(B:List Bool)(i:Nat)(x:Bool):(if q=true then B.set i x else B).length=B.length:=by cases q<;>simp
theorem QCk (hB:B.length=(Qaf f).length)(l:List Int)(hl:l.length≤1000000000000)(hr:∀ v∈l,0≤v∧v<((Qaf f).length:Int)):QfB (QaE p f) s G B l p.1 p.2 f.1 f.2.1 f.2.2.1 f.2.2.2.1 f.2.2.2.2.1 f.2.2.2.2.2.1 f.2.2.2.2.2.2=some (setS true (l.filter (own p f)) B):=by
 rw [Qkz,← QoC]
 have:=QaY (L:=fun T i=>QbO (QaE p f) s G T l p.1 p.2 f.1 f.2.1 f.2.2.1 f.2.2.2.1 f.2.2.2.2.1 f.2.2.2.2.2.1 f.2.2.2.2.2.2 (l.length:Int) i) (l:=l) (F:=fun T v=>if own p f v=true then T.set v.toNat true else T) (E:=id) (fun _ T=>T.length=(Qaf f).length)
  (fun T i v hv hI=>⟨by
   have hI':T.length=(Qaf f).length:=hI
   obtain ⟨h0,h1⟩:=hr v (List.mem_of_getElem? hv)
   obtain ⟨x,hx,_⟩:=Qhy (l:=T) h0 (by omega)
   rw [Qfe,Qal hv,cond_true,Qah hv,Qaa,Qqp p f s h0 h1,Qaa,hx,Qaa,Qan hv (by omega)]
   cases own p f v<;>rfl,by rw [QvW]; exact hI⟩)
  (fun T hI=>by rw [Qfe,Qap,cond_false]; rfl) B hB
 rw [this]
 rfl
theorem Qyb (hB:B.length=(Qaf f).length)(l:List Int)(hl:l.length≤1000000000000)(hr:∀ v∈l,0≤v∧v<((Qaf f).length:Int)):Qef (QaE p f) s G B l p.1 p.2 f.1 f.2.1 f.2.2.1 f.2.2.2.1 f.2.2.2.2.1 f.2.2.2.2.2.1 f.2.2.2.2.2.2 B.length=some (setS true (l.filter (own p f)) B):=by
 rw [Qjl,← QoC]
 have:=QaY (L:=fun T i=>Qbp (QaE p f) s G T l p.1 p.2 f.1 f.2.1 f.2.2.1 f.2.2.2.1 f.2.2.2.2.1 f.2.2.2.2.2.1 f.2.2.2.2.2.2 B.length (l.length:Int) i) (l:=l) (F:=fun T v=>if own p f v=true then T.set v.toNat true else T) (E:=id) (fun _ T=>T.length=(Qaf f).length)
  (fun T i v hv hI=>⟨by
   have hI':T.length=(Qaf f).length:=hI
   obtain ⟨h0,h1⟩:=hr v (List.mem_of_getElem? hv)
   obtain ⟨x,hx,_⟩:=Qhy (l:=T) h0 (by omega)
   rw [Qd8,Qal hv,cond_true,Qah hv,Qaa,Qqp p f s h0 h1,Qaa,Qab (show ¬ v<0 by omega),Qac (show v<(B.length:Int) by omega),hx,Qaa,Qan hv (by omega)]
   cases own p f v<;>rfl,by rw [QvW]; exact hI⟩)
  (fun T hI=>by rw [Qd8,Qap,cond_false]; rfl) B hB
 rw [this]
 rfl
theorem Qnx (hB:B.length=(Qaf f).length)(l:List Int)(hl:l.length≤1000000000000)(hr:∀ v∈l,0≤v∧v<((Qaf f).length:Int)):QaO (QaE p f) s G B p.1 p.2 f.1 f.2.1 f.2.2.1 f.2.2.2.1 f.2.2.2.2.1 f.2.2.2.2.2.1 f.2.2.2.2.2.2 G.length B.length l=some (setS true (l.filter (own p f)) B):=by
 rw [Qjn,← QoC]
 have:=QaY (L:=fun T i=>Qbr (QaE p f) s G T p.1 p.2 f.1 f.2.1 f.2.2.1 f.2.2.2.1 f.2.2.2.2.1 f.2.2.2.2.2.1 f.2.2.2.2.2.2 G.length B.length l (l.length:Int) i) (l:=l) (F:=fun T v=>if own p f v=true then T.set v.toNat true else T) (E:=id) (fun _ T=>T.length=(Qaf f).length)
  (fun T i v hv hI=>⟨by
   have hI':T.length=(Qaf f).length:=hI
   obtain ⟨h0,h1⟩:=hr v (List.mem_of_getElem? hv)
   obtain ⟨x,hx,_⟩:=Qhy (l:=T) h0 (by omega)
   rw [Qeb,Qal hv,cond_true,Qah hv,Qaa,Qqp p f s h0 h1,Qaa,Qab (show ¬ v<0 by omega),Qac (show v<(B.length:Int) by omega),hx,Qaa,Qan hv (by omega)]
   cases own p f v<;>rfl,by rw [QvW]; exact hI⟩)
  (fun T hI=>by rw [Qeb,Qap,cond_false]; rfl) B hB
 rw [this]
 rfl
theorem Qny (G:List Bool)(n:Nat)(h:G.length=n):List.take 0 (List.replicate (n:Int).toNat false)++(List.take (List.replicate (n:Int).toNat false).length G++List.drop (List.take (List.replicate (n:Int).toNat false).length G).length (List.replicate (n:Int).toNat false))=G:=by
 subst h
 simp
theorem QlV (G:List Bool)(n:Nat)(h:G.length=n):List.take 0 (List.replicate (n:Int).toNat false)++(List.take (List.replicate (n:Int).toNat false).length (List.take n G)++List.drop (List.take (List.replicate (n:Int).toNat false).length (List.take n G)).length (List.replicate (n:Int).toNat false))=G:=by
 subst h
 simp
theorem Qnz (n:Nat):(List.replicate (n:Int).toNat false).length=n:=by simp
theorem Qyc (hl:G.length≤1000000)(hGB:G.length=B.length):QdL G B=some (G,B,G.length,B.length):=by
 rw [QiO,Qab (by omega),Qac (by rw [Int.toNat_natCast]; omega),Qab (by omega),Qac (by rw [Int.toNat_natCast]; omega),Qny G _ rfl,Qny B _ rfl,Qnz,Qnz]
theorem Quu (hl:G.length≤1000000)(hGB:G.length=B.length):Qc4 G B B.length=some (G,B,G.length,B.length):=by
 rw [QhA,Qab (by omega),Qac (by rw [Int.toNat_natCast]; omega),Qab (by omega),Qac (by rw [Int.toNat_natCast]; omega),Qac (Nat.le_refl _),Qny G _ rfl,QlV B _ rfl,Qnz,Qnz]
theorem Quv (hl:G.length≤1000000)(hGB:G.length=B.length):Qc5 G B G.length B.length=some (G,B,G.length,B.length):=by
 rw [QhC,Qab (by omega),Qac (by rw [Int.toNat_natCast]; omega),Qab (by omega),Qac (by rw [Int.toNat_natCast]; omega),Qac (Nat.le_refl _),Qac (Nat.le_refl _),QlV G _ rfl,QlV B _ rfl,Qnz,Qnz]
theorem QvX (G0 B0 B1:List Bool)(hG:G.length=(Qaf f).length)(gl bl:Nat)(hgl:gl=(Qaf f).length)(kid:Int)(l:List Int)(hl:l.length≤1000000)(hr:∀ v∈l,0≤v∧v<((Qaf f).length:Int)∧flV p f v=false):QaK G0 B0 (QaE p f) s ([]:List Bool) ([]:List Bool) G B1 l p.1 p.2 f.1 f.2.1 f.2.2.1 f.2.2.2.1 f.2.2.2.2.1 f.2.2.2.2.2.1 f.2.2.2.2.2.2 n gl bl kid (l.length:Int) 0=some (setS true l G):=by
 refine QaY (L:=fun T i=>QaK G0 B0 (QaE p f) s ([]:List Bool) ([]:List Bool) T B1 l p.1 p.2 f.1 f.2.1 f.2.2.1 f.2.2.2.1 f.2.2.2.2.1 f.2.2.2.2.2.1 f.2.2.2.2.2.2 n gl bl kid (l.length:Int) i) (l:=l) (F:=fun T v=>T.set v.toNat true) (E:=id) (fun _ T=>T.length=(Qaf f).length)
  (fun T i v hv hI=>⟨?_,by simpa using hI⟩)
  (fun T hI=>by rw [Qea,Qap,cond_false]; rfl) G hG
 have hI':T.length=(Qaf f).length:=hI
 obtain ⟨h0,h1,_⟩:=hr v (List.mem_of_getElem? hv)
 obtain ⟨x,hx,_⟩:=Qhy (l:=T) h0 (by omega)
 rw [Qea,Qal hv,cond_true,Qah hv,Qaa,Qab (show ¬ v<0 by omega),Qac (show v<(gl:Int) by omega),hx,Qaa,Qan hv (by omega)]
theorem Qyd (sc:List Bool)(hn:QcD n)(h:Qbh p f sc n)(hsc:sc.length=(Qaf f).length)(hv:(Qaf f).length≤1000000)(hG:G.length=(Qaf f).length)(hB:B.length=(Qaf f).length)(i:Nat)(k:Int)(l:List Int)(hk:(kb n)[i]?=some (k,l)):
  Qeg (QaE p f) s G B p.1 p.2 f.1 f.2.1 f.2.2.1 f.2.2.2.1 f.2.2.2.2.1 f.2.2.2.2.2.1 f.2.2.2.2.2.2 n (i:Int)=some (setS true (Qad p f n) G,setS true (l.filter (own p f)) B,(Qaf f).length,(Qaf f).length):=by
 have hc:=h.cons hn hsc
 have hcl:=hc.len
 have hrl:∀ v∈l,0≤v∧v<((Qaf f).length:Int):=fun v hv=>h.rng v (Qf9 (List.mem_of_getElem? hk) v hv)
 have hll:l.length≤1000000:=by have:=QsY (List.mem_of_getElem? hk); have:=h.len; omega
 have hsl:(setS true (Qad p f n) G).length=(Qaf f).length:=by rw [QbJ]; exact hG
 have hbnd:=Qnx p f (setS true (Qad p f n) G) B s hB l (by omega) hrl
 rw [hsl,hB] at hbnd
 rw [Qjm,Qyc G B (by omega) (by omega),Qaa,Qf4 p f s n hn h hsc]
 dsimp only
 rw [Qaa,hG,hB]
 dsimp only
 rw [QvX p f G s n G B B hG _ _ rfl _ _ (by omega) hc.rng,Qaa,QgS n hn]
 by_cases h9:nOp n=9
 ·have:(nBr n)[i]?=some (l,k):=by
   unfold kb at hk
   rw [if_pos h9,List.getElem?_map] at hk
   cases hb:(nBr n)[i]? with
   | none=>rw [hb] at hk; simp at hk
   | some b=>
    rw [hb] at hk
    simp only [Option.map_some,osi,Prod.mk.injEq] at hk
    rw [← hk.1,← hk.2]
  rw [Qac h9,show at' n.2.2.2.2.2.2.2.2.1 (i:Int)=some (l,k) from Qah this,Qaa,hbnd]
  rfl
 ·have:l=binds n:=by
   unfold kb at hk
   rw [if_neg h9,List.getElem?_map] at hk
   cases hb:(kids n)[i]? with
   | none=>rw [hb] at hk; simp at hk
   | some b=>
    rw [hb] at hk
    simp only [Option.map_some,osi,Prod.mk.injEq] at hk
    exact hk.2.symm
  subst this
  rw [Qab h9,Qaa,hbnd]
  rfl
theorem Quw (sc:List Bool)(hn:QcD n)(h:Qbh p f sc n)(hsc:sc.length=(Qaf f).length)(hv:(Qaf f).length≤1000000)(hG:G.length=(Qaf f).length)(hB:B.length=(Qaf f).length)(i:Nat)(k:Int)(l:List Int)(hk:(kb n)[i]?=some (k,l)):
  Qdv (QaE p f) s G B p.1 p.2 f.1 f.2.1 f.2.2.1 f.2.2.2.1 f.2.2.2.2.1 f.2.2.2.2.2.1 f.2.2.2.2.2.2 n (i:Int) B.length=some (setS true (Qad p f n) G,setS true (l.filter (own p f)) B,(Qaf f).length,(Qaf f).length):=by
 have hc:=h.cons hn hsc
 have hcl:=hc.len
 have hrl:∀ v∈l,0≤v∧v<((Qaf f).length:Int):=fun v hv=>h.rng v (Qf9 (List.mem_of_getElem? hk) v hv)
 have hll:l.length≤1000000:=by have:=QsY (List.mem_of_getElem? hk); have:=h.len; omega
 have hsl:(setS true (Qad p f n) G).length=(Qaf f).length:=by rw [QbJ]; exact hG
 have hbnd:=Qnx p f (setS true (Qad p f n) G) B s hB l (by omega) hrl
 rw [hsl,hB] at hbnd
 rw [Qii,Quu G B (by omega) (by omega),Qaa,Qf4 p f s n hn h hsc]
 dsimp only
 rw [Qaa,hG,hB]
 dsimp only
 rw [QvX p f G s n G B B hG _ _ rfl _ _ (by omega) hc.rng,Qaa,QgS n hn]
 by_cases h9:nOp n=9
 ·have:(nBr n)[i]?=some (l,k):=by
   unfold kb at hk
   rw [if_pos h9,List.getElem?_map] at hk
   cases hb:(nBr n)[i]? with
   | none=>rw [hb] at hk; simp at hk
   | some b=>
    rw [hb] at hk
    simp only [Option.map_some,osi,Prod.mk.injEq] at hk
    rw [← hk.1,← hk.2]
  rw [Qac h9,show at' n.2.2.2.2.2.2.2.2.1 (i:Int)=some (l,k) from Qah this,Qaa,hbnd]
  rfl
 ·have:l=binds n:=by
   unfold kb at hk
   rw [if_neg h9,List.getElem?_map] at hk
   cases hb:(kids n)[i]? with
   | none=>rw [hb] at hk; simp at hk
   | some b=>
    rw [hb] at hk
    simp only [Option.map_some,osi,Prod.mk.injEq] at hk
    exact hk.2.symm
  subst this
  rw [Qab h9,Qaa,hbnd]
  rfl
theorem Qux (sc:List Bool)(hn:QcD n)(h:Qbh p f sc n)(hsc:sc.length=(Qaf f).length)(hv:(Qaf f).length≤1000000)(hG:G.length=(Qaf f).length)(hB:B.length=(Qaf f).length)(i:Nat)(k:Int)(l:List Int)(hk:(kb n)[i]?=some (k,l)):
  Qdw (QaE p f) s G B p.1 p.2 f.1 f.2.1 f.2.2.1 f.2.2.2.1 f.2.2.2.2.1 f.2.2.2.2.2.1 f.2.2.2.2.2.2 n (i:Int) G.length B.length=some (setS true (Qad p f n) G,setS true (l.filter (own p f)) B,(Qaf f).length,(Qaf f).length):=by
 have hc:=h.cons hn hsc
 have hcl:=hc.len
 have hrl:∀ v∈l,0≤v∧v<((Qaf f).length:Int):=fun v hv=>h.rng v (Qf9 (List.mem_of_getElem? hk) v hv)
 have hll:l.length≤1000000:=by have:=QsY (List.mem_of_getElem? hk); have:=h.len; omega
 have hsl:(setS true (Qad p f n) G).length=(Qaf f).length:=by rw [QbJ]; exact hG
 have hbnd:=Qnx p f (setS true (Qad p f n) G) B s hB l (by omega) hrl
 rw [hsl,hB] at hbnd
 rw [Qij,Quv G B (by omega) (by omega),Qaa,Qf4 p f s n hn h hsc]
 dsimp only
 rw [Qaa,hG,hB]
 dsimp only
 rw [QvX p f G s n G B B hG _ _ rfl _ _ (by omega) hc.rng,Qaa,QgS n hn]
 by_cases h9:nOp n=9
 ·have:(nBr n)[i]?=some (l,k):=by
   unfold kb at hk
   rw [if_pos h9,List.getElem?_map] at hk
   cases hb:(nBr n)[i]? with
   | none=>rw [hb] at hk; simp at hk
   | some b=>
    rw [hb] at hk
    simp only [Option.map_some,osi,Prod.mk.injEq] at hk
    rw [← hk.1,← hk.2]
  rw [Qac h9,show at' n.2.2.2.2.2.2.2.2.1 (i:Int)=some (l,k) from Qah this,Qaa,hbnd]
  rfl
 ·have:l=binds n:=by
   unfold kb at hk
   rw [if_neg h9,List.getElem?_map] at hk
   cases hb:(kids n)[i]? with
   | none=>rw [hb] at hk; simp at hk
   | some b=>
    rw [hb] at hk
    simp only [Option.map_some,osi,Prod.mk.injEq] at hk
    exact hk.2.symm
  subst this
  rw [Qab h9,Qaa,hbnd]
  rfl
end
end Go.Proofs.YtkecfadnfnnfaaaGreatDoor.LabB.O
namespace Go.Proofs.YtkecfadnfnnfaaaGreatDoor.LabB.O
open Go Go.Ev Go.Sy Go.Proofs.YtkecfadnfnnfaaaGreatDoor.LabB
def visL (g:Int×List Int→Int×Int):List (Int×List Int)→Int×Int
 | []=>(0,0)
 | x::r=>if (g x).2=0 then visL g r else g x
theorem QkH (g:Int×List Int→Int×Int):∀ (l:List (Int×List Int)),(visL g l).2=0→visL g l=(0,0)
 | [],h=>rfl
 | x::r,h=>by
  rw [visL] at h ⊢
  split at h
  ·rename_i h0
   rw [if_pos h0]; exact QkH g r h
  ·rename_i h0
   exact absurd h h0
def visS (p:Qae)(f:GFun)(s:List Int)(last:Bool):Nat→List Bool→List Bool→Int→Int×Int
 | 0,_,_,_=>(0,0)
 | d+1,G,B,k=>match (QaL f)[k.toNat]? with
  | none=>(0,0)
  | some n=>if QfI f s last (nOp n) (Qad p f n) (reads p f n) G B=0 then visL (fun x=>visS p f s last d (setS true (Qad p f n) G) (setS true (x.2.filter (own p f)) B) x.1) (kb n)
   else (k,QfI f s last (nOp n) (Qad p f n) (reads p f n) G B)
theorem Quy (p:Qae)(f:GFun)(s:List Int)(last:Bool):∀ (d:Nat) (G B:List Bool) (k:Int),(visS p f s last d G B k).2=0→visS p f s last d G B k=(0,0)
 | 0,G,B,k,h=>rfl
 | d+1,G,B,k,h=>by
  rw [visS] at h ⊢
  split at h
  ·rfl
  ·split at h
   ·rename_i h0
    rw [if_pos h0]; exact QkH _ _ h
   ·rename_i h0
    exact absurd h h0
section
variable (p:Qae) (f:GFun) (G B:List Bool) (s:List Int) (n:Qag) (last:Bool)
theorem QCl (sc:List Bool)(hn:QcD n)(h:Qbh p f sc n)(hsc:sc.length=(Qaf f).length)(hv:(Qaf f).length≤1000000)(hG:G.length=(Qaf f).length)(hB:B.length=(Qaf f).length)(g:Int×List Int→Int×Int)
  (hg:∀ x∈kb n,Qao (setS true (Qad p f n) G) (setS true (x.2.filter (own p f)) B) (QaE p f) s p.1 p.2 f.1 f.2.1 f.2.2.1 f.2.2.2.1 f.2.2.2.2.1 f.2.2.2.2.2.1 f.2.2.2.2.2.2 last x.1 (Qaf f).length (Qaf f).length=some (g x)):
  ∀ (r pre:List (Int×List Int)),kb n=pre++r→Qa4 G B (QaE p f) s p.1 p.2 f.1 f.2.1 f.2.2.1 f.2.2.2.1 f.2.2.2.2.1 f.2.2.2.2.2.1 f.2.2.2.2.2.2 last n (kids n) ((kids n).length:Int) (pre.length:Int)=some (if (visL g r).2=0 then .inl () else .inr (visL g r)):=by
 intro r
 have hkl:=QgL n hn
 induction r with
 | nil=>
  intro pre h
  rw [QdP,Qab (by rw [QcM,h]; simp)]
  rfl
 | cons x r ih=>
  intro pre hk
  have hlen:(kids n).length=pre.length+(r.length+1):=by rw [QcM,hk]; simp
  have hat:(kids n)[pre.length]?=some x.1:=by
   rw [QcM,hk,List.map_append,List.getElem?_append_right (by simp)]
   simp
  have hkb:(kb n)[pre.length]?=some (x.1,x.2):=by rw [hk,List.getElem?_append_right (Nat.le_refl _)]; simp
  have e3:Ev.wr .i64 ((pre.length:Int)+1)=((pre++[x]).length:Int):=by rw [Sy.QbK (by omega)]; simp
  rw [QdP,Qal hat,cond_true,Qah hat,Qaa,Qyd p f G B s n sc hn h hsc hv hG hB pre.length x.1 x.2 hkb,Qaa]
  dsimp only
  rw [hg x (by rw [hk]; simp),Qaa,e3,ih (pre++[x]) (by rw [hk]; simp),visL]
  cases hgx:g x with
  | mk a e=>
   dsimp only
   by_cases h0:e=0
   ·rw [Qac h0,if_pos h0]
   ·rw [Qab h0,if_neg h0,if_neg h0]
theorem Qye (sc:List Bool)(hn:QcD n)(h:Qbh p f sc n)(hsc:sc.length=(Qaf f).length)(hv:(Qaf f).length≤1000000)(hG:G.length=(Qaf f).length)(hB:B.length=(Qaf f).length)(g:Int×List Int→Int×Int)
  (hg:∀ x∈kb n,Qao (setS true (Qad p f n) G) (setS true (x.2.filter (own p f)) B) (QaE p f) s p.1 p.2 f.1 f.2.1 f.2.2.1 f.2.2.2.1 f.2.2.2.2.1 f.2.2.2.2.2.1 f.2.2.2.2.2.2 last x.1 (Qaf f).length (Qaf f).length=some (g x)):
  ∀ (r pre:List (Int×List Int)),kb n=pre++r→QaS G B (QaE p f) s p.1 p.2 f.1 f.2.1 f.2.2.1 f.2.2.2.1 f.2.2.2.2.1 f.2.2.2.2.2.1 f.2.2.2.2.2.2 last B.length n (kids n) ((kids n).length:Int) (pre.length:Int)=some (if (visL g r).2=0 then .inl () else .inr (visL g r)):=by
 intro r
 have hkl:=QgL n hn
 induction r with
 | nil=>
  intro pre h
  rw [Qdh,Qab (by rw [QcM,h]; simp)]
  rfl
 | cons x r ih=>
  intro pre hk
  have hlen:(kids n).length=pre.length+(r.length+1):=by rw [QcM,hk]; simp
  have hat:(kids n)[pre.length]?=some x.1:=by
   rw [QcM,hk,List.map_append,List.getElem?_append_right (by simp)]
   simp
  have hkb:(kb n)[pre.length]?=some (x.1,x.2):=by rw [hk,List.getElem?_append_right (Nat.le_refl _)]; simp
  have e3:Ev.wr .i64 ((pre.length:Int)+1)=((pre++[x]).length:Int):=by rw [Sy.QbK (by omega)]; simp
  rw [Qdh,Qal hat,cond_true,Qah hat,Qaa,Quw p f G B s n sc hn h hsc hv hG hB pre.length x.1 x.2 hkb,Qaa]
  dsimp only
  rw [hg x (by rw [hk]; simp),Qaa,e3,ih (pre++[x]) (by rw [hk]; simp),visL]
  cases hgx:g x with
  | mk a e=>
   dsimp only
   by_cases h0:e=0
   ·rw [Qac h0,if_pos h0]
   ·rw [Qab h0,if_neg h0,if_neg h0]
theorem Qyf (sc:List Bool)(hn:QcD n)(h:Qbh p f sc n)(hsc:sc.length=(Qaf f).length)(hv:(Qaf f).length≤1000000)(hG:G.length=(Qaf f).length)(hB:B.length=(Qaf f).length)(g:Int×List Int→Int×Int)
  (hg:∀ x∈kb n,Qao (setS true (Qad p f n) G) (setS true (x.2.filter (own p f)) B) (QaE p f) s p.1 p.2 f.1 f.2.1 f.2.2.1 f.2.2.2.1 f.2.2.2.2.1 f.2.2.2.2.2.1 f.2.2.2.2.2.2 last x.1 (Qaf f).length (Qaf f).length=some (g x)):
  ∀ (r pre:List (Int×List Int)),kb n=pre++r→QaT G B (QaE p f) s p.1 p.2 f.1 f.2.1 f.2.2.1 f.2.2.2.1 f.2.2.2.2.1 f.2.2.2.2.2.1 f.2.2.2.2.2.2 last G.length B.length n (kids n) ((kids n).length:Int) (pre.length:Int)=some (if (visL g r).2=0 then .inl () else .inr (visL g r)):=by
 intro r
 have hkl:=QgL n hn
 induction r with
 | nil=>
  intro pre h
  rw [Qdi,Qab (by rw [QcM,h]; simp)]
  rfl
 | cons x r ih=>
  intro pre hk
  have hlen:(kids n).length=pre.length+(r.length+1):=by rw [QcM,hk]; simp
  have hat:(kids n)[pre.length]?=some x.1:=by
   rw [QcM,hk,List.map_append,List.getElem?_append_right (by simp)]
   simp
  have hkb:(kb n)[pre.length]?=some (x.1,x.2):=by rw [hk,List.getElem?_append_right (Nat.le_refl _)]; simp
  have e3:Ev.wr .i64 ((pre.length:Int)+1)=((pre++[x]).length:Int):=by rw [Sy.QbK (by omega)]; simp
  rw [Qdi,Qal hat,cond_true,Qah hat,Qaa,Qux p f G B s n sc hn h hsc hv hG hB pre.length x.1 x.2 hkb,Qaa]
  dsimp only
  rw [hg x (by rw [hk]; simp),Qaa,e3,ih (pre++[x]) (by rw [hk]; simp),visL]
  cases hgx:g x with
  | mk a e=>
   dsimp only
   by_cases h0:e=0
   ·rw [Qac h0,if_pos h0]
   ·rw [Qab h0,if_neg h0,if_neg h0]
theorem QAM (sc:List Bool)(hs:RInv p f s)(hf:QjD f)(d:Nat)(k:Int)(hk:Ok p f (d+1) sc k)(hG:G.length=(Qaf f).length)(hB:B.length=(Qaf f).length)
  (hg:∀ n,(QaL f)[k.toNat]?=some n→∀ x∈kb n,Qao (setS true (Qad p f n) G) (setS true (x.2.filter (own p f)) B) (QaE p f) s p.1 p.2 f.1 f.2.1 f.2.2.1 f.2.2.2.1 f.2.2.2.2.1 f.2.2.2.2.2.1 f.2.2.2.2.2.2 last x.1 (Qaf f).length (Qaf f).length=some (visS p f s last d (setS true (Qad p f n) G) (setS true (x.2.filter (own p f)) B) x.1)):
  QcL G B (QaE p f) s p.1 p.2 f.1 f.2.1 f.2.2.1 f.2.2.2.1 f.2.2.2.2.1 f.2.2.2.2.2.1 f.2.2.2.2.2.2 last k=some (visS p f s last (d+1) G B k):=by
 obtain ⟨h0,hsc,n,hn,ho,hkb⟩:=hk
 have hsm:=hf.nodes n (List.mem_of_getElem? hn)
 have hfv:(Qaf f).length≤1000000:=hf.vars
 have hat:at' f.2.2.2.2.1 k=some n:=Qhc h0 hn
 have hks:Qa4 G B (QaE p f) s p.1 p.2 f.1 f.2.1 f.2.2.1 f.2.2.2.1 f.2.2.2.2.1 f.2.2.2.2.2.1 f.2.2.2.2.2.2 last n (kids n) ((kids n).length:Int) 0=_:=QCl p f G B s n last sc hsm ho hsc hfv hG hB _ (hg n hn) (kb n) [] rfl
 rw [QiK,hat,Qaa,QAJ p f G B s n last sc hsm ho hsc hfv hs hG hB,Qaa,QkF n hsm,Qaa,hks,Qaa,visS,hn]
 dsimp only
 by_cases hr:QfI f s last (nOp n) (Qad p f n) (reads p f n) G B=0
 ·rw [Qac hr,if_pos hr]
  by_cases hz:(visL (fun x=>visS p f s last d (setS true (Qad p f n) G) (setS true (x.2.filter (own p f)) B) x.1) (kb n)).2=0
  ·rw [if_pos hz,QkH _ _ hz]
  ·rw [if_neg hz]
 ·rw [Qab hr,if_neg hr]
theorem QvY (sc:List Bool)(hs:RInv p f s)(hf:QjD f)(d:Nat)(k:Int)(hk:Ok p f (d+1) sc k)(hG:G.length=(Qaf f).length)(hB:B.length=(Qaf f).length)
  (hg:∀ n,(QaL f)[k.toNat]?=some n→∀ x∈kb n,Qao (setS true (Qad p f n) G) (setS true (x.2.filter (own p f)) B) (QaE p f) s p.1 p.2 f.1 f.2.1 f.2.2.1 f.2.2.2.1 f.2.2.2.2.1 f.2.2.2.2.2.1 f.2.2.2.2.2.2 last x.1 (Qaf f).length (Qaf f).length=some (visS p f s last d (setS true (Qad p f n) G) (setS true (x.2.filter (own p f)) B) x.1)):
  Qcb G B (QaE p f) s p.1 p.2 f.1 f.2.1 f.2.2.1 f.2.2.2.1 f.2.2.2.2.1 f.2.2.2.2.2.1 f.2.2.2.2.2.2 last k B.length=some (visS p f s last (d+1) G B k):=by
 obtain ⟨h0,hsc,n,hn,ho,hkb⟩:=hk
 have hsm:=hf.nodes n (List.mem_of_getElem? hn)
 have hfv:(Qaf f).length≤1000000:=hf.vars
 have hat:at' f.2.2.2.2.1 k=some n:=Qhc h0 hn
 have hks:QaS G B (QaE p f) s p.1 p.2 f.1 f.2.1 f.2.2.1 f.2.2.2.1 f.2.2.2.2.1 f.2.2.2.2.2.1 f.2.2.2.2.2.2 last B.length n (kids n) ((kids n).length:Int) 0=_:=Qye p f G B s n last sc hsm ho hsc hfv hG hB _ (hg n hn) (kb n) [] rfl
 rw [Qhz,hat,Qaa,QvT p f G B s n last sc hsm ho hsc hfv hs hG hB,Qaa,QkF n hsm,Qaa,hks,Qaa,visS,hn]
 dsimp only
 by_cases hr:QfI f s last (nOp n) (Qad p f n) (reads p f n) G B=0
 ·rw [Qac hr,if_pos hr]
  by_cases hz:(visL (fun x=>visS p f s last d (setS true (Qad p f n) G) (setS true (x.2.filter (own p f)) B) x.1) (kb n)).2=0
  ·rw [if_pos hz,QkH _ _ hz]
  ·rw [if_neg hz]
 ·rw [Qab hr,if_neg hr]
theorem QvZ (sc:List Bool)(hs:RInv p f s)(hf:QjD f)(d:Nat)(k:Int)(hk:Ok p f (d+1) sc k)(hG:G.length=(Qaf f).length)(hB:B.length=(Qaf f).length)
  (hg:∀ n,(QaL f)[k.toNat]?=some n→∀ x∈kb n,Qao (setS true (Qad p f n) G) (setS true (x.2.filter (own p f)) B) (QaE p f) s p.1 p.2 f.1 f.2.1 f.2.2.1 f.2.2.2.1 f.2.2.2.2.1 f.2.2.2.2.2.1 f.2.2.2.2.2.2 last x.1 (Qaf f).length (Qaf f).length=some (visS p f s last d (setS true (Qad p f n) G) (setS true (x.2.filter (own p f)) B) x.1)):
  Qao G B (QaE p f) s p.1 p.2 f.1 f.2.1 f.2.2.1 f.2.2.2.1 f.2.2.2.2.1 f.2.2.2.2.2.1 f.2.2.2.2.2.2 last k G.length B.length=some (visS p f s last (d+1) G B k):=by
 obtain ⟨h0,hsc,n,hn,ho,hkb⟩:=hk
 have hsm:=hf.nodes n (List.mem_of_getElem? hn)
 have hfv:(Qaf f).length≤1000000:=hf.vars
 have hat:at' f.2.2.2.2.1 k=some n:=Qhc h0 hn
 have hks:QaT G B (QaE p f) s p.1 p.2 f.1 f.2.1 f.2.2.1 f.2.2.2.1 f.2.2.2.2.1 f.2.2.2.2.2.1 f.2.2.2.2.2.2 last G.length B.length n (kids n) ((kids n).length:Int) 0=_:=Qyf p f G B s n last sc hsm ho hsc hfv hG hB _ (hg n hn) (kb n) [] rfl
 rw [QhB,hat,Qaa,QvU p f G B s n last sc hsm ho hsc hfv hs hG hB,Qaa,QkF n hsm,Qaa,hks,Qaa,visS,hn]
 dsimp only
 by_cases hr:QfI f s last (nOp n) (Qad p f n) (reads p f n) G B=0
 ·rw [Qac hr,if_pos hr]
  by_cases hz:(visL (fun x=>visS p f s last d (setS true (Qad p f n) G) (setS true (x.2.filter (own p f)) B) x.1) (kb n)).2=0
  ·rw [if_pos hz,QkH _ _ hz]
  ·rw [if_neg hz]
 ·rw [Qab hr,if_neg hr]
theorem QCm (hs:RInv p f s)(hf:QjD f):∀ (d:Nat) (sc:List Bool) (k:Int) (G B:List Bool),Ok p f d sc k→G.length=(Qaf f).length→B.length=(Qaf f).length→
  Qao G B (QaE p f) s p.1 p.2 f.1 f.2.1 f.2.2.1 f.2.2.2.1 f.2.2.2.2.1 f.2.2.2.2.2.1 f.2.2.2.2.2.2 last k (Qaf f).length (Qaf f).length=some (visS p f s last d G B k):=by
 intro d
 induction d with
 | zero=>intro sc k G B h; exact absurd h id
 | succ d ih=>
  intro sc k G B h hG hB
  have:=QvZ p f G B s last sc hs hf d k h hG hB (fun n hn x hx=>by
   obtain ⟨_,_,n',hn',_,hkb⟩:=h
   rw [hn'] at hn
   obtain rfl:=Option.some.inj hn
   exact ih _ x.1 _ _ (hkb x hx) (by rw [QbJ]; exact hG) (by rw [QbJ]; exact hB))
  rw [hG,hB] at this
  exact this
variable (gone scope gone2 scope2:List Int)
theorem QoD (a e:Int)(he:e≠0)(k:Int):Qas gone scope (p,(f,(s,(last,(a,e))))) k=some (p,(f,(s,(last,(a,e))))):=by
 rw [Qgn]
 exact Qab he _ _
theorem QFW (hp:Qcq p)(hk:HOk p f)(a e:Int)(he:e≠0)(bs:List Qa2)(hl:bs.length≤1000000)(hb:∀ b∈bs,b.1.length≤1000000∧∀ v∈b.1,0≤v∧v<((Qaf f).length:Int))(hsl:scope.length≤1000000):∀ (r pre:List Qa2),bs=pre++r→
  QbG gone2 (p,(f,(s,(last,(a,e))))) scope bs (bs.length:Int) (pre.length:Int)=some (p,(f,(s,(last,(a,e))))):=by
 intro r
 induction r with
 | nil=>
  intro pre h
  rw [QcA]
  subst h
  rw [Qem (Qgw pre)]
 | cons b r ih=>
  intro pre h
  have hlen:bs.length=pre.length+(r.length+1):=by rw [h]; simp
  have e2:bs[pre.length]?=some b:=by rw [h]; simp
  have e3:Ev.wr .i64 ((pre.length:Int)+1)=((pre++[b]).length:Int):=by rw [Sy.QbK (by omega)]; simp
  obtain ⟨hb1,hb2⟩:=hb b (List.mem_of_getElem? e2)
  have hfl:(b.1.filter (own p f)).length≤b.1.length:=List.length_filter_le _ _
  rw [QcA,Qal e2,cond_true,Qah e2,Qaa,Qac (show scope.length * 8≤35184372088832 by omega)]
  dsimp only
  rw [Qht p f hp hk b.1 hb1 hb2,Qaa,Qac (show (scope.length+(b.1.filter (own p f)).length) * 8≤35184372088832 by omega),QoD p f s last _ _ a e he,Qaa,e3]
  exact ih (pre++[b]) (by rw [h]; simp)
theorem rk0 (hp:Qcq p)(hk:HOk p f)(bs:List Qa2)(hl:bs.length≤1000000)(hb:∀ b∈bs,b.1.length≤1000000∧∀ v∈b.1,0≤v∧v<((Qaf f).length:Int))(hsl:scope.length≤1000000)(g:Int×List Int→Int×Int)
  (hg:∀ b∈bs,Qas gone2 (scope++b.1.filter (own p f)) (p,(f,(s,(last,(0,0))))) b.2=some (p,(f,(s,(last,g (b.2,b.1)))))) (hz:∀ x,(g x).2=0→g x=(0,0)):∀ (r pre:List Qa2),bs=pre++r→
  QbG gone2 (p,(f,(s,(last,(0,0))))) scope bs (bs.length:Int) (pre.length:Int)=some (p,(f,(s,(last,visL g (r.map fun b=>(b.2,b.1)))))):=by
 intro r
 induction r with
 | nil=>
  intro pre h
  rw [QcA]
  subst h
  rw [Qem (Qgw pre)]
  rfl
 | cons b r ih=>
  intro pre h
  have hlen:bs.length=pre.length+(r.length+1):=by rw [h]; simp
  have e2:bs[pre.length]?=some b:=by rw [h]; simp
  have e3:Ev.wr .i64 ((pre.length:Int)+1)=((pre++[b]).length:Int):=by rw [Sy.QbK (by omega)]; simp
  obtain ⟨hb1,hb2⟩:=hb b (List.mem_of_getElem? e2)
  have hfl:(b.1.filter (own p f)).length≤b.1.length:=List.length_filter_le _ _
  rw [QcA,Qal e2,cond_true,Qah e2,Qaa,Qac (show scope.length * 8≤35184372088832 by omega)]
  dsimp only
  rw [Qht p f hp hk b.1 hb1 hb2,Qaa,Qac (show (scope.length+(b.1.filter (own p f)).length) * 8≤35184372088832 by omega),hg b (List.mem_of_getElem? e2),Qaa,e3,List.map_cons,visL]
  by_cases h0:(g (b.2,b.1)).2=0
  ·rw [if_pos h0,hz _ h0]
   exact ih (pre++[b]) (by rw [h]; simp)
  ·rw [if_neg h0]
   exact QFW p f s last scope gone2 hp hk _ _ h0 bs hl hb hsl r (pre++[b]) (by rw [h]; simp)
theorem QFX (a e:Int)(he:e≠0)(ks:List Int)(hl:ks.length≤1000000):∀ (r pre:List Int),ks=pre++r→
  QbH gone2 scope2 (p,(f,(s,(last,(a,e))))) ks (ks.length:Int) (pre.length:Int)=some (p,(f,(s,(last,(a,e))))):=by
 intro r
 induction r with
 | nil=>
  intro pre h
  rw [QcB]
  subst h
  rw [Qem (Qgw pre)]
 | cons k r ih=>
  intro pre h
  have hlen:ks.length=pre.length+(r.length+1):=by rw [h]; simp
  have e2:ks[pre.length]?=some k:=by rw [h]; simp
  have e3:Ev.wr .i64 ((pre.length:Int)+1)=((pre++[k]).length:Int):=by rw [Sy.QbK (by omega)]; simp
  rw [QcB,Qal e2,cond_true,Qah e2,Qaa,QoD p f s last _ _ a e he,Qaa,e3]
  exact ih (pre++[k]) (by rw [h]; simp)
theorem rk2 (ks:List Int)(hl:ks.length≤1000000)(l:List Int)(g:Int×List Int→Int×Int)
  (hg:∀ k∈ks,Qas gone2 scope2 (p,(f,(s,(last,(0,0))))) k=some (p,(f,(s,(last,g (k,l)))))) (hz:∀ x,(g x).2=0→g x=(0,0)):∀ (r pre:List Int),ks=pre++r→
  QbH gone2 scope2 (p,(f,(s,(last,(0,0))))) ks (ks.length:Int) (pre.length:Int)=some (p,(f,(s,(last,visL g (r.map fun k=>(k,l)))))):=by
 intro r
 induction r with
 | nil=>
  intro pre h
  rw [QcB]
  subst h
  rw [Qem (Qgw pre)]
  rfl
 | cons k r ih=>
  intro pre h
  have hlen:ks.length=pre.length+(r.length+1):=by rw [h]; simp
  have e2:ks[pre.length]?=some k:=by rw [h]; simp
  have e3:Ev.wr .i64 ((pre.length:Int)+1)=((pre++[k]).length:Int):=by rw [Sy.QbK (by omega)]; simp
  rw [QcB,Qal e2,cond_true,Qah e2,Qaa,hg k (List.mem_of_getElem? e2),Qaa,e3,List.map_cons,visL]
  by_cases h0:(g (k,l)).2=0
  ·rw [if_pos h0,hz _ h0]
   exact ih (pre++[k]) (by rw [h]; simp)
  ·rw [if_neg h0]
   exact QFX p f s last gone2 scope2 _ _ h0 ks hl r (pre++[k]) (by rw [h]; simp)
theorem QDP (hp:Qcq p)(hk:HOk p f)(a e:Int)(he:e≠0)(bs:List Qa2)(hl:bs.length≤1000000)(hb:∀ b∈bs,b.1.length≤1000000∧∀ v∈b.1,0≤v∧v<((Qaf f).length:Int))(hsl:scope.length≤1000000):∀ (r pre:List Qa2),bs=pre++r→
  Qa7 gone scope gone2 (p,(f,(s,(last,(a,e)))))  bs (bs.length:Int) (pre.length:Int)=some (p,(f,(s,(last,(a,e))))):=by
 intro r
 induction r with
 | nil=>
  intro pre h
  rw [QbV]
  subst h
  rw [Qem (Qgw pre)]
 | cons b r ih=>
  intro pre h
  have hlen:bs.length=pre.length+(r.length+1):=by rw [h]; simp
  have e2:bs[pre.length]?=some b:=by rw [h]; simp
  have e3:Ev.wr .i64 ((pre.length:Int)+1)=((pre++[b]).length:Int):=by rw [Sy.QbK (by omega)]; simp
  obtain ⟨hb1,hb2⟩:=hb b (List.mem_of_getElem? e2)
  have hfl:(b.1.filter (own p f)).length≤b.1.length:=List.length_filter_le _ _
  rw [QbV,Qal e2,cond_true,Qah e2,Qaa,Qac (show scope.length * 8≤35184372088832 by omega)]
  dsimp only
  rw [Qht p f hp hk b.1 hb1 hb2,Qaa,Qac (show (scope.length+(b.1.filter (own p f)).length) * 8≤35184372088832 by omega),QoD p f s last _ _ a e he,Qaa,e3]
  exact ih (pre++[b]) (by rw [h]; simp)
theorem QFY (hp:Qcq p)(hk:HOk p f)(bs:List Qa2)(hl:bs.length≤1000000)(hb:∀ b∈bs,b.1.length≤1000000∧∀ v∈b.1,0≤v∧v<((Qaf f).length:Int))(hsl:scope.length≤1000000)(g:Int×List Int→Int×Int)
  (hg:∀ b∈bs,Qas gone2 (scope++b.1.filter (own p f)) (p,(f,(s,(last,(0,0))))) b.2=some (p,(f,(s,(last,g (b.2,b.1)))))) (hz:∀ x,(g x).2=0→g x=(0,0)):∀ (r pre:List Qa2),bs=pre++r→
  Qa7 gone scope gone2 (p,(f,(s,(last,(0,0)))))  bs (bs.length:Int) (pre.length:Int)=some (p,(f,(s,(last,visL g (r.map fun b=>(b.2,b.1)))))):=by
 intro r
 induction r with
 | nil=>
  intro pre h
  rw [QbV]
  subst h
  rw [Qem (Qgw pre)]
  rfl
 | cons b r ih=>
  intro pre h
  have hlen:bs.length=pre.length+(r.length+1):=by rw [h]; simp
  have e2:bs[pre.length]?=some b:=by rw [h]; simp
  have e3:Ev.wr .i64 ((pre.length:Int)+1)=((pre++[b]).length:Int):=by rw [Sy.QbK (by omega)]; simp
  obtain ⟨hb1,hb2⟩:=hb b (List.mem_of_getElem? e2)
  have hfl:(b.1.filter (own p f)).length≤b.1.length:=List.length_filter_le _ _
  rw [QbV,Qal e2,cond_true,Qah e2,Qaa,Qac (show scope.length * 8≤35184372088832 by omega)]
  dsimp only
  rw [Qht p f hp hk b.1 hb1 hb2,Qaa,Qac (show (scope.length+(b.1.filter (own p f)).length) * 8≤35184372088832 by omega),hg b (List.mem_of_getElem? e2),Qaa,e3,List.map_cons,visL]
  by_cases h0:(g (b.2,b.1)).2=0
  ·rw [if_pos h0,hz _ h0]
   exact ih (pre++[b]) (by rw [h]; simp)
  ·rw [if_neg h0]
   exact QDP p f s last gone scope gone2 hp hk _ _ h0 bs hl hb hsl r (pre++[b]) (by rw [h]; simp)
theorem QDQ (a e:Int)(he:e≠0)(ks:List Int)(hl:ks.length≤1000000):∀ (r pre:List Int),ks=pre++r→
  Qa8 gone scope gone2 scope2 (p,(f,(s,(last,(a,e))))) ks (ks.length:Int) (pre.length:Int)=some (p,(f,(s,(last,(a,e))))):=by
 intro r
 induction r with
 | nil=>
  intro pre h
  rw [QbW]
  subst h
  rw [Qem (Qgw pre)]
 | cons k r ih=>
  intro pre h
  have hlen:ks.length=pre.length+(r.length+1):=by rw [h]; simp
  have e2:ks[pre.length]?=some k:=by rw [h]; simp
  have e3:Ev.wr .i64 ((pre.length:Int)+1)=((pre++[k]).length:Int):=by rw [Sy.QbK (by omega)]; simp
  rw [QbW,Qal e2,cond_true,Qah e2,Qaa,QoD p f s last _ _ a e he,Qaa,e3]
  exact ih (pre++[k]) (by rw [h]; simp)
theorem QFZ (ks:List Int)(hl:ks.length≤1000000)(l:List Int)(g:Int×List Int→Int×Int)
  (hg:∀ k∈ks,Qas gone2 scope2 (p,(f,(s,(last,(0,0))))) k=some (p,(f,(s,(last,g (k,l)))))) (hz:∀ x,(g x).2=0→g x=(0,0)):∀ (r pre:List Int),ks=pre++r→
  Qa8 gone scope gone2 scope2 (p,(f,(s,(last,(0,0))))) ks (ks.length:Int) (pre.length:Int)=some (p,(f,(s,(last,visL g (r.map fun k=>(k,l)))))):=by
 intro r
 induction r with
 | nil=>
  intro pre h
  rw [QbW]
  subst h
  rw [Qem (Qgw pre)]
  rfl
 | cons k r ih=>
  intro pre h
  have hlen:ks.length=pre.length+(r.length+1):=by rw [h]; simp
  have e2:ks[pre.length]?=some k:=by rw [h]; simp
  have e3:Ev.wr .i64 ((pre.length:Int)+1)=((pre++[k]).length:Int):=by rw [Sy.QbK (by omega)]; simp
  rw [QbW,Qal e2,cond_true,Qah e2,Qaa,hg k (List.mem_of_getElem? e2),Qaa,e3,List.map_cons,visL]
  by_cases h0:(g (k,l)).2=0
  ·rw [if_pos h0,hz _ h0]
   exact ih (pre++[k]) (by rw [h]; simp)
  ·rw [if_neg h0]
   exact QDQ p f s last gone scope gone2 scope2 _ _ h0 ks hl r (pre++[k]) (by rw [h]; simp)
theorem QAN (sc:List Bool)(hp:Qcq p)(hk:HOk p f)(hs:RInv p f s)(hf:QjD f)(d:Nat)(k:Int)(ho:Ok p f (d+1) sc k)(hsr:SR ([]:List Int) G)(hgl:True)(hbr:SR scope B)(hsl:scope.length≤900000)(hvl:(Qaf f).length≤1000)
  (hg:∀ n,(QaL f)[k.toNat]?=some n→∀ x∈kb n,Qas (Qad p f n) (scope++x.2.filter (own p f)) (p,(f,(s,(last,(0,0))))) x.1=some (p,(f,(s,(last,visS p f s last d (setS true (Qad p f n) G) (setS true (x.2.filter (own p f)) B) x.1))))):
  QeP (p,(f,(s,(last,(0,0))))) k scope=some (p,(f,(s,(last,visS p f s last (d+1) G B k)))):=by
 obtain ⟨h0,hsc,n,hn,hno,hkb⟩:=ho
 have hsm:=hf.nodes n (List.mem_of_getElem? hn)
 have hat:at' f.2.2.2.2.1 k=some n:=Qhc h0 hn
 have hc:=hno.cons hsm hsc
 have hcl:=hc.len
 have hbl:=hno.len
 have hkl:=QgL n hsm
 have hbrl:=hsm.br
 have hfl:((binds n).filter (own p f)).length≤(binds n).length:=List.length_filter_le _ _
 have hbb:∀ b∈nBr n,nOp n=9→b.1.length≤1000000∧∀ v∈b.1,0≤v∧v<((Qaf f).length:Int):=fun b hb h9=>by
  have hm:(b.2,b.1)∈kb n:=by unfold kb; rw [if_pos h9]; exact List.mem_map.2 ⟨b,hb,rfl⟩
  have:=QsY hm
  exact ⟨by omega,fun v hv=>hno.rng v (Qf9 hm v hv)⟩
 have hz:∀ x:Int×List Int,(visS p f s last d (setS true (Qad p f n) G) (setS true (x.2.filter (own p f)) B) x.1).2=0→visS p f s last d (setS true (Qad p f n) G) (setS true (x.2.filter (own p f)) B) x.1=(0,0):=fun x hx=>Quy _ _ _ _ _ _ _ _ hx
 rw [QlR]
 dsimp only
 rw [Qac rfl,hat,Qaa,QAL p f G B s n last scope 0 0 sc hp hk hsm hno hsc hs hsr hbr (by omega),Qaa,visS,hn]
 dsimp only
 by_cases hr:QfI f s last (nOp n) (Qad p f n) (reads p f n) G B=0
 ·rw [Qac hr,if_pos hr,Qgp p f hp hk n hsm hno hsc,Qaa,Qac (show (Qad p f n).length * 8≤35184372088832 by omega)]
  by_cases h9:nOp n=9
  ·have hkbe:kb n=(nBr n).map fun b=>(b.2,b.1):=by unfold kb; rw [if_pos h9]
   rw [Qac h9]
   have:=rk0 p f s last scope (Qad p f n) hp hk (nBr n) (by omega) (fun b hb=>hbb b hb h9) (by omega) (fun x=>visS p f s last d (setS true (Qad p f n) G) (setS true (x.2.filter (own p f)) B) x.1)
    (fun b hb=>hg n hn (b.2,b.1) (by rw [hkbe]; exact List.mem_map.2 ⟨b,hb,rfl⟩)) hz (nBr n) [] rfl
   rw [← hkbe] at this
   rw [show QbG (Qad p f n) (p,(f,(s,(last,(0,0))))) scope n.2.2.2.2.2.2.2.2.1 (n.2.2.2.2.2.2.2.2.1.length:Int) 0=_ from this,Qaa]
  ·have hkbe:kb n=(kids n).map fun k=>(k,binds n):=by unfold kb; rw [if_neg h9]
   rw [Qab h9,Qac (show scope.length * 8≤35184372088832 by omega),QvN n hsm,Qaa,Qht p f hp hk (binds n) (by omega) hno.rng,Qaa,Qac (show (scope.length+((binds n).filter (own p f)).length) * 8≤35184372088832 by omega),Quf n hsm,Qaa]
   have:=rk2 p f s last (Qad p f n) (scope++(binds n).filter (own p f)) (kids n) (by omega) (binds n) (fun x=>visS p f s last d (setS true (Qad p f n) G) (setS true (x.2.filter (own p f)) B) x.1)
    (fun k hk=>hg n hn (k,binds n) (by rw [hkbe]; exact List.mem_map.2 ⟨k,hk,rfl⟩)) hz (kids n) [] rfl
   rw [← hkbe] at this
   rw [show QbH (Qad p f n) (scope++(binds n).filter (own p f)) (p,(f,(s,(last,(0,0))))) (kids n) ((kids n).length:Int) 0=_ from this,Qaa]
 ·rw [Qab hr,if_neg hr]
theorem Qv0 (sc:List Bool)(hp:Qcq p)(hk:HOk p f)(hs:RInv p f s)(hf:QjD f)(d:Nat)(k:Int)(ho:Ok p f (d+1) sc k)(hsr:SR gone G)(hgl:gone.length≤900000)(hbr:SR scope B)(hsl:scope.length≤900000)(hvl:(Qaf f).length≤1000)
  (hg:∀ n,(QaL f)[k.toNat]?=some n→∀ x∈kb n,Qas (gone++Qad p f n) (scope++x.2.filter (own p f)) (p,(f,(s,(last,(0,0))))) x.1=some (p,(f,(s,(last,visS p f s last d (setS true (Qad p f n) G) (setS true (x.2.filter (own p f)) B) x.1))))):
  Qas gone scope (p,(f,(s,(last,(0,0))))) k=some (p,(f,(s,(last,visS p f s last (d+1) G B k)))):=by
 obtain ⟨h0,hsc,n,hn,hno,hkb⟩:=ho
 have hsm:=hf.nodes n (List.mem_of_getElem? hn)
 have hat:at' f.2.2.2.2.1 k=some n:=Qhc h0 hn
 have hc:=hno.cons hsm hsc
 have hcl:=hc.len
 have hbl:=hno.len
 have hkl:=QgL n hsm
 have hbrl:=hsm.br
 have hfl:((binds n).filter (own p f)).length≤(binds n).length:=List.length_filter_le _ _
 have hbb:∀ b∈nBr n,nOp n=9→b.1.length≤1000000∧∀ v∈b.1,0≤v∧v<((Qaf f).length:Int):=fun b hb h9=>by
  have hm:(b.2,b.1)∈kb n:=by unfold kb; rw [if_pos h9]; exact List.mem_map.2 ⟨b,hb,rfl⟩
  have:=QsY hm
  exact ⟨by omega,fun v hv=>hno.rng v (Qf9 hm v hv)⟩
 have hz:∀ x:Int×List Int,(visS p f s last d (setS true (Qad p f n) G) (setS true (x.2.filter (own p f)) B) x.1).2=0→visS p f s last d (setS true (Qad p f n) G) (setS true (x.2.filter (own p f)) B) x.1=(0,0):=fun x hx=>Quy _ _ _ _ _ _ _ _ hx
 rw [Qgn]
 dsimp only
 rw [Qac rfl,hat,Qaa,QvV p f G B s n last gone scope 0 0 sc hp hk hsm hno hsc hs hsr (by omega) hbr (by omega),Qaa,visS,hn]
 dsimp only
 by_cases hr:QfI f s last (nOp n) (Qad p f n) (reads p f n) G B=0
 ·rw [Qac hr,if_pos hr,Qac (show gone.length * 8≤35184372088832 by omega),Qgp p f hp hk n hsm hno hsc,Qaa,Qac (show (gone.length+(Qad p f n).length) * 8≤35184372088832 by omega)]
  by_cases h9:nOp n=9
  ·have hkbe:kb n=(nBr n).map fun b=>(b.2,b.1):=by unfold kb; rw [if_pos h9]
   rw [Qac h9]
   have:=QFY p f s last gone scope (gone++Qad p f n) hp hk (nBr n) (by omega) (fun b hb=>hbb b hb h9) (by omega) (fun x=>visS p f s last d (setS true (Qad p f n) G) (setS true (x.2.filter (own p f)) B) x.1)
    (fun b hb=>hg n hn (b.2,b.1) (by rw [hkbe]; exact List.mem_map.2 ⟨b,hb,rfl⟩)) hz (nBr n) [] rfl
   rw [← hkbe] at this
   rw [show Qa7 gone scope (gone++Qad p f n) (p,(f,(s,(last,(0,0))))) n.2.2.2.2.2.2.2.2.1 (n.2.2.2.2.2.2.2.2.1.length:Int) 0=_ from this,Qaa]
  ·have hkbe:kb n=(kids n).map fun k=>(k,binds n):=by unfold kb; rw [if_neg h9]
   rw [Qab h9,Qac (show scope.length * 8≤35184372088832 by omega),QvN n hsm,Qaa,Qht p f hp hk (binds n) (by omega) hno.rng,Qaa,Qac (show (scope.length+((binds n).filter (own p f)).length) * 8≤35184372088832 by omega),Quf n hsm,Qaa]
   have:=QFZ p f s last gone scope (gone++Qad p f n) (scope++(binds n).filter (own p f)) (kids n) (by omega) (binds n) (fun x=>visS p f s last d (setS true (Qad p f n) G) (setS true (x.2.filter (own p f)) B) x.1)
    (fun k hk=>hg n hn (k,binds n) (by rw [hkbe]; exact List.mem_map.2 ⟨k,hk,rfl⟩)) hz (kids n) [] rfl
   rw [← hkbe] at this
   rw [show Qa8 gone scope (gone++Qad p f n) (scope++(binds n).filter (own p f)) (p,(f,(s,(last,(0,0))))) (kids n) ((kids n).length:Int) 0=_ from this,Qaa]
 ·rw [Qab hr,if_neg hr]
theorem SR.QAO {sl:List Int}{sc:List Bool}(h:SR sl sc)(l:List Int)(hl:∀ v∈l,0≤v∧v<(sc.length:Int)):SR (sl++l.filter (own p f)) (setS true (l.filter (own p f)) sc):=SR.add h _ fun v hv=>hl v (List.mem_filter.1 hv).1
theorem QCn (hp:Qcq p)(hk:HOk p f)(hs:RInv p f s)(hf:QjD f)(hvl:(Qaf f).length≤1000):∀ (d:Nat) (sc:List Bool) (k:Int) (G B:List Bool) (gone scope:List Int),Ok p f d sc k→G.length=(Qaf f).length→B.length=(Qaf f).length→SR gone G→SR scope B→gone.length+3000 * d≤900000→scope.length+1000 * d≤900000→
  Qas gone scope (p,(f,(s,(last,(0,0))))) k=some (p,(f,(s,(last,visS p f s last d G B k)))):=by
 intro d
 induction d with
 | zero=>intro sc k G B gone scope h; exact absurd h id
 | succ d ih=>
  intro sc k G B gone scope h hG hB hsr hbr hgl hsl
  refine Qv0 p f G B s last gone scope sc hp hk hs hf d k h hsr (by omega) hbr (by omega) hvl (fun n hn x hx=>?_)
  obtain ⟨_,hsc,n',hn',hno,hkb⟩:=h
  rw [hn'] at hn
  obtain rfl:=Option.some.inj hn
  have hsm:=hf.nodes n' (List.mem_of_getElem? hn')
  have hc:=hno.cons hsm hsc
  have hcl:=hc.len
  have hxl:x.2.length≤(binds n').length:=QsY (k:=x.1) (l:=x.2) hx
  have hbl:=hno.len
  have hfl:(x.2.filter (own p f)).length≤x.2.length:=List.length_filter_le _ _
  exact ih _ x.1 _ _ _ _ (hkb x hx) (by rw [QbJ]; exact hG) (by rw [QbJ]; exact hB) (SR.add hsr _ fun v hv=>⟨(hc.rng v hv).1,by rw [hG]; exact (hc.rng v hv).2.1⟩)
   (SR.QAO p f hbr x.2 fun v hv=>by rw [hB]; exact hno.rng v (Qf9 (k:=x.1) (l:=x.2) hx v hv)) (by rw [List.length_append]; omega) (by rw [List.length_append]; omega)
end
end Go.Proofs.YtkecfadnfnnfaaaGreatDoor.LabB.O
