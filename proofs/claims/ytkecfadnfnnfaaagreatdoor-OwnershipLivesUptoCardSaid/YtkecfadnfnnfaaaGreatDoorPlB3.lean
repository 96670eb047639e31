/- Of the models: tables of types. -/
import Derived.Test.YtkecfadnfnnfaaaGreatDoorModB
import Derived.Test.YtkecfadnfnnfaaaGreatDoorSyW
set_option linter.unusedVariables false
set_option linter.unusedSimpArgs false
namespace Go.Proofs.YtkecfadnfnnfaaaGreatDoor.LabB
open Go Go.Ev Go.Sy
def fArgs (op:Int):Int:=if op=0∨op=4∨op=5∨op=9 then 1 else if op=2 then 2 else if op=3∨op=6∨op=7∨op=8 then -1 else 0
def QvF (op:Int):Bool:=decide (1≤op∧op≤6)
def Qkf (op:Int):Bool:=decide (1≤op∧op≤6∧op≠5)
def fCon (op:Int):Bool:=decide (op=3∨op=8)
def fNum (op:Int):Bool:=decide (op=1∨op=2∨op=8)
def fFun (op:Int):Bool:=decide (op=6∨op=7∨op=8)
def fOf (op:Int):QBS:=(fArgs op,Qkf op,fCon op,fNum op,fFun op,decide (op=8),decide (op=9),QvF op,decide (op=9))
theorem QlI {op:Int}(h:0≤op∧op<10):op=0∨op=1∨op=2∨op=3∨op=4∨op=5∨op=6∨op=7∨op=8∨op=9:=by omega
theorem QFk {op:Int}(h:¬ (0≤op∧op<10)):fOf op=(0,false,false,false,false,false,false,false,false):=by
 unfold fOf fArgs Qkf fCon fNum fFun QvF
 rw [if_neg (by omega),if_neg (by omega),if_neg (by omega),QaP (by omega),QaP (by omega),QaP (by omega),QaP (by omega),QaP (by omega),QaP (by omega),QaP (by omega)]
theorem Qyo (op:Int)(h:0≤op∧op<10):at' ([(1,(false,(false,(false,(false,(false,(false,(false,false)))))))),(0,(true,(false,(true,(false,(false,(false,(true,false)))))))),(2,(true,(false,(true,(false,(false,(false,(true,false)))))))),(-1,(true,(true,(false,(false,(false,(false,(true,false)))))))),(1,(true,(false,(false,(false,(false,(false,(true,false)))))))),(1,(false,(false,(false,(false,(false,(false,(true,false)))))))),(-1,(true,(false,(false,(true,(false,(false,(true,false)))))))),(-1,(false,(false,(false,(true,(false,(false,(false,false)))))))),(-1,(false,(true,(true,(true,(true,(false,(false,false)))))))),(1,(false,(false,(false,(false,(false,(true,(false,true))))))))]:List QBS) op=some (fOf op):=by
 rcases QlI h with rfl |rfl |rfl |rfl |rfl |rfl |rfl |rfl |rfl |rfl<;>rfl
theorem Quh (op:Int):Qoc op=some (fOf op,decide (0≤op∧op<10)):=by
 rw [Qzs]
 simp only [Qai,Qaa,Qaz,QaQ]
 by_cases h:0≤op∧op<10
 ·rw [QaP (show ¬ op<0 by omega),QbE h.2,QbE h]
  simp only [Bool.not_true,Bool.or_false,cond_false,Qnn,Qaa,Qyo op h]
 ·rw [QaP h,QFk h]
  have:(decide (op<0)||!decide (op<10))=true:=by
   by_cases h0:op<0
   ·simp [h0]
   ·simp [show ¬ op<10 by omega]
  rw [this]
  rfl
abbrev nOp (n:Qaf):Int:=n.1
abbrev nVar (n:Qaf):Int:=n.2.1
abbrev QaG (n:Qaf):List Int:=n.2.2.1
abbrev nCon (n:Qaf):Int:=n.2.2.2.1
abbrev nNum (n:Qaf):Int:=n.2.2.2.2.1
abbrev nFun (n:Qaf):Int:=n.2.2.2.2.2.1
abbrev Qfq (n:Qaf):List Int:=n.2.2.2.2.2.2.1
abbrev Qfr (n:Qaf):Bool:=n.2.2.2.2.2.2.2.1
abbrev nBr (n:Qaf):List Qcq:=n.2.2.2.2.2.2.2.2.1
abbrev QGy (n:Qaf):Int:=n.2.2.2.2.2.2.2.2.2
structure QbN (n:Qaf):Prop where
 args:(QaG n).length≤1000
 more:(Qfq n).length≤1000
 br:(nBr n).length≤1000
 bs:∀ b∈nBr n,b.1.length≤1073741824
def kids (n:Qaf):List Int:=if nOp n=9 then (nBr n).map (·.2) else if QvF (nOp n)=true then [QGy n] else []
def binds (n:Qaf):List Int:=if nOp n=9 then (nBr n).flatMap (·.1) else if Qkf (nOp n)=true then [nVar n] else []
def uses (n:Qaf):List Int:=if nOp n<0∨10≤nOp n∨nOp n=1 then [] else if nOp n=8 then (QaG n++Qfq n).filter (fun v=>decide (0≤v)) else QaG n
def QfF (n:Qaf):Bool:=decide (0≤nOp n∧nOp n<10)&&(decide (fArgs (nOp n)<0)||decide (((QaG n).length:Int)=fArgs (nOp n)))&&(Qkf (nOp n)||decide (nVar n=0))&&(fCon (nOp n)||decide (nCon n=0))&&(fNum (nOp n)||decide (nNum n=0))&&(fFun (nOp n)||decide (nFun n=0))&&
 (decide (nOp n=8)||decide (((Qfq n).length:Int)=0))&&(decide (nOp n=9)||!Qfr n)&&(QvF (nOp n)||decide (QGy n=0))&&(decide (nOp n=9)||decide (((nBr n).length:Int)=0))
theorem QBZ (n:Qaf):QqX n=some (QfF n):=by
 rw [Qvy,Quh,Qaa]
 simp only [Qai,Qaa,Qaz,QaQ,Qeo,Qjy,fOf]
 unfold QfF
 simp only [Qak]
 grind
theorem QB0 (op:Int)(h:0≤op∧op<10):at' ([1,0,2,-1,1,1,-1,-1,-1,1]:List Int) op=some (fArgs op):=by
 rcases QlI h with rfl |rfl |rfl |rfl |rfl |rfl |rfl |rfl |rfl |rfl<;>rfl
theorem QB1 (n:Qaf):Qoa n=some (QfF n):=by
 rw [Qt3]
 simp only [Qai,Qaa,Qaz,QaQ,Qeo,Qjy,Qnh]
 by_cases h:0≤nOp n∧nOp n<10
 ·rw [show (decide (n.1<0)||decide (9<n.1))=false by rw [QaP (show ¬ nOp n<0 by omega),QaP (show ¬ 9<nOp n by omega)]; rfl,cond_false,QB0 n.1 h]
  simp only [Qaa,Qak]
  obtain ⟨op,var,args,con,num,fn,more,take,br,next⟩:=n
  unfold QfF
  simp only at h ⊢
  generalize hA:(args.length:Int)=na
  generalize hM:(more.length:Int)=nm
  generalize hB:(br.length:Int)=nb
  have hA':0≤na:=by omega
  have hM':0≤nm:=by omega
  have hB':0≤nb:=by omega
  clear hA hM hB
  rcases QlI h with rfl |rfl |rfl |rfl |rfl |rfl |rfl |rfl |rfl |rfl<;>simp [fArgs,Qkf,fCon,fNum,fFun,QvF]<;>grind
 ·rw [show (decide (n.1<0)||decide (9<n.1))=true by rw [Bool.or_eq_true,decide_eq_true_eq,decide_eq_true_eq]; show nOp n<0∨9<nOp n; omega,cond_true]
  unfold QfF
  rw [QaP h]
  simp
theorem Qrm {α β:Type}(f:α→List β):∀ (l:List α) (s:List β),l.foldl (fun s x=>s++f x) s=s++l.flatMap f
 | [],s=>by simp
 | x::l,s=>by rw [List.foldl_cons,Qrm f l]; simp
theorem QlJ {α β:Type}(f:α→β):∀ (l:List α) (s:List β),l.foldl (fun s x=>s++[f x]) s=s++l.map f
 | [],s=>by simp
 | x::l,s=>by rw [List.foldl_cons,QlJ f l]; simp
theorem foldl_filter {α:Type}(p:α→Bool):∀ (l s:List α),l.foldl (fun s x=>if p x=true then s++[x] else s) s=s++l.filter p
 | [],s=>by simp
 | x::l,s=>by
  rw [List.foldl_cons,foldl_filter p l,List.filter_cons]
  split<;>simp
theorem Qoq {α:Type}(b:Bool)(s:List α)(x:α):(if b=true then s++[x] else s).length≤s.length+1:=by
 cases b<;>simp
theorem Qzw (l:List Qcq)(hl:l.length≤1000000):Qf5 [] l (l.length:Int) 0=some (l.map (·.2)):=by
 have:=QaM (L:=fun s i=>Qf5 s l (l.length:Int) i) (l:=l) (F:=fun s x=>s++[x.2]) (E:=id) (fun i s=>s.length≤i)
  (fun s i x hx hI=>⟨by
   have:=Qa7 hx
   rw [Qk9,Qal hx,cond_true,Qag hx,Qaa,Qac (by omega),Qam hx (by omega)],by simp; omega⟩)
  (fun s hI=>by rw [Qk9,Qar,cond_false]; rfl) [] (by simp)
 rw [this,QlJ]; rfl
theorem Qxe (l:List Qcq)(hl:l.length≤1000)(hb:∀ b∈l,b.1.length≤1073741824):Qfd [] l (l.length:Int) 0=some (l.flatMap (·.1)):=by
 have:=QaM (L:=fun s i=>Qfd s l (l.length:Int) i) (l:=l) (F:=fun s x=>s++x.1) (E:=id) (fun i s=>s.length≤i * 1073741824)
  (fun s i x hx hI=>⟨by
   have:=Qa7 hx
   have:=hb x (List.mem_of_getElem? hx)
   rw [Qj9,Qal hx,cond_true,Qag hx,Qaa,Qac (by omega),Qam hx (by omega)],by
   have:=hb x (List.mem_of_getElem? hx)
   simp; omega⟩)
  (fun s hI=>by rw [Qj9,Qar,cond_false]; rfl) [] (by simp)
 rw [this,Qrm]; rfl
theorem Qzx (l:List Int)(hl:l.length≤1000000):QeJ [] l (l.length:Int) 0=some (l.filter (fun v=>decide (0≤v))):=by
 have:=QaM (L:=fun s i=>QeJ s l (l.length:Int) i) (l:=l) (F:=fun s x=>if decide (0≤x)=true then s++[x] else s) (E:=id) (fun i s=>s.length≤i)
  (fun s i x hx hI=>⟨by
   have:=Qa7 hx
   rw [Qk8,Qal hx,cond_true,Qag hx,Qaa,Qam hx (by omega)]
   by_cases h:x<0
   ·rw [Qac h,if_neg (by simp; omega)]
   ·rw [Qab h,Qac (by omega),if_pos (by simp; omega)],Nat.le_trans (Qoq _ _ _) (by have:=hI; omega)⟩)
  (fun s hI=>by rw [Qk8,Qar,cond_false]; rfl) [] (by simp)
 rw [this,foldl_filter]; rfl
theorem Qjb (n:Qaf)(h:QbN n):Qf4 n=some (kids n):=by
 rw [QvA,Quh,Qaa]
 simp only [fOf,Qaa,Qaz,QqU]
 have hb:=h.br
 unfold kids
 by_cases h9:nOp n=9
 ·rw [if_pos h9,Qac h9,show QvF n.1=false by rw [show n.1=9 from h9]; rfl,cond_false,Qzw (nBr n) (by omega)]
  rfl
 ·rw [if_neg h9,Qab h9]
  cases QvF (nOp n)<;>rfl
theorem QgL (n:Qaf)(h:QbN n):QeI n=some (binds n):=by
 rw [Qt7,Quh,Qaa]
 simp only [fOf,Qaa,Qaz,QqU]
 have hb:=h.br
 unfold binds
 by_cases h9:nOp n=9
 ·rw [if_pos h9,Qac h9,show Qkf n.1=false by rw [show n.1=9 from h9]; rfl,cond_false,Qxe (nBr n) (by omega) h.bs]
  rfl
 ·rw [if_neg h9,Qab h9]
  cases Qkf (nOp n)<;>rfl
theorem QB2 (n:Qaf)(h:QbN n):QqY n=some (uses n):=by
 rw [Qvz,Quh,Qaa]
 simp only [fOf,Qaa,Qaz,QqU]
 have ha:n.2.2.1.length≤1000:=h.args
 have hm:n.2.2.2.2.2.2.1.length≤1000:=h.more
 unfold uses
 by_cases hr:0≤nOp n∧nOp n<10
 ·rw [QbE hr,cond_true]
  by_cases hn:nOp n=1
  ·rw [if_pos (by omega)]
   exact Qac (p:=(fOf n.1).1=0) (by show fArgs (nOp n)=0; rw [hn]; rfl) _ _
  ·rw [if_neg (by omega)]
   refine (Qab (p:=(fOf n.1).1=0) (by show ¬ fArgs (nOp n)=0; unfold fArgs; repeat' split; all_goals omega) _ _).trans ?_
   by_cases h8:nOp n=8
   ·rw [if_pos h8,Qac h8,Qac (by omega),Qac (by omega),Qzx _ (by simp; omega)]
    rfl
   ·rw [if_neg h8,Qab h8,Qac (by omega)]
 ·rw [QaP hr,cond_false,if_pos (by omega)]
  rfl
theorem QFl (n:Qaf)(hl:(nBr n).length≤1000000):Qfc [] n 0=some ((nBr n).map (·.2)):=by
 have:=QaM (L:=fun s i=>Qfc s n i) (l:=nBr n) (F:=fun s x=>s++[x.2]) (E:=id) (fun i s=>s.length≤i)
  (fun s i x hx hI=>⟨by
   have:=Qa7 hx
   rw [Qj7,Qal hx,cond_true,Qag hx,Qaa,Qac (by omega),Qam hx (by omega)],by simp; omega⟩)
  (fun s hI=>by rw [Qj7,Qar,cond_false]; rfl) [] (by simp)
 rw [this,QlJ]; rfl
theorem QDJ (n:Qaf)(hl:(nBr n).length≤1000)(hb:∀ b∈nBr n,b.1.length≤1073741824):Qec [] n 0=some ((nBr n).flatMap (·.1)):=by
 have:=QaM (L:=fun s i=>Qec s n i) (l:=nBr n) (F:=fun s x=>s++x.1) (E:=id) (fun i s=>s.length≤i * 1073741824)
  (fun s i x hx hI=>⟨by
   have:=Qa7 hx
   have:=hb x (List.mem_of_getElem? hx)
   rw [Qi1,Qal hx,cond_true,Qag hx,Qaa,Qac (by omega),Qam hx (by omega)],by
   have:=hb x (List.mem_of_getElem? hx)
   simp; omega⟩)
  (fun s hI=>by rw [Qi1,Qar,cond_false]; rfl) [] (by simp)
 rw [this,Qrm]; rfl
theorem QsO (n:Qaf)(h:QbN n):QdK n=some (kids n):=by
 rw [Qt5]
 have hb:=h.br
 unfold kids QvF
 by_cases h9:nOp n=9
 ·have h9':n.1=9:=h9
  rw [if_pos h9,Qab (by omega),Qab (by omega),Qab (by omega),Qab (by omega),Qab (by omega),Qab (by omega),Qac h9,QFl n (by omega)]
  rfl
 ·rw [if_neg h9]
  simp only [Qak,decide_eq_true_eq]
  grind
theorem Qui (n:Qaf)(h:QbN n):Qex n=some (binds n):=by
 rw [QrU]
 have hb:=h.br
 unfold binds Qkf
 by_cases h9:nOp n=9
 ·have h9':n.1=9:=h9
  rw [if_pos h9,Qab (by omega),Qab (by omega),Qab (by omega),Qab (by omega),Qab (by omega),Qac h9,QDJ n (by omega) h.bs]
  rfl
 ·rw [if_neg h9]
  simp only [Qak,decide_eq_true_eq]
  grind
theorem QFm (n:Qaf)(hl:(QaG n).length≤1000000):QdJ [] n 0=some (if nOp n=8 then (QaG n).filter (fun v=>decide (0≤v)) else QaG n):=by
 have:=QaM (L:=fun s i=>QdJ s n i) (l:=QaG n) (F:=fun s x=>if (decide (nOp n≠8)||decide (0≤x))=true then s++[x] else s) (E:=id) (fun i s=>s.length≤i)
  (fun s i x hx hI=>⟨by
   have:=Qa7 hx
   rw [Qj5,Qal hx,cond_true,Qag hx,Qaa]
   simp only [Qaa,Qaz]
   rw [Qac (show (s.length+1) * 8≤35184372088832 by omega),Qam hx (by omega)]
   by_cases h8:nOp n=8
   ·rw [Qac h8]
    by_cases h:x<0
    ·rw [QbE h,if_neg (by simp [h8]; omega)]; rfl
    ·rw [QaP h,if_pos (by simp; omega)]; rfl
   ·rw [Qab h8,if_pos (by simp [h8])]; rfl,Nat.le_trans (Qoq _ _ _) (by have:=hI; omega)⟩)
  (fun s hI=>by rw [Qj5,Qar,cond_false]; rfl) [] (by simp)
 rw [this,foldl_filter]
 by_cases h8:nOp n=8
 ·simp [h8]
 ·simp [h8]
theorem QFn (n:Qaf)(s:List Int)(hs:s.length≤1000000)(hl:(Qfq n).length≤1000000):QdL s n 0=some (s++(Qfq n).filter (fun v=>decide (0≤v))):=by
 have:=QaM (L:=fun s i=>QdL s n i) (l:=Qfq n) (F:=fun s x=>if decide (0≤x)=true then s++[x] else s) (E:=id) (fun i s=>s.length≤i+1000000)
  (fun s i x hx hI=>⟨by
   have:=Qa7 hx
   rw [Qj6,Qal hx,cond_true,Qag hx,Qaa,Qam hx (by omega)]
   by_cases h:x<0
   ·rw [Qac h,if_neg (by simp; omega)]
   ·rw [Qab h,Qac (by omega),if_pos (by simp; omega)],Nat.le_trans (Qoq _ _ _) (by have:=hI; omega)⟩)
  (fun s hI=>by rw [Qj6,Qar,cond_false]; rfl) s (by omega)
 rw [this,foldl_filter]
 rfl
theorem QGz (n:Qaf)(h:QbN n):Qob n=some (uses n):=by
 rw [Qt4]
 simp only [Qaa,Qaz,Qai,QaQ]
 have ha:(QaG n).length≤1000:=h.args
 have hm:(Qfq n).length≤1000:=h.more
 unfold uses
 by_cases hr:nOp n<0∨10≤nOp n∨nOp n=1
 ·rw [if_pos hr,Qnf (by simp only [Bool.or_eq_true,decide_eq_true_eq]; show (nOp n<0∨9<nOp n)∨nOp n=1; omega)]
 ·rw [if_neg hr,Qdd (by simp only [Bool.or_eq_false_iff,decide_eq_false_iff_not]; show (¬ nOp n<0∧¬ 9<nOp n)∧¬ nOp n=1; omega),QFm n (by omega),Qaa]
  by_cases h8:nOp n=8
  ·rw [if_pos h8,if_pos h8,Qac h8,QFn n _ (by have:=List.length_filter_le (fun v=>decide (0≤v)) (QaG n); omega) (by omega),Qaa,Qaa,List.filter_append]
  ·rw [if_neg h8,if_neg h8,Qab h8]
end Go.Proofs.YtkecfadnfnnfaaaGreatDoor.LabB
namespace Go.Proofs.YtkecfadnfnnfaaaGreatDoor.LabB
open Go Go.Ev Go.Sy
def cUp (v:Int):Bool:=decide (65≤v∧v≤90)
def cLo (v:Int):Bool:=decide (97≤v∧v≤122)
def cDi (v:Int):Bool:=decide (48≤v∧v≤57)
def cCh (v:Int):Bool:=cLo v||cUp v||cDi v||decide (v=95)
abbrev tI (b:UInt8):Int:=(b.toNat:Int)
def word (s:List UInt8)(lo hi:Int):Bool:=match s with
 | []=>false
 | b::r=>decide (r.length<32)&&decide (lo≤tI b∧tI b≤hi)&&(b::r).all (fun c=>cCh (tI c))
theorem Qxf (v:Int):Qk5 v=some (cCh v):=by
 rw [Qra]
 simp only [Qai,Qaa,Qaz,QaQ,Qf2,Qjy,Qnh]
 unfold cCh cLo cUp cDi
 congr 1
 rw [Bool.eq_iff_iff]
 simp
 omega
theorem QB3 (s:List UInt8)(hs:s.length≤9223372036854775807):Qfa s 0=some (if s.all (fun c=>cCh (tI c))=true then .inl () else .inr ()):=by
 refine QaF (L:=fun i=>Qfa s i) (p:=fun c=>cCh (tI c)) (fun i x hx=>?_) ?_
 ·rw [Qj3,Qal hx,cond_true,QqV _ hx,Qaa,Qxf,Qaa,Qam hx hs,Qak]
 ·rw [Qj3,Qar,cond_false]
theorem Qrn (s:List UInt8)(hs:s.length≤9223372036854775807)(lo hi:Int):QiO s lo hi=some (word s lo hi):=by
 rw [Qt2,QB3 s hs]
 simp only [Qai,Qaa,Qaz,QaQ]
 cases s with
 | nil=>rfl
 | cons b r=>
  rw [show ((0:Int))=((0:Nat):Int) from rfl,QqV (i:=0) (x:=b) _ rfl]
  simp only [Qaa]
  unfold word
  simp only [List.length_cons,Qak]
  have:(((r.length+1:Nat):Int)<1)=False:=by simp; omega
  grind
theorem QGA:∀ b:UInt8,([97,98,99,100,101,102,103,104,105,106,107,108,109,110,111,112,113,114,115,116,117,118,119,120,121,122,65,66,67,68,69,70,71,72,73,74,75,76,77,78,79,80,81,82,83,84,85,86,87,88,89,90,48,49,50,51,52,53,54,55,56,57,95]:List UInt8).contains b=cCh (tI b):=by
 have h:∀ n:Fin 256,([97,98,99,100,101,102,103,104,105,106,107,108,109,110,111,112,113,114,115,116,117,118,119,120,121,122,65,66,67,68,69,70,71,72,73,74,75,76,77,78,79,80,81,82,83,84,85,86,87,88,89,90,48,49,50,51,52,53,54,55,56,57,95]:List UInt8).contains (UInt8.ofNat n.val)=cCh (tI (UInt8.ofNat n.val)):=by decide +kernel
 intro b
 have:=h ⟨b.toNat,b.toNat_lt⟩
 simpa using this
theorem dropWhile_nil {α:Type}(p:α→Bool):∀ l:List α,l.dropWhile p=[]↔l.all p=true
 | []=>by simp
 | x::l=>by
  rw [List.dropWhile_cons,List.all_cons]
  cases h:p x with
  | true=>simp only [if_true,Bool.true_and]; exact dropWhile_nil p l
  | false=>simp
theorem QEl {α:Type}(p:α→Bool){x:α}:∀ l:List α,x∈l.takeWhile p→p x=true
 | [],h=>by simp at h
 | y::l,h=>by
  rw [List.takeWhile_cons] at h
  split at h
  ·rename_i hy
   rcases List.mem_cons.1 h with rfl |h
   ·exact hy
   ·exact QEl p l h
  ·simp at h
theorem QDK (p:UInt8→Bool)(s:List UInt8):(s.reverse.dropWhile p).reverse.dropWhile p=[]↔s.all p=true:=by
 constructor
 ·intro h
  have h1:=(dropWhile_nil p _).1 h
  rw [List.all_eq_true] at h1 ⊢
  intro x hx
  by_cases hp:p x=true
  ·exact hp
  ·have hm:x∈s.reverse:=by simpa using hx
   have:x∈s.reverse.takeWhile p++s.reverse.dropWhile p:=by rw [List.takeWhile_append_dropWhile]; exact hm
   rw [List.mem_append] at this
   rcases this with h3 |h3
   ·exact absurd (QEl p _ h3) hp
   ·exact h1 x (by simpa using h3)
 ·intro h
  have:s.reverse.dropWhile p=[]:=(dropWhile_nil p _).2 (by rw [List.all_eq_true] at h ⊢; intro x hx; exact h x (by simpa using hx))
  rw [this]
  rfl
theorem Qo1 (s:List UInt8)(hs:s.length<4294967281)(lo hi:Int):QhK s lo hi=some (word s lo hi):=by
 rw [Qq4,Qrk]
 simp only [Qai,Qaa,Qaz,QaQ]
 cases s with
 | nil=>rfl
 | cons b r=>
  rw [show ((0:Int))=((0:Nat):Int) from rfl,QqV (i:=0) (x:=b) _ rfl]
  simp only [Qaa]
  rw [show Qw6 (b::r) [97,98,99,100,101,102,103,104,105,106,107,108,109,110,111,112,113,114,115,116,117,118,119,120,121,122,65,66,67,68,69,70,71,72,73,74,75,76,77,78,79,80,81,82,83,84,85,86,87,88,89,90,48,49,50,51,52,53,54,55,56,57,95]=some (((b::r).reverse.dropWhile (fun c=>cCh (tI c))).reverse.dropWhile (fun c=>cCh (tI c))) by
   unfold Qw6
   rw [show Nat.blt (b::r).length 4294967281=true from by rw [Nat.blt_eq]; exact hs]
   rw [show (fun c=>cCh (tI c))=List.contains ([97,98,99,100,101,102,103,104,105,106,107,108,109,110,111,112,113,114,115,116,117,118,119,120,121,122,65,66,67,68,69,70,71,72,73,74,75,76,77,78,79,80,81,82,83,84,85,86,87,88,89,90,48,49,50,51,52,53,54,55,56,57,95]:List UInt8) from funext fun c=>(QGA c).symm]
   rfl]
  simp only [Qaa,QDK]
  unfold word
  simp only [List.length_cons,Qak]
  have:(((r.length+1:Nat):Int)=0)=False:=by simp; omega
  grind
def QvG (s:List UInt8):Bool:=word (cut1 s 46).1 97 122&&(!(cut1 s 46).2.2||word (cut1 s 46).2.1 97 122)
theorem QFo (s:List UInt8)(c:UInt8):(cut1 s c).1.length≤s.length∧(cut1 s c).2.1.length≤s.length:=by
 unfold cut1
 split
 ·simp
 ·rename_i x r h
  have h1:(s.takeWhile (· != c)).length+(s.dropWhile (· != c)).length=s.length:=by rw [← List.length_append,List.takeWhile_append_dropWhile]
  rw [h] at h1
  simp only [List.length_cons] at h1
  simp only
  omega
theorem QB4 (s:List UInt8)(hs:s.length<4294967281):QqW s=some (QvG s):=by
 have:=QFo s 46
 rw [Qvx,Qr2]
 rw [show cutM s [46]=some (cut1 s 46) by unfold cutM; rw [show Nat.blt s.length 4294967281=true by rw [Nat.blt_eq]; exact hs]]
 rw [Qaa]
 unfold QvG
 rcases hc:cut1 s 46 with ⟨a,b,t⟩
 rw [hc] at this
 simp only
 rw [Qo1 a (by simp only at this; omega),Qo1 b (by simp only at this; omega)]
 simp only [Qaa,Qaz,Qjy,Qak]
 cases word a 97 122<;>cases t<;>rfl
theorem QB5 (b:UInt8)(r:List UInt8)(c:UInt8):cut1 (b::r) c=if b=c then ([],r,true) else (b::(cut1 r c).1,(cut1 r c).2.1,(cut1 r c).2.2):=by
 by_cases h:b=c
 ·subst h
  simp [cut1]
 ·rw [if_neg h]
  unfold cut1
  have h2:(b != c)=true:=by simpa using h
  rw [List.dropWhile_cons,if_pos h2,List.takeWhile_cons,if_pos h2]
  cases hd:r.dropWhile (· != c) with
  | nil=>rfl
  | cons x l=>rfl
theorem Qzy (s:List UInt8)(hs:s.length≤1000000000):∀ (r pre:List UInt8),s=pre++r→Qe8 s (pre.length:Int)=some (if (cut1 r 46).2.2=true then .inr (word (pre++(cut1 r 46).1) 97 122&&word (cut1 r 46).2.1 97 122) else .inl ()):=by
 intro r
 induction r with
 | nil=>
  intro pre h
  subst h
  rw [Qj2,Qd5,cond_false]
  rfl
 | cons b r ih=>
  intro pre h
  have hl:s.length=pre.length+(r.length+1):=by rw [h]; simp
  have hx:s[pre.length]?=some b:=by rw [h,List.getElem?_append_right (Nat.le_refl _)]; simp
  rw [Qj2,Qal hx,cond_true,QqV _ hx,Qaa,QB5,Qam hx (by omega)]
  by_cases hb:b=46
  ·subst hb
   rw [if_pos rfl,Qac (by rfl),Qab (by omega),Qab (by omega)]
   simp only [Nat.sub_zero,List.drop_zero,Int.toNat_natCast]
   have e1:List.take pre.length s=pre:=by rw [h]; simp
   have e2:List.take (s.length - (pre.length+1)) (List.drop (pre.length+1) s)=r:=by
    have e3:List.drop (pre.length+1) s=r:=by
     rw [show s=(pre++[46])++r by rw [h]; simp,show pre.length+1=(pre++[46]).length by simp,List.drop_left]
    rw [e3]
    exact List.take_of_length_le (by omega)
   rw [e1,e2,Qrn pre (by omega),Qrn r (by omega),Qab (by omega),Qab (by omega)]
   simp only [Qaa,List.append_nil,if_true]
   cases word pre 97 122<;>rfl
  ·have:¬ (tI b=46):=by
    intro h3
    apply hb
    have h4:b.toNat=46:=by have h5:(b.toNat:Int)=46:=h3; omega
    exact UInt8.toNat_inj.1 (by rw [h4]; rfl)
   rw [if_neg hb,Qab this]
   rw [show ((pre.length+1:Nat):Int)=((pre++[b]).length:Int) by simp,ih (pre++[b]) (by rw [h]; simp)]
   simp
theorem QFp (r:List UInt8)(c:UInt8)(h:(cut1 r c).2.2=false):cut1 r c=(r,[],false):=by
 unfold cut1 at h ⊢
 split at h
 ·rfl
 ·cases h
theorem Qzz (s:List UInt8)(hs:s.length≤1000000000):Qn9 s=some (QvG s):=by
 rw [Qt1,show Qe8 s 0=_ from Qzy s hs s [] rfl,Qaa]
 unfold QvG
 cases h:(cut1 s 46).2.2 with
 | true=>simp
 | false=>
  rw [QFp s 46 h]
  simp only [Bool.false_eq_true,if_false]
  rw [Qrn s (by omega)]
  simp [Qaa]
def Qkv (s:List UInt8):Bool:=word s 65 90
theorem bif3 {α:Type}(a b:Bool)(x y:α):(bif a then x else bif b then x else y)=bif (a||b) then x else y:=by cases a<;>rfl
theorem QzA (s:List UInt8)(hs:s.length≤1000000000):QcG s (s.length:Int) 0=some (if s.all (fun c=>cCh (tI c))=true then .inr () else .inl ()):=by
 refine QaF (L:=fun i=>QcG s (s.length:Int) i) (p:=fun c=>cCh (tI c)) (fun i x hx=>?_) ?_
 ·rw [Qj1,Qal hx,cond_true,QqV _ hx,Qaa,Qam hx (by omega)]
  simp only [Qai,Qaa,Qaz,QaQ,Qf2,Qnh,bif3]
  rw [Qak]
  rw [show (!decide ((x.toNat:Int)<97)&&!decide (122<(x.toNat:Int))||(!decide ((x.toNat:Int)<65)&&!decide (90<(x.toNat:Int))||(!decide ((x.toNat:Int)<48)&&!decide (57<(x.toNat:Int))||decide ((x.toNat:Int)=95))))=cCh (tI x) by
   unfold cCh cLo cUp cDi
   rw [Bool.eq_iff_iff]
   simp only [Bool.or_eq_true,Bool.and_eq_true,Bool.not_eq_true',decide_eq_true_eq,decide_eq_false_iff_not,tI]
   omega]
 ·rw [Qj1,Qar,cond_false]
theorem QsP (s:List UInt8)(hs:s.length≤1000000000):QlG s=some (Qkv s):=by
 rw [Qt0,QzA s hs]
 simp only [Qai,Qaa,Qaz,QaQ]
 cases s with
 | nil=>rfl
 | cons b r=>
  rw [show ((0:Int))=((0:Nat):Int) from rfl,QqV (i:=0) (x:=b) _ rfl]
  simp only [Qaa]
  unfold Qkv word
  simp only [List.length_cons,Qak]
  grind
theorem Qxg (s:List UInt8)(hs:s.length≤1000000000):QbX s 0=some (if allI (fun i c=>cUp (tI c)||(decide (i≠0)&&cCh (tI c))) 0 s=true then .inr () else .inl ()):=by
 refine Qg6 (L:=fun i=>QbX s i) (p:=fun i c=>cUp (tI c)||(decide (i≠0)&&cCh (tI c))) (fun i x hx=>?_) ?_
 ·rw [QhS,Qal hx,cond_true,QqV _ hx,Qaa,Qam hx (by omega)]
  simp only [Qai,Qaa,Qaz,QaQ,Qf2,Qnh,Qym]
  have e1:(!decide ((x.toNat:Int)<65)&&!decide (90<(x.toNat:Int)))=cUp (tI x):=by
   unfold cUp
   rw [Bool.eq_iff_iff]
   simp only [Bool.or_eq_true,Bool.and_eq_true,Bool.not_eq_true',decide_eq_true_eq,decide_eq_false_iff_not,tI]
   omega
  have e2:(!decide ((x.toNat:Int)<97)&&!decide (122<(x.toNat:Int))||(cUp (tI x)||(!decide ((x.toNat:Int)<48)&&!decide (57<(x.toNat:Int))||decide ((x.toNat:Int)=95))))=cCh (tI x):=by
   unfold cCh cLo cUp cDi
   rw [Bool.eq_iff_iff]
   simp only [Bool.or_eq_true,Bool.and_eq_true,Bool.not_eq_true',decide_eq_true_eq,decide_eq_false_iff_not,tI]
   omega
  rw [e1]
  rw [← e2]
  cases cUp (tI x) with
  | true=>rfl
  | false=>
   by_cases hi:i=0
   ·subst hi
    rfl
   ·rw [QaP (show ¬ ((i:Int)=0) by omega),QbE (show i≠0 from hi)]
    by_cases h97:(x.toNat:Int)<97
    ·rw [QbE h97]
     simp [Qak]
    ·rw [QaP h97]
     simp [Qak]
     grind
 ·rw [QhS,Qar,cond_false]
theorem Qyp (p q:UInt8→Bool)(h:∀ c,q c=(p c||q c)):∀ (l:List UInt8) (i:Nat),allI (fun i c=>p c||(decide (i≠0)&&q c)) (i+1) l=l.all q
 | [],i=>rfl
 | x::l,i=>by
  rw [allI,Qyp p q h l (i+1),List.all_cons]
  congr 1
  rw [h x]
  simp
theorem Qro (s:List UInt8)(hs:s.length≤1000000000):QhJ s=some (Qkv s):=by
 rw [Qq3,Qxg s hs]
 simp only [Qai,Qaa,Qaz,QaQ]
 cases s with
 | nil=>rfl
 | cons b r=>
  unfold Qkv word
  rw [allI,Qyp (fun c=>cUp (tI c)) (fun c=>cCh (tI c)) (fun c=>by unfold cCh; cases cUp (tI c)<;>simp)]
  simp only [List.all_cons]
  simp only [List.length_cons,Qak]
  have:cUp (tI b)=true→cCh (tI b)=true:=fun h=>by unfold cCh; rw [h]; simp
  have e:cUp (tI b)=decide (65≤tI b∧tI b≤90):=rfl
  rw [← e]
  generalize (r.all fun c=>cCh (tI c))=A
  generalize cCh (tI b)=B at *
  generalize cUp (tI b)=U at *
  cases U with
  | false=>simp
  | true=>
   rw [this rfl]
   cases A with
   | false=>simp
   | true=>
    simp
    by_cases h:r.length<32
    ·simp [h]; omega
    ·simp [h]; omega
end Go.Proofs.YtkecfadnfnnfaaaGreatDoor.LabB
namespace Go.Proofs.YtkecfadnfnnfaaaGreatDoor.LabB
open Go Go.Ev Go.Sy
structure Qbo (d:List Qah):Prop where
 len:d.length≤1000
 names:∀ x∈d,x.1.length≤1000000000
 cons:∀ x∈d,x.2.length≤1000000
 QEm:∀ x∈d,∀ c∈x.2,c.1.length≤1000000000
 fields:∀ x∈d,∀ c∈x.2,c.2.length≤1000000000000
def isTy (d:List Qah)(t:Int):Bool:=decide (0≤t∧t≤(d.length:Int))
def QdW (d:List Qah)(t:Int):List GCon:=if t<1 then [] else match d[(t - 1).toNat]? with |some x=>x.2 |none=>[]
def flat (d:List Qah)(t:Int):Bool:=isTy d t&&(QdW d t).all fun c=>decide (c.2.length=0)
theorem Qo2 (d:List Qah)(t:Int):QhM d t=some (isTy d t):=by
 rw [Qrb]
 simp only [Qai,Qaa,Qf2]
 congr 1
 unfold isTy
 rw [Bool.eq_iff_iff]
 simp only [Bool.and_eq_true,Bool.not_eq_true',decide_eq_true_eq,decide_eq_false_iff_not]
 omega
theorem Qrp (d:List Qah)(t:Int):QhL d t=some (isTy d t):=by
 rw [Qq9]
 simp only [Qai,Qaa,Qf2]
 congr 1
 unfold isTy
 rw [Bool.eq_iff_iff]
 simp only [Bool.and_eq_true,Bool.not_eq_true',decide_eq_true_eq,decide_eq_false_iff_not]
 omega
theorem Qo3 (p:Qae)(t:Int):Qds p t=some (isTy p.1 t):=by
 rw [Qq8]
 simp only [Qai,Qaa,Qf2]
 congr 1
 unfold isTy
 rw [Bool.eq_iff_iff]
 simp only [Bool.and_eq_true,Bool.not_eq_true',decide_eq_true_eq,decide_eq_false_iff_not]
 omega
theorem Qhl {t:Int}(h0:0≤t)(h1:t≤9223372036854775807):Ev.wr .i64 (t - 1)=t - 1:=Qne (by omega) (by omega)
theorem QB6 (d:List Qah)(hl:d.length≤1000)(t:Int)(h:isTy d t=true):Qoe d t=some (QdW d t):=by
 unfold isTy at h
 rw [decide_eq_true_eq] at h
 rw [Qua]
 simp only [Qai,Qaa,QaQ]
 unfold QdW
 by_cases h1:t<1
 ·rw [QbE h1,if_pos h1]; rfl
 ·rw [QaP h1,if_neg h1,QaP (show ¬ (d.length:Int)<t by omega),Qhl (by omega) (by omega)]
  obtain ⟨x,hx,hx'⟩:=Qfp (l:=d) (i:=t - 1) (by omega) (by omega)
  rw [hx,hx']
  rfl
def idxR (o:Option Nat):Int:=match o with |some j=>(j:Int) |none => -1
theorem QDL (o:Option Nat):(!decide (idxR o<0))=o.isSome:=by
 cases o with
 | none=>rfl
 | some j=>show (!decide ((j:Int)<0))=true; rw [QaP (by omega)]; rfl
theorem any7 (l:List GCon)(hl:l.length≤1000000):Qc9 l=some (l.any fun c=>decide (0<(c.2.length:Int))):=by
 rw [Qiv,Qkq]
 rw [Qdk (L:=fun i=>Qcd l (l.length:Int) i) (l:=l) (p:=fun c=>decide (0<(c.2.length:Int))) (A:=fun j=>.inr (j:Int)) (B:=.inl ()) (fun i x hx=>by
  rw [Qel,Qal hx,cond_true,Qag hx,Qaa,Qre,Qaa,Qam hx (by omega),Qak]) (by rw [Qel,Qar,cond_false])]
 rw [← Qcg _ l 0]
 cases QiM _ 0 l with
 | none=>rfl
 | some j=>simp only [Qaa]; rw [QaP (by omega)]; rfl
theorem QzB (d:List Qah)(h:Qbo d)(t:Int):(QdW d t).length≤1000000:=by
 unfold QdW
 split
 ·simp
 ·split
  ·rename_i x hx
   exact h.cons x (List.mem_of_getElem? hx)
  ·simp
theorem Qnp (d:List Qah)(h:Qbo d)(t:Int):QgI d t=some (flat d t):=by
 rw [Qt9,Qo2,Qaa]
 unfold flat
 cases ht:isTy d t with
 | false=>rfl
 | true=>
  rw [QB6 d h.len t ht]
  simp only [cond_true,Qaa,Bool.true_and]
  rw [any7 _ (QzB d h t)]
  simp only [Qaa]
  congr 1
  rw [List.not_any_eq_all_not]
  congr 1
  funext c
  rw [Bool.eq_iff_iff]
  simp only [Bool.not_eq_true',decide_eq_true_eq,decide_eq_false_iff_not]
  omega
theorem Qjc (d:List Qah)(h:Qbo d)(t:Int):QfM d t=some (flat d t):=by
 rw [Qt6,Qrp,Qaa]
 have hl:=h.len
 unfold flat
 by_cases h0:t=0
 ·rw [Qac h0]
  subst h0
  unfold isTy QdW
  rw [QbE (by omega),if_pos (by omega)]
  rfl
 ·rw [Qab h0]
  cases ht:isTy d t with
  | false=>rfl
  | true=>
   unfold isTy at ht
   rw [decide_eq_true_eq] at ht
   obtain ⟨x,hx,hx'⟩:=Qfp (l:=d) (i:=t - 1) (by omega) (by omega)
   have hc:=h.cons x (List.mem_of_getElem? hx')
   have:QdW d t=x.2:=by unfold QdW; rw [if_neg (by omega),hx']
   rw [cond_true,QaF (L:=fun i=>QgB d t i) (l:=x.2) (p:=fun c=>decide (c.2.length=0)) (A:=.inl ()) (B:=.inr ()) (fun i c hx2=>by
    rw [Qj8,Qhl (by omega) (by omega),hx,Qaa,Qal hx2,cond_true,Qag hx2,Qaa,Qam hx2 (by omega)]
    by_cases hz:c.2.length=0
    ·rw [Qab (by omega),if_pos (by simpa using hz)]
    ·rw [Qac (by omega),if_neg (by simpa using hz)]) (by rw [Qj8,Qhl (by omega) (by omega),hx,Qaa,Qar,cond_false]),this,Qaa,Bool.true_and]
   cases x.2.all _<;>rfl
def many (d:List Qah):Bool:=decide (64<(d.length:Int))||d.any fun x=>decide (16<(x.2.length:Int))||x.2.any fun c=>decide (6<(c.2.length:Int))
theorem any0 (l:List GCon)(hl:l.length≤1000000):QdX l=some (l.any fun c=>decide (6<(c.2.length:Int))):=by
 rw [QjE,QlM]
 rw [Qdk (L:=fun i=>Qcs l (l.length:Int) i) (l:=l) (p:=fun c=>decide (6<(c.2.length:Int))) (A:=fun j=>.inr (j:Int)) (B:=.inl ()) (fun i x hx=>by
  rw [Qfi,Qal hx,cond_true,Qag hx,Qaa,Qq7,Qaa,Qam hx (by omega),Qak]) (by rw [Qfi,Qar,cond_false])]
 rw [← Qcg _ l 0]
 cases QiM _ 0 l with
 | none=>rfl
 | some j=>simp only [Qaa]; rw [QaP (by omega)]; rfl
theorem QB7 (d:List Qah)(h:Qbo d):Qn7 d=some (many d):=by
 have hl:=h.len
 rw [QtY]
 unfold many
 by_cases h64:(64:Int)<(d.length:Int)
 ·rw [Qac h64,QbE h64]; rfl
 ·rw [Qab h64,QaP h64,QaF (L:=fun i=>Qgy d (d.length:Int) i) (l:=d) (p:=fun x=>!(decide (16<(x.2.length:Int))||x.2.any fun c=>decide (6<(c.2.length:Int)))) (A:=.inl ()) (B:=.inr ()) (fun i x hx=>by
   rw [QjY,Qal hx,cond_true,Qag hx,Qaa,any0 _ (h.cons x (List.mem_of_getElem? hx))]
   simp only [Qaa,Qai,QaQ]
   rw [Qam hx (by omega),Qak]
   cases (decide (16<(x.2.length:Int))||x.2.any fun c=>decide (6<(c.2.length:Int)))<;>rfl) (by rw [QjY,Qar,cond_false]),Qaa,Bool.false_or,← List.not_any_eq_all_not]
  cases d.any _<;>rfl
theorem QGB (d:List Qah)(h:Qbo d)(k:Nat)(x:Qah)(hx:d[k]?=some x):Qe7 d (k:Int) 0=some (if x.2.all (fun c=>!decide (6<(c.2.length:Int)))=true then .inr () else .inl ()):=by
 have hc:=h.cons x (List.mem_of_getElem? hx)
 refine QaF (L:=fun i=>Qe7 d (k:Int) i) (l:=x.2) (p:=fun c=>!decide (6<(c.2.length:Int))) (fun i c hx2=>?_) ?_
 ·rw [Qj0,Qag hx,Qaa,Qal hx2,cond_true,Qag hx2,Qaa,Qam hx2 (by omega),Qak]
  cases decide (6<(c.2.length:Int))<;>rfl
 ·rw [Qj0,Qag hx,Qaa,Qar,cond_false]
theorem QzC (d:List Qah)(h:Qbo d):Qn8 d=some (many d):=by
 have hl:=h.len
 rw [QtZ]
 unfold many
 by_cases h64:(64:Int)<(d.length:Int)
 ·rw [Qac h64,QbE h64]; rfl
 ·rw [Qab h64,QaP h64,QaF (L:=fun i=>Qgz d i) (l:=d) (p:=fun x=>!(decide (16<(x.2.length:Int))||x.2.any fun c=>decide (6<(c.2.length:Int)))) (A:=.inl ()) (B:=.inr ()) (fun i x hx=>by
   rw [QjZ,Qal hx,cond_true,Qag hx,Qaa,QGB d h i x hx,Qaa,Qam hx (by omega),← List.not_any_eq_all_not]
   cases decide (16<(x.2.length:Int))<;>cases (x.2.any fun c=>decide (6<(c.2.length:Int)))<;>rfl) (by rw [QjZ,Qar,cond_false]),Qaa,Bool.false_or,← List.not_any_eq_all_not]
  cases d.any _<;>rfl
def Qrq (d:List Qah):Bool:=d.all fun x=>Qkv x.1&&decide (x.2.length≠0)&&x.2.all fun c=>Qkv c.1
def Qxh:List Qah→Bool
 | []=>false
 | x::_=>decide (x.1=[66,111,111,108])&&match x.2 with
  | [a,b]=>decide (a.1=[70,97,108,115,101])&&decide (b.1=[84,114,117,101])&&decide (a.2.length=0)&&decide (b.2.length=0)
  | _=>false
def formed (d:List Qah):Bool:=Qxh d&&Qrq d
theorem any1 (d:List Qah)(h:Qbo d)(x:Qah)(hx:x∈d):Qc3 x.2=some (!x.2.all fun c=>Qkv c.1):=by
 have hl:=h.cons x hx
 rw [Qip,Qkj]
 rw [Qdk (L:=fun i=>Qb7 x.2 (x.2.length:Int) i) (l:=x.2) (p:=fun c=>!Qkv c.1) (A:=fun j=>.inr (j:Int)) (B:=.inl ()) (fun i c hc=>by
  rw [Qef,Qal hc,cond_true,Qag hc,Qaa,Qoj,QsP _ (h.QEm x hx c (List.mem_of_getElem? hc)),Qaa,Qaa,Qam hc (by omega),Qak]) (by rw [Qef,Qar,cond_false])]
 rw [List.not_all_eq_any_not,← Qcg _ x.2 0]
 cases QiM _ 0 x.2 with
 | none=>rfl
 | some j=>simp only [Qaa]; rw [QaP (by omega)]; rfl
theorem QFq (d:List Qah)(h:Qbo d):Qdm d (d.length:Int) 0=some (if Qrq d=true then .inl () else .inr ()):=by
 have hl:=h.len
 refine QaF (L:=fun i=>Qdm d (d.length:Int) i) (l:=d) (p:=fun x=>Qkv x.1&&decide (x.2.length≠0)&&x.2.all fun c=>Qkv c.1) (fun i x hx=>?_) ?_
 ·have hm:=List.mem_of_getElem? hx
  rw [QhO,Qal hx,cond_true,Qag hx,Qaa,QsP _ (h.names x hm),any1 d h x hm,Qam hx (by omega)]
  simp only [Qaa,Qai,QaQ]
  rw [show decide ((x.2.length:Int)=0)=!decide (x.2.length≠0) by rw [Bool.eq_iff_iff]; simp only [Bool.and_eq_true,Bool.not_eq_true',Bool.and_eq_false_iff,decide_eq_true_eq,decide_eq_false_iff_not]; omega]
  cases Qkv x.1<;>cases decide (x.2.length≠0)<;>cases (x.2.all fun c=>Qkv c.1)<;>rfl
 ·rw [QhO,Qar,cond_false]
theorem QB8 (d:List Qah)(h:Qbo d)(k:Nat)(x:Qah)(hx:d[k]?=some x):Qdo d (k:Int) 0=some (if x.2.all (fun c=>Qkv c.1)=true then .inr () else .inl ()):=by
 have hm:=List.mem_of_getElem? hx
 have hl:=h.cons x hm
 refine QaF (L:=fun i=>Qdo d (k:Int) i) (l:=x.2) (p:=fun c=>Qkv c.1) (fun i c hc=>?_) ?_
 ·rw [QhQ,Qag hx,Qaa,Qal hc,cond_true,Qag hc,Qaa,Qro _ (h.QEm x hm c (List.mem_of_getElem? hc)),Qaa,Qam hc (by omega),Qak]
 ·rw [QhQ,Qag hx,Qaa,Qar,cond_false]
theorem QDM (d:List Qah)(h:Qbo d):Qdn d 0=some (if Qrq d=true then .inl () else .inr ()):=by
 have hl:=h.len
 refine QaF (L:=fun i=>Qdn d i) (l:=d) (p:=fun x=>Qkv x.1&&decide (x.2.length≠0)&&x.2.all fun c=>Qkv c.1) (fun i x hx=>?_) ?_
 ·have hm:=List.mem_of_getElem? hx
  rw [QhP,Qal hx,cond_true,Qag hx]
  simp only [Qaa]
  rw [Qro _ (h.names x hm),QB8 d h i x hx,Qam hx (by omega)]
  simp only [Qaa,Qai,QaQ]
  rw [show decide ((x.2.length:Int)=0)=!decide (x.2.length≠0) by rw [Bool.eq_iff_iff]; simp only [Bool.and_eq_true,Bool.not_eq_true',Bool.and_eq_false_iff,decide_eq_true_eq,decide_eq_false_iff_not]; omega]
  cases Qkv x.1<;>cases decide (x.2.length≠0)<;>cases (x.2.all fun c=>Qkv c.1)<;>rfl
 ·rw [QhP,Qar,cond_false]
theorem at_0 {α:Type}(x:α)(r:List α):at' (x::r) 0=some x:=Qag (l:=x::r) (i:=0) rfl
theorem at_1 {α:Type}(x y:α)(r:List α):at' (x::y::r) 1=some y:=Qag (l:=x::y::r) (i:=1) rfl
theorem Qxi (d:List Qah)(h:Qbo d):Qk0 d=some (formed d):=by
 rw [Qq0,QFq d h]
 simp only [Qai,Qaa,Qaz,QaQ]
 unfold formed
 cases d with
 | nil=>rfl
 | cons x r=>
  rw [at_0]
  simp only [Qaa,List.length_cons,Qxh]
  rw [QaP (show ¬ (((r.length+1:Nat):Int)=0) by omega)]
  obtain ⟨nm,cs⟩:=x
  match cs with
  | []=>cases decide (nm=[66,111,111,108])<;>rfl
  | [a]=>cases decide (nm=[66,111,111,108])<;>rfl
  | a::b::c::cs=>
   have:decide ((((a::b::c::cs).length:Nat):Int)=2)=false:=QaP (by simp; omega)
   simp only [this]
   cases decide (nm=[66,111,111,108])<;>rfl
  | [a,b]=>
   have hf:a.2.length≤1000000000000:=h.fields (nm,[a,b]) (by simp) a (by simp)
   have hf2:b.2.length≤1000000000000:=h.fields (nm,[a,b]) (by simp) b (by simp)
   rw [at_0,at_1]
   simp only [Qaa,Qyl]
   rw [show ((a.2.length:Int)+(b.2.length:Int))=((a.2.length+b.2.length:Nat):Int) by omega,QEh (by omega)]
   rw [show decide (0<((a.2.length+b.2.length:Nat):Int))=!(decide (a.2.length=0)&&decide (b.2.length=0)) by rw [Bool.eq_iff_iff]; simp only [Bool.and_eq_true,Bool.not_eq_true',Bool.and_eq_false_iff,decide_eq_true_eq,decide_eq_false_iff_not]; omega]
   cases decide (nm=[66,111,111,108])<;>cases decide (a.1=[70,97,108,115,101])<;>cases decide (b.1=[84,114,117,101])<;>cases decide (a.2.length=0)<;>cases decide (b.2.length=0)<;>cases Qrq _<;>rfl
theorem QvH (d:List Qah)(h:Qbo d):Qk1 d=some (formed d):=by
 rw [Qq1,QDM d h]
 simp only [Qai,Qaa,Qaz,QaQ]
 unfold formed
 cases d with
 | nil=>rfl
 | cons x r=>
  rw [at_0]
  simp only [Qaa,List.length_cons,Qxh]
  rw [QaP (show ¬ (((r.length+1:Nat):Int)=0) by omega)]
  obtain ⟨nm,cs⟩:=x
  match cs with
  | []=>cases decide (nm=[66,111,111,108])<;>rfl
  | [a]=>cases decide (nm=[66,111,111,108])<;>rfl
  | a::b::c::cs=>
   have:decide ((((a::b::c::cs).length:Nat):Int)=2)=false:=QaP (by simp; omega)
   simp only [this]
   cases decide (nm=[66,111,111,108])<;>rfl
  | [a,b]=>
   rw [at_0,at_1]
   simp only [Qaa,Qyl]
   rw [show decide (0<((a.2.length:Nat):Int))=!decide (a.2.length=0) by rw [Bool.eq_iff_iff]; simp only [Bool.and_eq_true,Bool.not_eq_true',Bool.and_eq_false_iff,decide_eq_true_eq,decide_eq_false_iff_not]; omega]
   rw [show decide (0<((b.2.length:Nat):Int))=!decide (b.2.length=0) by rw [Bool.eq_iff_iff]; simp only [Bool.and_eq_true,Bool.not_eq_true',Bool.and_eq_false_iff,decide_eq_true_eq,decide_eq_false_iff_not]; omega]
   cases decide (nm=[66,111,111,108])<;>cases decide (a.1=[70,97,108,115,101])<;>cases decide (b.1=[84,114,117,101])<;>cases decide (a.2.length=0)<;>cases decide (b.2.length=0)<;>cases Qrq _<;>rfl
end Go.Proofs.YtkecfadnfnnfaaaGreatDoor.LabB
