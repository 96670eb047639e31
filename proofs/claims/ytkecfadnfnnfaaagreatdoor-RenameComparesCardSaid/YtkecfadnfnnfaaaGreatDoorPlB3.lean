/- Of the models: tables of types. -/
import Derived.Test.YtkecfadnfnnfaaaGreatDoorModB
import Derived.Test.YtkecfadnfnnfaaaGreatDoorSyW
set_option linter.unusedVariables false
set_option linter.unusedSimpArgs false
namespace Go.Proofs.YtkecfadnfnnfaaaGreatDoor.LabB
open Go Go.Ev Go.Sy
def fArgs (op:Int):Int:=if op=0∨op=4∨op=5∨op=9 then 1 else if op=2 then 2 else if op=3∨op=6∨op=7∨op=8 then -1 else 0
def Qd4 (op:Int):Bool:=decide (1≤op∧op≤6)
def Qbp (op:Int):Bool:=decide (1≤op∧op≤6∧op≠5)
def fCon (op:Int):Bool:=decide (op=3∨op=8)
def fNum (op:Int):Bool:=decide (op=1∨op=2∨op=8)
def fFun (op:Int):Bool:=decide (op=6∨op=7∨op=8)
def fOf (op:Int):QA9:=(fArgs op,Qbp op,fCon op,fNum op,fFun op,decide (op=8),decide (op=9),Qd4 op,decide (op=9))
theorem Qt5 {op:Int}(h:0≤op∧op<10):op=0∨op=1∨op=2∨op=3∨op=4∨op=5∨op=6∨op=7∨op=8∨op=9:=by omega
theorem QEN {op:Int}(h:¬ (0≤op∧op<10)):fOf op=(0,false,false,false,false,false,false,false,false):=by
 unfold fOf fArgs Qbp fCon fNum fFun Qd4
 rw [if_neg (by omega),if_neg (by omega),if_neg (by omega),QaD (by omega),QaD (by omega),QaD (by omega),QaD (by omega),QaD (by omega),QaD (by omega),QaD (by omega)]
theorem QxV (op:Int)(h:0≤op∧op<10):at' ([(1,(false,(false,(false,(false,(false,(false,(false,false)))))))),(0,(true,(false,(true,(false,(false,(false,(true,false)))))))),(2,(true,(false,(true,(false,(false,(false,(true,false)))))))),(-1,(true,(true,(false,(false,(false,(false,(true,false)))))))),(1,(true,(false,(false,(false,(false,(false,(true,false)))))))),(1,(false,(false,(false,(false,(false,(false,(true,false)))))))),(-1,(true,(false,(false,(true,(false,(false,(true,false)))))))),(-1,(false,(false,(false,(true,(false,(false,(false,false)))))))),(-1,(false,(true,(true,(true,(true,(false,(false,false)))))))),(1,(false,(false,(false,(false,(false,(true,(false,true))))))))]:List QA9) op=some (fOf op):=by
 rcases Qt5 h with rfl |rfl |rfl |rfl |rfl |rfl |rfl |rfl |rfl |rfl<;>rfl
theorem Qoi (op:Int):Qn9 op=some (fOf op,decide (0≤op∧op<10)):=by
 rw [QyY]
 simp only [Qaf,Qaa,Qar,QaG]
 by_cases h:0≤op∧op<10
 ·rw [QaD (show ¬ op<0 by omega),QaY h.2,QaY h]
  simp only [Bool.not_true,Bool.or_false,cond_false,Qnh,Qaa,QxV op h]
 ·rw [QaD h,QEN h]
  have:(decide (op<0)||!decide (op<10))=true:=by
   by_cases h0:op<0
   ·simp [h0]
   ·simp [show ¬ op<10 by omega]
  rw [this]
  rfl
abbrev nOp (n:Qae):Int:=n.1
abbrev nVar (n:Qae):Int:=n.2.1
abbrev QaO (n:Qae):List Int:=n.2.2.1
abbrev nCon (n:Qae):Int:=n.2.2.2.1
abbrev nNum (n:Qae):Int:=n.2.2.2.2.1
abbrev nFun (n:Qae):Int:=n.2.2.2.2.2.1
abbrev QbS (n:Qae):List Int:=n.2.2.2.2.2.2.1
abbrev Qj9 (n:Qae):Bool:=n.2.2.2.2.2.2.2.1
abbrev nBr (n:Qae):List Qas:=n.2.2.2.2.2.2.2.2.1
abbrev Qf2 (n:Qae):Int:=n.2.2.2.2.2.2.2.2.2
structure QaL (n:Qae):Prop where
 args:(QaO n).length≤1000
 more:(QbS n).length≤1000
 br:(nBr n).length≤1000
 bs:∀ b∈nBr n,b.1.length≤1073741824
def kids (n:Qae):List Int:=if nOp n=9 then (nBr n).map (·.2) else if Qd4 (nOp n)=true then [Qf2 n] else []
def binds (n:Qae):List Int:=if nOp n=9 then (nBr n).flatMap (·.1) else if Qbp (nOp n)=true then [nVar n] else []
def uses (n:Qae):List Int:=if nOp n<0∨10≤nOp n∨nOp n=1 then [] else if nOp n=8 then (QaO n++QbS n).filter (fun v=>decide (0≤v)) else QaO n
def Qhg (n:Qae):Bool:=decide (0≤nOp n∧nOp n<10)&&(decide (fArgs (nOp n)<0)||decide (((QaO n).length:Int)=fArgs (nOp n)))&&(Qbp (nOp n)||decide (nVar n=0))&&(fCon (nOp n)||decide (nCon n=0))&&(fNum (nOp n)||decide (nNum n=0))&&(fFun (nOp n)||decide (nFun n=0))&&
 (decide (nOp n=8)||decide (((QbS n).length:Int)=0))&&(decide (nOp n=9)||!Qj9 n)&&(Qd4 (nOp n)||decide (Qf2 n=0))&&(decide (nOp n=9)||decide (((nBr n).length:Int)=0))
theorem QBg (n:Qae):QqQ n=some (Qhg n):=by
 rw [Qvh,Qoi,Qaa]
 simp only [Qaf,Qaa,Qar,QaG,QbF,Qjd,fOf]
 unfold Qhg
 simp only [Qai]
 grind
theorem QBh (op:Int)(h:0≤op∧op<10):at' ([1,0,2,-1,1,1,-1,-1,-1,1]:List Int) op=some (fArgs op):=by
 rcases Qt5 h with rfl |rfl |rfl |rfl |rfl |rfl |rfl |rfl |rfl |rfl<;>rfl
theorem QBi (n:Qae):Qn8 n=some (Qhg n):=by
 rw [QtW]
 simp only [Qaf,Qaa,Qar,QaG,QbF,Qjd,Qm0]
 by_cases h:0≤nOp n∧nOp n<10
 ·rw [show (decide (n.1<0)||decide (9<n.1))=false by rw [QaD (show ¬ nOp n<0 by omega),QaD (show ¬ 9<nOp n by omega)]; rfl,cond_false,QBh n.1 h]
  simp only [Qaa,Qai]
  obtain ⟨op,var,args,con,num,fn,more,take,br,next⟩:=n
  unfold Qhg
  simp only at h ⊢
  generalize hA:(args.length:Int)=na
  generalize hM:(more.length:Int)=nm
  generalize hB:(br.length:Int)=nb
  have hA':0≤na:=by omega
  have hM':0≤nm:=by omega
  have hB':0≤nb:=by omega
  clear hA hM hB
  rcases Qt5 h with rfl |rfl |rfl |rfl |rfl |rfl |rfl |rfl |rfl |rfl<;>simp [fArgs,Qbp,fCon,fNum,fFun,Qd4]<;>grind
 ·rw [show (decide (n.1<0)||decide (9<n.1))=true by rw [Bool.or_eq_true,decide_eq_true_eq,decide_eq_true_eq]; show nOp n<0∨9<nOp n; omega,cond_true]
  unfold Qhg
  rw [QaD h]
  simp
theorem Qrb {α β:Type}(f:α→List β):∀ (l:List α) (s:List β),l.foldl (fun s x=>s++f x) s=s++l.flatMap f
 | [],s=>by simp
 | x::l,s=>by rw [List.foldl_cons,Qrb f l]; simp
theorem Qgs {α β:Type}(f:α→β):∀ (l:List α) (s:List β),l.foldl (fun s x=>s++[f x]) s=s++l.map f
 | [],s=>by simp
 | x::l,s=>by rw [List.foldl_cons,Qgs f l]; simp
theorem foldl_filter {α:Type}(p:α→Bool):∀ (l s:List α),l.foldl (fun s x=>if p x=true then s++[x] else s) s=s++l.filter p
 | [],s=>by simp
 | x::l,s=>by
  rw [List.foldl_cons,foldl_filter p l,List.filter_cons]
  split<;>simp
theorem QwJ {α:Type}(b:Bool)(s:List α)(x:α):(if b=true then s++[x] else s).length≤s.length+1:=by
 cases b<;>simp
theorem Qy0 (l:List Qas)(hl:l.length≤1000000):QfI [] l (l.length:Int) 0=some (l.map (·.2)):=by
 have:=QbZ (L:=fun s i=>QfI s l (l.length:Int) i) (l:=l) (F:=fun s x=>s++[x.2]) (E:=id) (fun i s=>s.length≤i)
  (fun s i x hx hI=>⟨by
   have:=Qau hx
   rw [QkT,Qam hx,cond_true,Qah hx,Qaa,Qab (by omega),Qan hx (by omega)],by simp; omega⟩)
  (fun s hI=>by rw [QkT,Qap,cond_false]; rfl) [] (by simp)
 rw [this,Qgs]; rfl
theorem QwK (l:List Qas)(hl:l.length≤1000)(hb:∀ b∈l,b.1.length≤1073741824):QeY [] l (l.length:Int) 0=some (l.flatMap (·.1)):=by
 have:=QbZ (L:=fun s i=>QeY s l (l.length:Int) i) (l:=l) (F:=fun s x=>s++x.1) (E:=id) (fun i s=>s.length≤i * 1073741824)
  (fun s i x hx hI=>⟨by
   have:=Qau hx
   have:=hb x (List.mem_of_getElem? hx)
   rw [QjS,Qam hx,cond_true,Qah hx,Qaa,Qab (by omega),Qan hx (by omega)],by
   have:=hb x (List.mem_of_getElem? hx)
   simp; omega⟩)
  (fun s hI=>by rw [QjS,Qap,cond_false]; rfl) [] (by simp)
 rw [this,Qrb]; rfl
theorem Qy1 (l:List Int)(hl:l.length≤1000000):Qet [] l (l.length:Int) 0=some (l.filter (fun v=>decide (0≤v))):=by
 have:=QbZ (L:=fun s i=>Qet s l (l.length:Int) i) (l:=l) (F:=fun s x=>if decide (0≤x)=true then s++[x] else s) (E:=id) (fun i s=>s.length≤i)
  (fun s i x hx hI=>⟨by
   have:=Qau hx
   rw [QkS,Qam hx,cond_true,Qah hx,Qaa,Qan hx (by omega)]
   by_cases h:x<0
   ·rw [Qab h,if_neg (by simp; omega)]
   ·rw [Qac h,Qab (by omega),if_pos (by simp; omega)],Nat.le_trans (QwJ _ _ _) (by have:=hI; omega)⟩)
  (fun s hI=>by rw [QkS,Qap,cond_false]; rfl) [] (by simp)
 rw [this,foldl_filter]; rfl
theorem QkX (n:Qae)(h:QaL n):QgZ n=some (kids n):=by
 rw [Qvj,Qoi,Qaa]
 simp only [fOf,Qaa,Qar,QmZ]
 have hb:=h.br
 unfold kids
 by_cases h9:nOp n=9
 ·rw [if_pos h9,Qab h9,show Qd4 n.1=false by rw [show n.1=9 from h9]; rfl,cond_false,Qy0 (nBr n) (by omega)]
  rfl
 ·rw [if_neg h9,Qac h9]
  cases Qd4 (nOp n)<;>rfl
theorem Qgt (n:Qae)(h:QaL n):Qes n=some (binds n):=by
 rw [Qt0,Qoi,Qaa]
 simp only [fOf,Qaa,Qar,QmZ]
 have hb:=h.br
 unfold binds
 by_cases h9:nOp n=9
 ·rw [if_pos h9,Qab h9,show Qbp n.1=false by rw [show n.1=9 from h9]; rfl,cond_false,QwK (nBr n) (by omega) h.bs]
  rfl
 ·rw [if_neg h9,Qac h9]
  cases Qbp (nOp n)<;>rfl
theorem Qnn (n:Qae)(h:QaL n):QkK n=some (uses n):=by
 rw [Qvi,Qoi,Qaa]
 simp only [fOf,Qaa,Qar,QmZ]
 have ha:n.2.2.1.length≤1000:=h.args
 have hm:n.2.2.2.2.2.2.1.length≤1000:=h.more
 unfold uses
 by_cases hr:0≤nOp n∧nOp n<10
 ·rw [QaY hr,cond_true]
  by_cases hn:nOp n=1
  ·rw [if_pos (by omega)]
   exact Qab (p:=(fOf n.1).1=0) (by show fArgs (nOp n)=0; rw [hn]; rfl) _ _
  ·rw [if_neg (by omega)]
   refine (Qac (p:=(fOf n.1).1=0) (by show ¬ fArgs (nOp n)=0; unfold fArgs; repeat' split; all_goals omega) _ _).trans ?_
   by_cases h8:nOp n=8
   ·rw [if_pos h8,Qab h8,Qab (by omega),Qab (by omega),Qy1 _ (by simp; omega)]
    rfl
   ·rw [if_neg h8,Qac h8,Qab (by omega)]
 ·rw [QaD hr,cond_false,if_pos (by omega)]
  rfl
theorem QEO (n:Qae)(hl:(nBr n).length≤1000000):QeW [] n 0=some ((nBr n).map (·.2)):=by
 have:=QbZ (L:=fun s i=>QeW s n i) (l:=nBr n) (F:=fun s x=>s++[x.2]) (E:=id) (fun i s=>s.length≤i)
  (fun s i x hx hI=>⟨by
   have:=Qau hx
   rw [QjP,Qam hx,cond_true,Qah hx,Qaa,Qab (by omega),Qan hx (by omega)],by simp; omega⟩)
  (fun s hI=>by rw [QjP,Qap,cond_false]; rfl) [] (by simp)
 rw [this,Qgs]; rfl
theorem QDe (n:Qae)(hl:(nBr n).length≤1000)(hb:∀ b∈nBr n,b.1.length≤1073741824):QdO [] n 0=some ((nBr n).flatMap (·.1)):=by
 have:=QbZ (L:=fun s i=>QdO s n i) (l:=nBr n) (F:=fun s x=>s++x.1) (E:=id) (fun i s=>s.length≤i * 1073741824)
  (fun s i x hx hI=>⟨by
   have:=Qau hx
   have:=hb x (List.mem_of_getElem? hx)
   rw [QiL,Qam hx,cond_true,Qah hx,Qaa,Qab (by omega),Qan hx (by omega)],by
   have:=hb x (List.mem_of_getElem? hx)
   simp; omega⟩)
  (fun s hI=>by rw [QiL,Qap,cond_false]; rfl) [] (by simp)
 rw [this,Qrb]; rfl
theorem QxW (n:Qae)(h:QaL n):Qiv n=some (kids n):=by
 rw [QtY]
 have hb:=h.br
 unfold kids Qd4
 by_cases h9:nOp n=9
 ·have h9':n.1=9:=h9
  rw [if_pos h9,Qac (by omega),Qac (by omega),Qac (by omega),Qac (by omega),Qac (by omega),Qac (by omega),Qab h9,QEO n (by omega)]
  rfl
 ·rw [if_neg h9]
  simp only [Qai,decide_eq_true_eq]
  grind
theorem Qt6 (n:Qae)(h:QaL n):Qeh n=some (binds n):=by
 rw [QrN]
 have hb:=h.br
 unfold binds Qbp
 by_cases h9:nOp n=9
 ·have h9':n.1=9:=h9
  rw [if_pos h9,Qac (by omega),Qac (by omega),Qac (by omega),Qac (by omega),Qac (by omega),Qab h9,QDe n (by omega) h.bs]
  rfl
 ·rw [if_neg h9]
  simp only [Qai,decide_eq_true_eq]
  grind
theorem QEP (n:Qae)(hl:(QaO n).length≤1000000):Qdt [] n 0=some (if nOp n=8 then (QaO n).filter (fun v=>decide (0≤v)) else QaO n):=by
 have:=QbZ (L:=fun s i=>Qdt s n i) (l:=QaO n) (F:=fun s x=>if (decide (nOp n≠8)||decide (0≤x))=true then s++[x] else s) (E:=id) (fun i s=>s.length≤i)
  (fun s i x hx hI=>⟨by
   have:=Qau hx
   rw [QjN,Qam hx,cond_true,Qah hx,Qaa]
   simp only [Qaa,Qar]
   rw [Qab (show (s.length+1) * 8≤35184372088832 by omega),Qan hx (by omega)]
   by_cases h8:nOp n=8
   ·rw [Qab h8]
    by_cases h:x<0
    ·rw [QaY h,if_neg (by simp [h8]; omega)]; rfl
    ·rw [QaD h,if_pos (by simp; omega)]; rfl
   ·rw [Qac h8,if_pos (by simp [h8])]; rfl,Nat.le_trans (QwJ _ _ _) (by have:=hI; omega)⟩)
  (fun s hI=>by rw [QjN,Qap,cond_false]; rfl) [] (by simp)
 rw [this,foldl_filter]
 by_cases h8:nOp n=8
 ·simp [h8]
 ·simp [h8]
theorem QEQ (n:Qae)(s:List Int)(hs:s.length≤1000000)(hl:(QbS n).length≤1000000):Qdu s n 0=some (s++(QbS n).filter (fun v=>decide (0≤v))):=by
 have:=QbZ (L:=fun s i=>Qdu s n i) (l:=QbS n) (F:=fun s x=>if decide (0≤x)=true then s++[x] else s) (E:=id) (fun i s=>s.length≤i+1000000)
  (fun s i x hx hI=>⟨by
   have:=Qau hx
   rw [QjO,Qam hx,cond_true,Qah hx,Qaa,Qan hx (by omega)]
   by_cases h:x<0
   ·rw [Qab h,if_neg (by simp; omega)]
   ·rw [Qac h,Qab (by omega),if_pos (by simp; omega)],Nat.le_trans (QwJ _ _ _) (by have:=hI; omega)⟩)
  (fun s hI=>by rw [QjO,Qap,cond_false]; rfl) s (by omega)
 rw [this,foldl_filter]
 rfl
theorem QDN (n:Qae)(h:QaL n):Qlo n=some (uses n):=by
 rw [QtX]
 simp only [Qaa,Qar,Qaf,QaG]
 have ha:(QaO n).length≤1000:=h.args
 have hm:(QbS n).length≤1000:=h.more
 unfold uses
 by_cases hr:nOp n<0∨10≤nOp n∨nOp n=1
 ·rw [if_pos hr,Qc3 (by simp only [Bool.or_eq_true,decide_eq_true_eq]; show (nOp n<0∨9<nOp n)∨nOp n=1; omega)]
 ·rw [if_neg hr,Qcp (by simp only [Bool.or_eq_false_iff,decide_eq_false_iff_not]; show (¬ nOp n<0∧¬ 9<nOp n)∧¬ nOp n=1; omega),QEP n (by omega),Qaa]
  by_cases h8:nOp n=8
  ·rw [if_pos h8,if_pos h8,Qab h8,QEQ n _ (by have:=List.length_filter_le (fun v=>decide (0≤v)) (QaO n); omega) (by omega),Qaa,Qaa,List.filter_append]
  ·rw [if_neg h8,if_neg h8,Qac h8]
end Go.Proofs.YtkecfadnfnnfaaaGreatDoor.LabB
namespace Go.Proofs.YtkecfadnfnnfaaaGreatDoor.LabB
open Go Go.Ev Go.Sy
def cUp (v:Int):Bool:=decide (65≤v∧v≤90)
def cLo (v:Int):Bool:=decide (97≤v∧v≤122)
def cDi (v:Int):Bool:=decide (48≤v∧v≤57)
def cCh (v:Int):Bool:=cLo v||cUp v||cDi v||decide (v=95)
abbrev tI (b:UInt8):Int:=(b.toNat:Int)
def word (s:List UInt8)(lo hi:Int):Bool:=match s with
 | []=>false
 | b::r=>decide (r.length<32)&&decide (lo≤tI b∧tI b≤hi)&&(b::r).all (fun c=>cCh (tI c))
theorem QwL (v:Int):QkJ v=some (cCh v):=by
 rw [Qq2]
 simp only [Qaf,Qaa,Qar,QaG,Qc5,Qjd,Qm0]
 unfold cCh cLo cUp cDi
 congr 1
 rw [Bool.eq_iff_iff]
 simp
 omega
theorem QBj (s:List UInt8)(hs:s.length≤9223372036854775807):QeU s 0=some (if s.all (fun c=>cCh (tI c))=true then .inl () else .inr ()):=by
 refine QaF (L:=fun i=>QeU s i) (p:=fun c=>cCh (tI c)) (fun i x hx=>?_) ?_
 ·rw [QjL,Qam hx,cond_true,QqN _ hx,Qaa,QwL,Qaa,Qan hx hs,Qai]
 ·rw [QjL,Qap,cond_false]
theorem Qrc (s:List UInt8)(hs:s.length≤9223372036854775807)(lo hi:Int):Qiu s lo hi=some (word s lo hi):=by
 rw [QtV,QBj s hs]
 simp only [Qaf,Qaa,Qar,QaG]
 cases s with
 | nil=>rfl
 | cons b r=>
  rw [show ((0:Int))=((0:Nat):Int) from rfl,QqN (i:=0) (x:=b) _ rfl]
  simp only [Qaa]
  unfold word
  simp only [List.length_cons,Qai]
  have:(((r.length+1:Nat):Int)<1)=False:=by simp; omega
  grind
theorem QFV:∀ b:UInt8,([97,98,99,100,101,102,103,104,105,106,107,108,109,110,111,112,113,114,115,116,117,118,119,120,121,122,65,66,67,68,69,70,71,72,73,74,75,76,77,78,79,80,81,82,83,84,85,86,87,88,89,90,48,49,50,51,52,53,54,55,56,57,95]:List UInt8).contains b=cCh (tI b):=by
 have h:∀ n:Fin 256,([97,98,99,100,101,102,103,104,105,106,107,108,109,110,111,112,113,114,115,116,117,118,119,120,121,122,65,66,67,68,69,70,71,72,73,74,75,76,77,78,79,80,81,82,83,84,85,86,87,88,89,90,48,49,50,51,52,53,54,55,56,57,95]:List UInt8).contains (UInt8.ofNat n.val)=cCh (tI (UInt8.ofNat n.val)):=by decide +kernel
 intro b
 have:=h ⟨b.toNat,b.toNat_lt⟩
 simpa using this
theorem dropWhile_nil {α:Type}(p:α→Bool):∀ l:List α,l.dropWhile p=[]↔l.all p=true
 | []=>by simp
 | x::l=>by
  rw [List.dropWhile_cons,List.all_cons]
  cases h:p x with
  | true=>simp only [if_true,Bool.true_and]; exact dropWhile_nil p l
  | false=>simp
theorem QDO {α:Type}(p:α→Bool){x:α}:∀ l:List α,x∈l.takeWhile p→p x=true
 | [],h=>by simp at h
 | y::l,h=>by
  rw [List.takeWhile_cons] at h
  split at h
  ·rename_i hy
   rcases List.mem_cons.1 h with rfl |h
   ·exact hy
   ·exact QDO p l h
  ·simp at h
theorem QDf (p:UInt8→Bool)(s:List UInt8):(s.reverse.dropWhile p).reverse.dropWhile p=[]↔s.all p=true:=by
 constructor
 ·intro h
  have h1:=(dropWhile_nil p _).1 h
  rw [List.all_eq_true] at h1 ⊢
  intro x hx
  by_cases hp:p x=true
  ·exact hp
  ·have hm:x∈s.reverse:=by simpa using hx
   have:x∈s.reverse.takeWhile p++s.reverse.dropWhile p:=by rw [List.takeWhile_append_dropWhile]; exact hm
   rw [List.mem_append] at this
   rcases this with h3 |h3
   ·exact absurd (QDO p _ h3) hp
   ·exact h1 x (by simpa using h3)
 ·intro h
  have:s.reverse.dropWhile p=[]:=(dropWhile_nil p _).2 (by rw [List.all_eq_true] at h ⊢; intro x hx; exact h x (by simpa using hx))
  rw [this]
  rfl
theorem QoS (s:List UInt8)(hs:s.length<4294967281)(lo hi:Int):QhC s lo hi=some (word s lo hi):=by
 rw [QqW,Qq7]
 simp only [Qaf,Qaa,Qar,QaG]
 cases s with
 | nil=>rfl
 | cons b r=>
  rw [show ((0:Int))=((0:Nat):Int) from rfl,QqN (i:=0) (x:=b) _ rfl]
  simp only [Qaa]
  rw [show Qwy (b::r) [97,98,99,100,101,102,103,104,105,106,107,108,109,110,111,112,113,114,115,116,117,118,119,120,121,122,65,66,67,68,69,70,71,72,73,74,75,76,77,78,79,80,81,82,83,84,85,86,87,88,89,90,48,49,50,51,52,53,54,55,56,57,95]=some (((b::r).reverse.dropWhile (fun c=>cCh (tI c))).reverse.dropWhile (fun c=>cCh (tI c))) by
   unfold Qwy
   rw [show Nat.blt (b::r).length 4294967281=true from by rw [Nat.blt_eq]; exact hs]
   rw [show (fun c=>cCh (tI c))=List.contains ([97,98,99,100,101,102,103,104,105,106,107,108,109,110,111,112,113,114,115,116,117,118,119,120,121,122,65,66,67,68,69,70,71,72,73,74,75,76,77,78,79,80,81,82,83,84,85,86,87,88,89,90,48,49,50,51,52,53,54,55,56,57,95]:List UInt8) from funext fun c=>(QFV c).symm]
   rfl]
  simp only [Qaa,QDf]
  unfold word
  simp only [List.length_cons,Qai]
  have:(((r.length+1:Nat):Int)=0)=False:=by simp; omega
  grind
def Qvm (s:List UInt8):Bool:=word (cut1 s 46).1 97 122&&(!(cut1 s 46).2.2||word (cut1 s 46).2.1 97 122)
theorem QER (s:List UInt8)(c:UInt8):(cut1 s c).1.length≤s.length∧(cut1 s c).2.1.length≤s.length:=by
 unfold cut1
 split
 ·simp
 ·rename_i x r h
  have h1:(s.takeWhile (· != c)).length+(s.dropWhile (· != c)).length=s.length:=by rw [← List.length_append,List.takeWhile_append_dropWhile]
  rw [h] at h1
  simp only [List.length_cons] at h1
  simp only
  omega
theorem QBk (s:List UInt8)(hs:s.length<4294967281):QqP s=some (Qvm s):=by
 have:=QER s 46
 rw [Qvg,QrQ]
 rw [show cutM s [46]=some (cut1 s 46) by unfold cutM; rw [show Nat.blt s.length 4294967281=true by rw [Nat.blt_eq]; exact hs]]
 rw [Qaa]
 unfold Qvm
 rcases hc:cut1 s 46 with ⟨a,b,t⟩
 rw [hc] at this
 simp only
 rw [QoS a (by simp only at this; omega),QoS b (by simp only at this; omega)]
 simp only [Qaa,Qar,Qjd,Qai]
 cases word a 97 122<;>cases t<;>rfl
theorem QBl (b:UInt8)(r:List UInt8)(c:UInt8):cut1 (b::r) c=if b=c then ([],r,true) else (b::(cut1 r c).1,(cut1 r c).2.1,(cut1 r c).2.2):=by
 by_cases h:b=c
 ·subst h
  simp [cut1]
 ·rw [if_neg h]
  unfold cut1
  have h2:(b != c)=true:=by simpa using h
  rw [List.dropWhile_cons,if_pos h2,List.takeWhile_cons,if_pos h2]
  cases hd:r.dropWhile (· != c) with
  | nil=>rfl
  | cons x l=>rfl
theorem Qy2 (s:List UInt8)(hs:s.length≤1000000000):∀ (r pre:List UInt8),s=pre++r→QeS s (pre.length:Int)=some (if (cut1 r 46).2.2=true then .inr (word (pre++(cut1 r 46).1) 97 122&&word (cut1 r 46).2.1 97 122) else .inl ()):=by
 intro r
 induction r with
 | nil=>
  intro pre h
  subst h
  rw [QjK,QdD,cond_false]
  rfl
 | cons b r ih=>
  intro pre h
  have hl:s.length=pre.length+(r.length+1):=by rw [h]; simp
  have hx:s[pre.length]?=some b:=by rw [h,List.getElem?_append_right (Nat.le_refl _)]; simp
  rw [QjK,Qam hx,cond_true,QqN _ hx,Qaa,QBl,Qan hx (by omega)]
  by_cases hb:b=46
  ·subst hb
   rw [if_pos rfl,Qab (by rfl),Qac (by omega),Qac (by omega)]
   simp only [Nat.sub_zero,List.drop_zero,Int.toNat_natCast]
   have e1:List.take pre.length s=pre:=by rw [h]; simp
   have e2:List.take (s.length - (pre.length+1)) (List.drop (pre.length+1) s)=r:=by
    have e3:List.drop (pre.length+1) s=r:=by
     rw [show s=(pre++[46])++r by rw [h]; simp,show pre.length+1=(pre++[46]).length by simp,List.drop_left]
    rw [e3]
    exact List.take_of_length_le (by omega)
   rw [e1,e2,Qrc pre (by omega),Qrc r (by omega),Qac (by omega),Qac (by omega)]
   simp only [Qaa,List.append_nil,if_true]
   cases word pre 97 122<;>rfl
  ·have:¬ (tI b=46):=by
    intro h3
    apply hb
    have h4:b.toNat=46:=by have h5:(b.toNat:Int)=46:=h3; omega
    exact UInt8.toNat_inj.1 (by rw [h4]; rfl)
   rw [if_neg hb,Qac this]
   rw [show ((pre.length+1:Nat):Int)=((pre++[b]).length:Int) by simp,ih (pre++[b]) (by rw [h]; simp)]
   simp
theorem QES (r:List UInt8)(c:UInt8)(h:(cut1 r c).2.2=false):cut1 r c=(r,[],false):=by
 unfold cut1 at h ⊢
 split at h
 ·rfl
 ·cases h
theorem Qy3 (s:List UInt8)(hs:s.length≤1000000000):Qn7 s=some (Qvm s):=by
 rw [QtU,show QeS s 0=_ from Qy2 s hs s [] rfl,Qaa]
 unfold Qvm
 cases h:(cut1 s 46).2.2 with
 | true=>simp
 | false=>
  rw [QES s 46 h]
  simp only [Bool.false_eq_true,if_false]
  rw [Qrc s (by omega)]
  simp [Qaa]
def Qka (s:List UInt8):Bool:=word s 65 90
theorem bif3 {α:Type}(a b:Bool)(x y:α):(bif a then x else bif b then x else y)=bif (a||b) then x else y:=by cases a<;>rfl
theorem Qy4 (s:List UInt8)(hs:s.length≤1000000000):Qcr s (s.length:Int) 0=some (if s.all (fun c=>cCh (tI c))=true then .inr () else .inl ()):=by
 refine QaF (L:=fun i=>Qcr s (s.length:Int) i) (p:=fun c=>cCh (tI c)) (fun i x hx=>?_) ?_
 ·rw [QjJ,Qam hx,cond_true,QqN _ hx,Qaa,Qan hx (by omega)]
  simp only [Qaf,Qaa,Qar,QaG,Qc5,Qm0,bif3]
  rw [Qai]
  rw [show (!decide ((x.toNat:Int)<97)&&!decide (122<(x.toNat:Int))||(!decide ((x.toNat:Int)<65)&&!decide (90<(x.toNat:Int))||(!decide ((x.toNat:Int)<48)&&!decide (57<(x.toNat:Int))||decide ((x.toNat:Int)=95))))=cCh (tI x) by
   unfold cCh cLo cUp cDi
   rw [Bool.eq_iff_iff]
   simp only [Bool.or_eq_true,Bool.and_eq_true,Bool.not_eq_true',decide_eq_true_eq,decide_eq_false_iff_not,tI]
   omega]
 ·rw [QjJ,Qap,cond_false]
theorem QsH (s:List UInt8)(hs:s.length≤1000000000):Qln s=some (Qka s):=by
 rw [QtT,Qy4 s hs]
 simp only [Qaf,Qaa,Qar,QaG]
 cases s with
 | nil=>rfl
 | cons b r=>
  rw [show ((0:Int))=((0:Nat):Int) from rfl,QqN (i:=0) (x:=b) _ rfl]
  simp only [Qaa]
  unfold Qka word
  simp only [List.length_cons,Qai]
  grind
theorem QwM (s:List UInt8)(hs:s.length≤1000000000):Qby s 0=some (if allI (fun i c=>cUp (tI c)||(decide (i≠0)&&cCh (tI c))) 0 s=true then .inr () else .inl ()):=by
 refine QdE (L:=fun i=>Qby s i) (p:=fun i c=>cUp (tI c)||(decide (i≠0)&&cCh (tI c))) (fun i x hx=>?_) ?_
 ·rw [QhJ,Qam hx,cond_true,QqN _ hx,Qaa,Qan hx (by omega)]
  simp only [Qaf,Qaa,Qar,QaG,Qc5,Qm0,QxS]
  have e1:(!decide ((x.toNat:Int)<65)&&!decide (90<(x.toNat:Int)))=cUp (tI x):=by
   unfold cUp
   rw [Bool.eq_iff_iff]
   simp only [Bool.or_eq_true,Bool.and_eq_true,Bool.not_eq_true',decide_eq_true_eq,decide_eq_false_iff_not,tI]
   omega
  have e2:(!decide ((x.toNat:Int)<97)&&!decide (122<(x.toNat:Int))||(cUp (tI x)||(!decide ((x.toNat:Int)<48)&&!decide (57<(x.toNat:Int))||decide ((x.toNat:Int)=95))))=cCh (tI x):=by
   unfold cCh cLo cUp cDi
   rw [Bool.eq_iff_iff]
   simp only [Bool.or_eq_true,Bool.and_eq_true,Bool.not_eq_true',decide_eq_true_eq,decide_eq_false_iff_not,tI]
   omega
  rw [e1]
  rw [← e2]
  cases cUp (tI x) with
  | true=>rfl
  | false=>
   by_cases hi:i=0
   ·subst hi
    rfl
   ·rw [QaD (show ¬ ((i:Int)=0) by omega),QaY (show i≠0 from hi)]
    by_cases h97:(x.toNat:Int)<97
    ·rw [QaY h97]
     simp [Qai]
    ·rw [QaD h97]
     simp [Qai]
     grind
 ·rw [QhJ,Qap,cond_false]
theorem QxX (p q:UInt8→Bool)(h:∀ c,q c=(p c||q c)):∀ (l:List UInt8) (i:Nat),allI (fun i c=>p c||(decide (i≠0)&&q c)) (i+1) l=l.all q
 | [],i=>rfl
 | x::l,i=>by
  rw [allI,QxX p q h l (i+1),List.all_cons]
  congr 1
  rw [h x]
  simp
theorem Qrd (s:List UInt8)(hs:s.length≤1000000000):QhB s=some (Qka s):=by
 rw [QqV,QwM s hs]
 simp only [Qaf,Qaa,Qar,QaG]
 cases s with
 | nil=>rfl
 | cons b r=>
  unfold Qka word
  rw [allI,QxX (fun c=>cUp (tI c)) (fun c=>cCh (tI c)) (fun c=>by unfold cCh; cases cUp (tI c)<;>simp)]
  simp only [List.all_cons]
  simp only [List.length_cons,Qai]
  have:cUp (tI b)=true→cCh (tI b)=true:=fun h=>by unfold cCh; rw [h]; simp
  have e:cUp (tI b)=decide (65≤tI b∧tI b≤90):=rfl
  rw [← e]
  generalize (r.all fun c=>cCh (tI c))=A
  generalize cCh (tI b)=B at *
  generalize cUp (tI b)=U at *
  cases U with
  | false=>simp
  | true=>
   rw [this rfl]
   cases A with
   | false=>simp
   | true=>
    simp
    by_cases h:r.length<32
    ·simp [h]; omega
    ·simp [h]; omega
end Go.Proofs.YtkecfadnfnnfaaaGreatDoor.LabB
namespace Go.Proofs.YtkecfadnfnnfaaaGreatDoor.LabB
open Go Go.Ev Go.Sy
structure Qbh (d:List Qak):Prop where
 len:d.length≤1000
 names:∀ x∈d,x.1.length≤1000000000
 cons:∀ x∈d,x.2.length≤1000000
 QDP:∀ x∈d,∀ c∈x.2,c.1.length≤1000000000
 fields:∀ x∈d,∀ c∈x.2,c.2.length≤1000000000000
def isTy (d:List Qak)(t:Int):Bool:=decide (0≤t∧t≤(d.length:Int))
def Qez (d:List Qak)(t:Int):List GCon:=if t<1 then [] else match d[(t - 1).toNat]? with |some x=>x.2 |none=>[]
def flat (d:List Qak)(t:Int):Bool:=isTy d t&&(Qez d t).all fun c=>decide (c.2.length=0)
theorem QoT (d:List Qak)(t:Int):QhE d t=some (isTy d t):=by
 rw [Qq3]
 simp only [Qaf,Qaa,Qc5]
 congr 1
 unfold isTy
 rw [Bool.eq_iff_iff]
 simp only [Bool.and_eq_true,Bool.not_eq_true',decide_eq_true_eq,decide_eq_false_iff_not]
 omega
theorem Qre (d:List Qak)(t:Int):QhD d t=some (isTy d t):=by
 rw [Qq1]
 simp only [Qaf,Qaa,Qc5]
 congr 1
 unfold isTy
 rw [Bool.eq_iff_iff]
 simp only [Bool.and_eq_true,Bool.not_eq_true',decide_eq_true_eq,decide_eq_false_iff_not]
 omega
theorem QoU (p:Qag)(t:Int):Qdd p t=some (isTy p.1 t):=by
 rw [Qq0]
 simp only [Qaf,Qaa,Qc5]
 congr 1
 unfold isTy
 rw [Bool.eq_iff_iff]
 simp only [Bool.and_eq_true,Bool.not_eq_true',decide_eq_true_eq,decide_eq_false_iff_not]
 omega
theorem Qid {t:Int}(h0:0≤t)(h1:t≤9223372036854775807):Ev.wr .i64 (t - 1)=t - 1:=Qpt (by omega) (by omega)
theorem QBm (d:List Qak)(hl:d.length≤1000)(t:Int)(h:isTy d t=true):Qob d t=some (Qez d t):=by
 unfold isTy at h
 rw [decide_eq_true_eq] at h
 rw [Qt3]
 simp only [Qaf,Qaa,QaG]
 unfold Qez
 by_cases h1:t<1
 ·rw [QaY h1,if_pos h1]; rfl
 ·rw [QaD h1,if_neg h1,QaD (show ¬ (d.length:Int)<t by omega),Qid (by omega) (by omega)]
  obtain ⟨x,hx,hx'⟩:=Qc2 (l:=d) (i:=t - 1) (by omega) (by omega)
  rw [hx,hx']
  rfl
def idxR (o:Option Nat):Int:=match o with |some j=>(j:Int) |none => -1
theorem QDg (o:Option Nat):(!decide (idxR o<0))=o.isSome:=by
 cases o with
 | none=>rfl
 | some j=>show (!decide ((j:Int)<0))=true; rw [QaD (by omega)]; rfl
theorem any7 (l:List GCon)(hl:l.length≤1000000):QcO l=some (l.any fun c=>decide (0<(c.2.length:Int))):=by
 rw [Qic,Qj7]
 rw [Qc4 (L:=fun i=>QbP l (l.length:Int) i) (l:=l) (p:=fun c=>decide (0<(c.2.length:Int))) (A:=fun j=>.inr (j:Int)) (B:=.inl ()) (fun i x hx=>by
  rw [Qd2,Qam hx,cond_true,Qah hx,Qaa,Qq6,Qaa,Qan hx (by omega),Qai]) (by rw [Qd2,Qap,cond_false])]
 rw [← QbT _ l 0]
 cases Qis _ 0 l with
 | none=>rfl
 | some j=>simp only [Qaa]; rw [QaD (by omega)]; rfl
theorem Qy5 (d:List Qak)(h:Qbh d)(t:Int):(Qez d t).length≤1000000:=by
 unfold Qez
 split
 ·simp
 ·split
  ·rename_i x hx
   exact h.cons x (List.mem_of_getElem? hx)
  ·simp
theorem Qrf (d:List Qak)(h:Qbh d)(t:Int):Qix d t=some (flat d t):=by
 rw [Qt2,QoT,Qaa]
 unfold flat
 cases ht:isTy d t with
 | false=>rfl
 | true=>
  rw [QBm d h.len t ht]
  simp only [cond_true,Qaa,Bool.true_and]
  rw [any7 _ (Qy5 d h t)]
  simp only [Qaa]
  congr 1
  rw [List.not_any_eq_all_not]
  congr 1
  funext c
  rw [Bool.eq_iff_iff]
  simp only [Bool.not_eq_true',decide_eq_true_eq,decide_eq_false_iff_not]
  omega
theorem QiR (d:List Qak)(h:Qbh d)(t:Int):Qfp d t=some (flat d t):=by
 rw [QtZ,Qre,Qaa]
 have hl:=h.len
 unfold flat
 by_cases h0:t=0
 ·rw [Qab h0]
  subst h0
  unfold isTy Qez
  rw [QaY (by omega),if_pos (by omega)]
  rfl
 ·rw [Qac h0]
  cases ht:isTy d t with
  | false=>rfl
  | true=>
   unfold isTy at ht
   rw [decide_eq_true_eq] at ht
   obtain ⟨x,hx,hx'⟩:=Qc2 (l:=d) (i:=t - 1) (by omega) (by omega)
   have hc:=h.cons x (List.mem_of_getElem? hx')
   have:Qez d t=x.2:=by unfold Qez; rw [if_neg (by omega),hx']
   rw [cond_true,QaF (L:=fun i=>Qgn d t i) (l:=x.2) (p:=fun c=>decide (c.2.length=0)) (A:=.inl ()) (B:=.inr ()) (fun i c hx2=>by
    rw [QjQ,Qid (by omega) (by omega),hx,Qaa,Qam hx2,cond_true,Qah hx2,Qaa,Qan hx2 (by omega)]
    by_cases hz:c.2.length=0
    ·rw [Qac (by omega),if_pos (by simpa using hz)]
    ·rw [Qab (by omega),if_neg (by simpa using hz)]) (by rw [QjQ,Qid (by omega) (by omega),hx,Qaa,Qap,cond_false]),this,Qaa,Bool.true_and]
   cases x.2.all _<;>rfl
def many (d:List Qak):Bool:=decide (64<(d.length:Int))||d.any fun x=>decide (16<(x.2.length:Int))||x.2.any fun c=>decide (6<(c.2.length:Int))
theorem any0 (l:List GCon)(hl:l.length≤1000000):Qdy l=some (l.any fun c=>decide (6<(c.2.length:Int))):=by
 rw [Qjq,Qlw]
 rw [Qc4 (L:=fun i=>Qca l (l.length:Int) i) (l:=l) (p:=fun c=>decide (6<(c.2.length:Int))) (A:=fun j=>.inr (j:Int)) (B:=.inl ()) (fun i x hx=>by
  rw [Qe1,Qam hx,cond_true,Qah hx,Qaa,QqZ,Qaa,Qan hx (by omega),Qai]) (by rw [Qe1,Qap,cond_false])]
 rw [← QbT _ l 0]
 cases Qis _ 0 l with
 | none=>rfl
 | some j=>simp only [Qaa]; rw [QaD (by omega)]; rfl
theorem QBn (d:List Qak)(h:Qbh d):Qn5 d=some (many d):=by
 have hl:=h.len
 rw [QtR]
 unfold many
 by_cases h64:(64:Int)<(d.length:Int)
 ·rw [Qab h64,QaY h64]; rfl
 ·rw [Qac h64,QaD h64,QaF (L:=fun i=>Qgi d (d.length:Int) i) (l:=d) (p:=fun x=>!(decide (16<(x.2.length:Int))||x.2.any fun c=>decide (6<(c.2.length:Int)))) (A:=.inl ()) (B:=.inr ()) (fun i x hx=>by
   rw [QjG,Qam hx,cond_true,Qah hx,Qaa,any0 _ (h.cons x (List.mem_of_getElem? hx))]
   simp only [Qaa,Qaf,QaG]
   rw [Qan hx (by omega),Qai]
   cases (decide (16<(x.2.length:Int))||x.2.any fun c=>decide (6<(c.2.length:Int)))<;>rfl) (by rw [QjG,Qap,cond_false]),Qaa,Bool.false_or,← List.not_any_eq_all_not]
  cases d.any _<;>rfl
theorem QFW (d:List Qak)(h:Qbh d)(k:Nat)(x:Qak)(hx:d[k]?=some x):QeR d (k:Int) 0=some (if x.2.all (fun c=>!decide (6<(c.2.length:Int)))=true then .inr () else .inl ()):=by
 have hc:=h.cons x (List.mem_of_getElem? hx)
 refine QaF (L:=fun i=>QeR d (k:Int) i) (l:=x.2) (p:=fun c=>!decide (6<(c.2.length:Int))) (fun i c hx2=>?_) ?_
 ·rw [QjI,Qah hx,Qaa,Qam hx2,cond_true,Qah hx2,Qaa,Qan hx2 (by omega),Qai]
  cases decide (6<(c.2.length:Int))<;>rfl
 ·rw [QjI,Qah hx,Qaa,Qap,cond_false]
theorem Qy6 (d:List Qak)(h:Qbh d):Qn6 d=some (many d):=by
 have hl:=h.len
 rw [QtS]
 unfold many
 by_cases h64:(64:Int)<(d.length:Int)
 ·rw [Qab h64,QaY h64]; rfl
 ·rw [Qac h64,QaD h64,QaF (L:=fun i=>Qgj d i) (l:=d) (p:=fun x=>!(decide (16<(x.2.length:Int))||x.2.any fun c=>decide (6<(c.2.length:Int)))) (A:=.inl ()) (B:=.inr ()) (fun i x hx=>by
   rw [QjH,Qam hx,cond_true,Qah hx,Qaa,QFW d h i x hx,Qaa,Qan hx (by omega),← List.not_any_eq_all_not]
   cases decide (16<(x.2.length:Int))<;>cases (x.2.any fun c=>decide (6<(c.2.length:Int)))<;>rfl) (by rw [QjH,Qap,cond_false]),Qaa,Bool.false_or,← List.not_any_eq_all_not]
  cases d.any _<;>rfl
def Qrg (d:List Qak):Bool:=d.all fun x=>Qka x.1&&decide (x.2.length≠0)&&x.2.all fun c=>Qka c.1
def QwN:List Qak→Bool
 | []=>false
 | x::_=>decide (x.1=[66,111,111,108])&&match x.2 with
  | [a,b]=>decide (a.1=[70,97,108,115,101])&&decide (b.1=[84,114,117,101])&&decide (a.2.length=0)&&decide (b.2.length=0)
  | _=>false
def formed (d:List Qak):Bool:=QwN d&&Qrg d
theorem any1 (d:List Qak)(h:Qbh d)(x:Qak)(hx:x∈d):QcI x.2=some (!x.2.all fun c=>Qka c.1):=by
 have hl:=h.cons x hx
 rw [Qh6,QjY]
 rw [Qc4 (L:=fun i=>QbH x.2 (x.2.length:Int) i) (l:=x.2) (p:=fun c=>!Qka c.1) (A:=fun j=>.inr (j:Int)) (B:=.inl ()) (fun i c hc=>by
  rw [QdU,Qam hc,cond_true,Qah hc,Qaa,Qoe,QsH _ (h.QDP x hx c (List.mem_of_getElem? hc)),Qaa,Qaa,Qan hc (by omega),Qai]) (by rw [QdU,Qap,cond_false])]
 rw [List.not_all_eq_any_not,← QbT _ x.2 0]
 cases Qis _ 0 x.2 with
 | none=>rfl
 | some j=>simp only [Qaa]; rw [QaD (by omega)]; rfl
theorem QET (d:List Qak)(h:Qbh d):Qc7 d (d.length:Int) 0=some (if Qrg d=true then .inl () else .inr ()):=by
 have hl:=h.len
 refine QaF (L:=fun i=>Qc7 d (d.length:Int) i) (l:=d) (p:=fun x=>Qka x.1&&decide (x.2.length≠0)&&x.2.all fun c=>Qka c.1) (fun i x hx=>?_) ?_
 ·have hm:=List.mem_of_getElem? hx
  rw [QhF,Qam hx,cond_true,Qah hx,Qaa,QsH _ (h.names x hm),any1 d h x hm,Qan hx (by omega)]
  simp only [Qaa,Qaf,QaG]
  rw [show decide ((x.2.length:Int)=0)=!decide (x.2.length≠0) by rw [Bool.eq_iff_iff]; simp only [Bool.and_eq_true,Bool.not_eq_true',Bool.and_eq_false_iff,decide_eq_true_eq,decide_eq_false_iff_not]; omega]
  cases Qka x.1<;>cases decide (x.2.length≠0)<;>cases (x.2.all fun c=>Qka c.1)<;>rfl
 ·rw [QhF,Qap,cond_false]
theorem QBo (d:List Qak)(h:Qbh d)(k:Nat)(x:Qak)(hx:d[k]?=some x):Qc9 d (k:Int) 0=some (if x.2.all (fun c=>Qka c.1)=true then .inr () else .inl ()):=by
 have hm:=List.mem_of_getElem? hx
 have hl:=h.cons x hm
 refine QaF (L:=fun i=>Qc9 d (k:Int) i) (l:=x.2) (p:=fun c=>Qka c.1) (fun i c hc=>?_) ?_
 ·rw [QhH,Qah hx,Qaa,Qam hc,cond_true,Qah hc,Qaa,Qrd _ (h.QDP x hm c (List.mem_of_getElem? hc)),Qaa,Qan hc (by omega),Qai]
 ·rw [QhH,Qah hx,Qaa,Qap,cond_false]
theorem QDh (d:List Qak)(h:Qbh d):Qc8 d 0=some (if Qrg d=true then .inl () else .inr ()):=by
 have hl:=h.len
 refine QaF (L:=fun i=>Qc8 d i) (l:=d) (p:=fun x=>Qka x.1&&decide (x.2.length≠0)&&x.2.all fun c=>Qka c.1) (fun i x hx=>?_) ?_
 ·have hm:=List.mem_of_getElem? hx
  rw [QhG,Qam hx,cond_true,Qah hx]
  simp only [Qaa]
  rw [Qrd _ (h.names x hm),QBo d h i x hx,Qan hx (by omega)]
  simp only [Qaa,Qaf,QaG]
  rw [show decide ((x.2.length:Int)=0)=!decide (x.2.length≠0) by rw [Bool.eq_iff_iff]; simp only [Bool.and_eq_true,Bool.not_eq_true',Bool.and_eq_false_iff,decide_eq_true_eq,decide_eq_false_iff_not]; omega]
  cases Qka x.1<;>cases decide (x.2.length≠0)<;>cases (x.2.all fun c=>Qka c.1)<;>rfl
 ·rw [QhG,Qap,cond_false]
theorem at_0 {α:Type}(x:α)(r:List α):at' (x::r) 0=some x:=Qah (l:=x::r) (i:=0) rfl
theorem at_1 {α:Type}(x y:α)(r:List α):at' (x::y::r) 1=some y:=Qah (l:=x::y::r) (i:=1) rfl
theorem QwO (d:List Qak)(h:Qbh d):QkD d=some (formed d):=by
 rw [QqR,QET d h]
 simp only [Qaf,Qaa,Qar,QaG]
 unfold formed
 cases d with
 | nil=>rfl
 | cons x r=>
  rw [at_0]
  simp only [Qaa,List.length_cons,QwN]
  rw [QaD (show ¬ (((r.length+1:Nat):Int)=0) by omega)]
  obtain ⟨nm,cs⟩:=x
  match cs with
  | []=>cases decide (nm=[66,111,111,108])<;>rfl
  | [a]=>cases decide (nm=[66,111,111,108])<;>rfl
  | a::b::c::cs=>
   have:decide ((((a::b::c::cs).length:Nat):Int)=2)=false:=QaD (by simp; omega)
   simp only [this]
   cases decide (nm=[66,111,111,108])<;>rfl
  | [a,b]=>
   have hf:a.2.length≤1000000000000:=h.fields (nm,[a,b]) (by simp) a (by simp)
   have hf2:b.2.length≤1000000000000:=h.fields (nm,[a,b]) (by simp) b (by simp)
   rw [at_0,at_1]
   simp only [Qaa,Qll]
   rw [show ((a.2.length:Int)+(b.2.length:Int))=((a.2.length+b.2.length:Nat):Int) by omega,QDJ (by omega)]
   rw [show decide (0<((a.2.length+b.2.length:Nat):Int))=!(decide (a.2.length=0)&&decide (b.2.length=0)) by rw [Bool.eq_iff_iff]; simp only [Bool.and_eq_true,Bool.not_eq_true',Bool.and_eq_false_iff,decide_eq_true_eq,decide_eq_false_iff_not]; omega]
   cases decide (nm=[66,111,111,108])<;>cases decide (a.1=[70,97,108,115,101])<;>cases decide (b.1=[84,114,117,101])<;>cases decide (a.2.length=0)<;>cases decide (b.2.length=0)<;>cases Qrg _<;>rfl
theorem Qvn (d:List Qak)(h:Qbh d):QkE d=some (formed d):=by
 rw [QqS,QDh d h]
 simp only [Qaf,Qaa,Qar,QaG]
 unfold formed
 cases d with
 | nil=>rfl
 | cons x r=>
  rw [at_0]
  simp only [Qaa,List.length_cons,QwN]
  rw [QaD (show ¬ (((r.length+1:Nat):Int)=0) by omega)]
  obtain ⟨nm,cs⟩:=x
  match cs with
  | []=>cases decide (nm=[66,111,111,108])<;>rfl
  | [a]=>cases decide (nm=[66,111,111,108])<;>rfl
  | a::b::c::cs=>
   have:decide ((((a::b::c::cs).length:Nat):Int)=2)=false:=QaD (by simp; omega)
   simp only [this]
   cases decide (nm=[66,111,111,108])<;>rfl
  | [a,b]=>
   rw [at_0,at_1]
   simp only [Qaa,Qll]
   rw [show decide (0<((a.2.length:Nat):Int))=!decide (a.2.length=0) by rw [Bool.eq_iff_iff]; simp only [Bool.and_eq_true,Bool.not_eq_true',Bool.and_eq_false_iff,decide_eq_true_eq,decide_eq_false_iff_not]; omega]
   rw [show decide (0<((b.2.length:Nat):Int))=!decide (b.2.length=0) by rw [Bool.eq_iff_iff]; simp only [Bool.and_eq_true,Bool.not_eq_true',Bool.and_eq_false_iff,decide_eq_true_eq,decide_eq_false_iff_not]; omega]
   cases decide (nm=[66,111,111,108])<;>cases decide (a.1=[70,97,108,115,101])<;>cases decide (b.1=[84,114,117,101])<;>cases decide (a.2.length=0)<;>cases decide (b.2.length=0)<;>cases Qrg _<;>rfl
end Go.Proofs.YtkecfadnfnnfaaaGreatDoor.LabB
