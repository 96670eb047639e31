/- Of the models: tables of types. -/
import Derived.Test.YtkecfadnfnnfaaaGreatDoorModB
import Derived.Test.YtkecfadnfnnfaaaGreatDoorSyW
set_option linter.unusedVariables false
set_option linter.unusedSimpArgs false
namespace Go.Proofs.YtkecfadnfnnfaaaGreatDoor.LabB
open Go Go.Ev Go.Sy
def fArgs (op:Int):Int:=if op=0∨op=4∨op=5∨op=9 then 1 else if op=2 then 2 else if op=3∨op=6∨op=7∨op=8 then -1 else 0
def QbY (op:Int):Bool:=decide (1≤op∧op≤6)
def QaS (op:Int):Bool:=decide (1≤op∧op≤6∧op≠5)
def fCon (op:Int):Bool:=decide (op=3∨op=8)
def fNum (op:Int):Bool:=decide (op=1∨op=2∨op=8)
def fFun (op:Int):Bool:=decide (op=6∨op=7∨op=8)
def fOf (op:Int):QAL:=(fArgs op,QaS op,fCon op,fNum op,fFun op,decide (op=8),decide (op=9),QbY op,decide (op=9))
theorem Qxc {op:Int}(h:0≤op∧op<10):op=0∨op=1∨op=2∨op=3∨op=4∨op=5∨op=6∨op=7∨op=8∨op=9:=by omega
theorem QEO {op:Int}(h:¬ (0≤op∧op<10)):fOf op=(0,false,false,false,false,false,false,false,false):=by
 unfold fOf fArgs QaS fCon fNum fFun QbY
 rw [if_neg (by omega),if_neg (by omega),if_neg (by omega),Qa7 (by omega),Qa7 (by omega),Qa7 (by omega),Qa7 (by omega),Qa7 (by omega),Qa7 (by omega),Qa7 (by omega)]
theorem Qxd (op:Int)(h:0≤op∧op<10):at' ([(1,(false,(false,(false,(false,(false,(false,(false,false)))))))),(0,(true,(false,(true,(false,(false,(false,(true,false)))))))),(2,(true,(false,(true,(false,(false,(false,(true,false)))))))),(-1,(true,(true,(false,(false,(false,(false,(true,false)))))))),(1,(true,(false,(false,(false,(false,(false,(true,false)))))))),(1,(false,(false,(false,(false,(false,(false,(true,false)))))))),(-1,(true,(false,(false,(true,(false,(false,(true,false)))))))),(-1,(false,(false,(false,(true,(false,(false,(false,false)))))))),(-1,(false,(true,(true,(true,(true,(false,(false,false)))))))),(1,(false,(false,(false,(false,(false,(true,(false,true))))))))]:List QAL) op=some (fOf op):=by
 rcases Qxc h with rfl |rfl |rfl |rfl |rfl |rfl |rfl |rfl |rfl |rfl<;>rfl
theorem Qp1 (op:Int):Qm3 op=some (fOf op,decide (0≤op∧op<10)):=by
 rw [Qys]
 simp only [Qaj,Qaa,QaJ,Qbq]
 by_cases h:0≤op∧op<10
 ·rw [Qa7 (show ¬ op<0 by omega),Qc1 h.2,Qc1 h]
  simp only [Bool.not_true,Bool.or_false,cond_false,Qmi,Qaa,Qxd op h]
 ·rw [Qa7 h,QEO h]
  have:(decide (op<0)||!decide (op<10))=true:=by
   by_cases h0:op<0
   ·simp [h0]
   ·simp [show ¬ op<10 by omega]
  rw [this]
  rfl
abbrev nOp (n:Qab):Int:=n.1
abbrev nVar (n:Qab):Int:=n.2.1
abbrev QaG (n:Qab):List Int:=n.2.2.1
abbrev nCon (n:Qab):Int:=n.2.2.2.1
abbrev nNum (n:Qab):Int:=n.2.2.2.2.1
abbrev nFun (n:Qab):Int:=n.2.2.2.2.2.1
abbrev Qbf (n:Qab):List Int:=n.2.2.2.2.2.2.1
abbrev Qlq (n:Qab):Bool:=n.2.2.2.2.2.2.2.1
abbrev nBr (n:Qab):List Qak:=n.2.2.2.2.2.2.2.2.1
abbrev Qbg (n:Qab):Int:=n.2.2.2.2.2.2.2.2.2
structure QaQ (n:Qab):Prop where
 args:(QaG n).length≤1000
 more:(Qbf n).length≤1000
 br:(nBr n).length≤1000
 bs:∀ b∈nBr n,b.1.length≤1073741824
def kids (n:Qab):List Int:=if nOp n=9 then (nBr n).map (·.2) else if QbY (nOp n)=true then [Qbg n] else []
def binds (n:Qab):List Int:=if nOp n=9 then (nBr n).flatMap (·.1) else if QaS (nOp n)=true then [nVar n] else []
def uses (n:Qab):List Int:=if nOp n<0∨10≤nOp n∨nOp n=1 then [] else if nOp n=8 then (QaG n++Qbf n).filter (fun v=>decide (0≤v)) else QaG n
def Qcd (n:Qab):Bool:=decide (0≤nOp n∧nOp n<10)&&(decide (fArgs (nOp n)<0)||decide (((QaG n).length:Int)=fArgs (nOp n)))&&(QaS (nOp n)||decide (nVar n=0))&&(fCon (nOp n)||decide (nCon n=0))&&(fNum (nOp n)||decide (nNum n=0))&&(fFun (nOp n)||decide (nFun n=0))&&
 (decide (nOp n=8)||decide (((Qbf n).length:Int)=0))&&(decide (nOp n=9)||!Qlq n)&&(QbY (nOp n)||decide (Qbg n=0))&&(decide (nOp n=9)||decide (((nBr n).length:Int)=0))
theorem QA2 (n:Qab):QpP n=some (Qcd n):=by
 rw [Qt9,Qp1,Qaa]
 simp only [Qaj,Qaa,QaJ,Qbq,Qdx,QsA,fOf]
 unfold Qcd
 simp only [Qan]
 grind
theorem Qp2 {α β:Type}(f:α→List β):∀ (l:List α) (s:List β),l.foldl (fun s x=>s++f x) s=s++l.flatMap f
 | [],s=>by simp
 | x::l,s=>by rw [List.foldl_cons,Qp2 f l]; simp
theorem Qkt {α β:Type}(f:α→β):∀ (l:List α) (s:List β),l.foldl (fun s x=>s++[f x]) s=s++l.map f
 | [],s=>by simp
 | x::l,s=>by rw [List.foldl_cons,Qkt f l]; simp
theorem foldl_filter {α:Type}(p:α→Bool):∀ (l s:List α),l.foldl (fun s x=>if p x=true then s++[x] else s) s=s++l.filter p
 | [],s=>by simp
 | x::l,s=>by
  rw [List.foldl_cons,foldl_filter p l,List.filter_cons]
  split<;>simp
theorem QvO {α:Type}(b:Bool)(s:List α)(x:α):(if b=true then s++[x] else s).length≤s.length+1:=by
 cases b<;>simp
theorem Qyx (l:List Qak)(hl:l.length≤1000000):Qfj [] l (l.length:Int) 0=some (l.map (·.2)):=by
 have:=Qc8 (L:=fun s i=>Qfj s l (l.length:Int) i) (l:=l) (F:=fun s x=>s++[x.2]) (E:=id) (fun i s=>s.length≤i)
  (fun s i x hx hI=>⟨by
   have:=Qat hx
   rw [QjZ,Qaz hx,cond_true,Qao hx,Qaa,Qad (by omega),QaC hx (by omega)],by simp; omega⟩)
  (fun s hI=>by rw [QjZ,QaF,cond_false]; rfl) [] (by simp)
 rw [this,Qkt]; rfl
theorem QvP (l:List Qak)(hl:l.length≤1000)(hb:∀ b∈l,b.1.length≤1073741824):Qeq [] l (l.length:Int) 0=some (l.flatMap (·.1)):=by
 have:=Qc8 (L:=fun s i=>Qeq s l (l.length:Int) i) (l:=l) (F:=fun s x=>s++x.1) (E:=id) (fun i s=>s.length≤i * 1073741824)
  (fun s i x hx hI=>⟨by
   have:=Qat hx
   have:=hb x (List.mem_of_getElem? hx)
   rw [QiW,Qaz hx,cond_true,Qao hx,Qaa,Qad (by omega),QaC hx (by omega)],by
   have:=hb x (List.mem_of_getElem? hx)
   simp; omega⟩)
  (fun s hI=>by rw [QiW,QaF,cond_false]; rfl) [] (by simp)
 rw [this,Qp2]; rfl
theorem Qyy (l:List Int)(hl:l.length≤1000000):QdU [] l (l.length:Int) 0=some (l.filter (fun v=>decide (0≤v))):=by
 have:=Qc8 (L:=fun s i=>QdU s l (l.length:Int) i) (l:=l) (F:=fun s x=>if decide (0≤x)=true then s++[x] else s) (E:=id) (fun i s=>s.length≤i)
  (fun s i x hx hI=>⟨by
   have:=Qat hx
   rw [QjY,Qaz hx,cond_true,Qao hx,Qaa,QaC hx (by omega)]
   by_cases h:x<0
   ·rw [Qad h,if_neg (by simp; omega)]
   ·rw [Qaf h,Qad (by omega),if_pos (by simp; omega)],Nat.le_trans (QvO _ _ _) (by have:=hI; omega)⟩)
  (fun s hI=>by rw [QjY,QaF,cond_false]; rfl) [] (by simp)
 rw [this,foldl_filter]; rfl
theorem QhY (n:Qab)(h:QaQ n):Qep n=some (kids n):=by
 rw [Qub,Qp1,Qaa]
 simp only [fOf,Qaa,QaJ,QpK]
 have hb:=h.br
 unfold kids
 by_cases h9:nOp n=9
 ·rw [if_pos h9,Qad h9,show QbY n.1=false by rw [show n.1=9 from h9]; rfl,cond_false,Qyx (nBr n) (by omega)]
  rfl
 ·rw [if_neg h9,Qaf h9]
  cases QbY (nOp n)<;>rfl
theorem QfR (n:Qab)(h:QaQ n):QdT n=some (binds n):=by
 rw [QsL,Qp1,Qaa]
 simp only [fOf,Qaa,QaJ,QpK]
 have hb:=h.br
 unfold binds
 by_cases h9:nOp n=9
 ·rw [if_pos h9,Qad h9,show QaS n.1=false by rw [show n.1=9 from h9]; rfl,cond_false,QvP (nBr n) (by omega) h.bs]
  rfl
 ·rw [if_neg h9,Qaf h9]
  cases QaS (nOp n)<;>rfl
theorem Qmn (n:Qab)(h:QaQ n):QjQ n=some (uses n):=by
 rw [Qua,Qp1,Qaa]
 simp only [fOf,Qaa,QaJ,QpK]
 have ha:n.2.2.1.length≤1000:=h.args
 have hm:n.2.2.2.2.2.2.1.length≤1000:=h.more
 unfold uses
 by_cases hr:0≤nOp n∧nOp n<10
 ·rw [Qc1 hr,cond_true]
  by_cases hn:nOp n=1
  ·rw [if_pos (by omega)]
   exact Qad (p:=(fOf n.1).1=0) (by show fArgs (nOp n)=0; rw [hn]; rfl) _ _
  ·rw [if_neg (by omega)]
   refine (Qaf (p:=(fOf n.1).1=0) (by show ¬ fArgs (nOp n)=0; unfold fArgs; repeat' split; all_goals omega) _ _).trans ?_
   by_cases h8:nOp n=8
   ·rw [if_pos h8,Qad h8,Qad (by omega),Qad (by omega),Qyy _ (by simp; omega)]
    rfl
   ·rw [if_neg h8,Qaf h8,Qad (by omega)]
 ·rw [Qa7 hr,cond_false,if_pos (by omega)]
  rfl
theorem QEP (n:Qab)(hl:(nBr n).length≤1000000):Qeo [] n 0=some ((nBr n).map (·.2)):=by
 have:=Qc8 (L:=fun s i=>Qeo s n i) (l:=nBr n) (F:=fun s x=>s++[x.2]) (E:=id) (fun i s=>s.length≤i)
  (fun s i x hx hI=>⟨by
   have:=Qat hx
   rw [QiV,Qaz hx,cond_true,Qao hx,Qaa,Qad (by omega),QaC hx (by omega)],by simp; omega⟩)
  (fun s hI=>by rw [QiV,QaF,cond_false]; rfl) [] (by simp)
 rw [this,Qkt]; rfl
theorem QDb (n:Qab)(hl:(nBr n).length≤1000)(hb:∀ b∈nBr n,b.1.length≤1073741824):Qdf [] n 0=some ((nBr n).flatMap (·.1)):=by
 have:=Qc8 (L:=fun s i=>Qdf s n i) (l:=nBr n) (F:=fun s x=>s++x.1) (E:=id) (fun i s=>s.length≤i * 1073741824)
  (fun s i x hx hI=>⟨by
   have:=Qat hx
   have:=hb x (List.mem_of_getElem? hx)
   rw [QhU,Qaz hx,cond_true,Qao hx,Qaa,Qad (by omega),QaC hx (by omega)],by
   have:=hb x (List.mem_of_getElem? hx)
   simp; omega⟩)
  (fun s hI=>by rw [QhU,QaF,cond_false]; rfl) [] (by simp)
 rw [this,Qp2]; rfl
theorem QFX (n:Qab)(h:QaQ n):QhL n=some (kids n):=by
 rw [QsK]
 have hb:=h.br
 unfold kids QbY
 by_cases h9:nOp n=9
 ·have h9':n.1=9:=h9
  rw [if_pos h9,Qaf (by omega),Qaf (by omega),Qaf (by omega),Qaf (by omega),Qaf (by omega),Qaf (by omega),Qad h9,QEP n (by omega)]
  rfl
 ·rw [if_neg h9]
  simp only [Qan,decide_eq_true_eq]
  grind
theorem QEQ (n:Qab)(h:QaQ n):QeX n=some (binds n):=by
 rw [QqA]
 have hb:=h.br
 unfold binds QaS
 by_cases h9:nOp n=9
 ·have h9':n.1=9:=h9
  rw [if_pos h9,Qaf (by omega),Qaf (by omega),Qaf (by omega),Qaf (by omega),Qaf (by omega),Qad h9,QDb n (by omega) h.bs]
  rfl
 ·rw [if_neg h9]
  simp only [Qan,decide_eq_true_eq]
  grind
theorem QER (n:Qab)(hl:(QaG n).length≤1000000):QcV [] n 0=some (if nOp n=8 then (QaG n).filter (fun v=>decide (0≤v)) else QaG n):=by
 have:=Qc8 (L:=fun s i=>QcV s n i) (l:=QaG n) (F:=fun s x=>if (decide (nOp n≠8)||decide (0≤x))=true then s++[x] else s) (E:=id) (fun i s=>s.length≤i)
  (fun s i x hx hI=>⟨by
   have:=Qat hx
   rw [QiT,Qaz hx,cond_true,Qao hx,Qaa]
   simp only [Qaa,QaJ]
   rw [Qad (show (s.length+1) * 8≤35184372088832 by omega),QaC hx (by omega)]
   by_cases h8:nOp n=8
   ·rw [Qad h8]
    by_cases h:x<0
    ·rw [Qc1 h,if_neg (by simp [h8]; omega)]; rfl
    ·rw [Qa7 h,if_pos (by simp; omega)]; rfl
   ·rw [Qaf h8,if_pos (by simp [h8])]; rfl,Nat.le_trans (QvO _ _ _) (by have:=hI; omega)⟩)
  (fun s hI=>by rw [QiT,QaF,cond_false]; rfl) [] (by simp)
 rw [this,foldl_filter]
 by_cases h8:nOp n=8
 ·simp [h8]
 ·simp [h8]
theorem QES (n:Qab)(s:List Int)(hs:s.length≤1000000)(hl:(Qbf n).length≤1000000):QcW s n 0=some (s++(Qbf n).filter (fun v=>decide (0≤v))):=by
 have:=Qc8 (L:=fun s i=>QcW s n i) (l:=Qbf n) (F:=fun s x=>if decide (0≤x)=true then s++[x] else s) (E:=id) (fun i s=>s.length≤i+1000000)
  (fun s i x hx hI=>⟨by
   have:=Qat hx
   rw [QiU,Qaz hx,cond_true,Qao hx,Qaa,QaC hx (by omega)]
   by_cases h:x<0
   ·rw [Qad h,if_neg (by simp; omega)]
   ·rw [Qaf h,Qad (by omega),if_pos (by simp; omega)],Nat.le_trans (QvO _ _ _) (by have:=hI; omega)⟩)
  (fun s hI=>by rw [QiU,QaF,cond_false]; rfl) s (by omega)
 rw [this,foldl_filter]
 rfl
theorem QFY (n:Qab)(h:QaQ n):Qks n=some (uses n):=by
 rw [QsJ]
 simp only [Qaa,QaJ,Qaj,Qbq]
 have ha:(QaG n).length≤1000:=h.args
 have hm:(Qbf n).length≤1000:=h.more
 unfold uses
 by_cases hr:nOp n<0∨10≤nOp n∨nOp n=1
 ·rw [if_pos hr,QcZ (by simp only [Bool.or_eq_true,decide_eq_true_eq]; show (nOp n<0∨9<nOp n)∨nOp n=1; omega)]
 ·rw [if_neg hr,QcM (by simp only [Bool.or_eq_false_iff,decide_eq_false_iff_not]; show (¬ nOp n<0∧¬ 9<nOp n)∧¬ nOp n=1; omega),QER n (by omega),Qaa]
  by_cases h8:nOp n=8
  ·rw [if_pos h8,if_pos h8,Qad h8,QES n _ (by have:=List.length_filter_le (fun v=>decide (0≤v)) (QaG n); omega) (by omega),Qaa,Qaa,List.filter_append]
  ·rw [if_neg h8,if_neg h8,Qaf h8]
end Go.Proofs.YtkecfadnfnnfaaaGreatDoor.LabB
namespace Go.Proofs.YtkecfadnfnnfaaaGreatDoor.LabB
open Go Go.Ev Go.Sy
def cUp (v:Int):Bool:=decide (65≤v∧v≤90)
def cLo (v:Int):Bool:=decide (97≤v∧v≤122)
def cDi (v:Int):Bool:=decide (48≤v∧v≤57)
def cCh (v:Int):Bool:=cLo v||cUp v||cDi v||decide (v=95)
abbrev tI (b:UInt8):Int:=(b.toNat:Int)
def word (s:List UInt8)(lo hi:Int):Bool:=match s with
 | []=>false
 | b::r=>decide (r.length<32)&&decide (lo≤tI b∧tI b≤hi)&&(b::r).all (fun c=>cCh (tI c))
theorem QFZ:∀ b:UInt8,([97,98,99,100,101,102,103,104,105,106,107,108,109,110,111,112,113,114,115,116,117,118,119,120,121,122,65,66,67,68,69,70,71,72,73,74,75,76,77,78,79,80,81,82,83,84,85,86,87,88,89,90,48,49,50,51,52,53,54,55,56,57,95]:List UInt8).contains b=cCh (tI b):=by
 have h:∀ n:Fin 256,([97,98,99,100,101,102,103,104,105,106,107,108,109,110,111,112,113,114,115,116,117,118,119,120,121,122,65,66,67,68,69,70,71,72,73,74,75,76,77,78,79,80,81,82,83,84,85,86,87,88,89,90,48,49,50,51,52,53,54,55,56,57,95]:List UInt8).contains (UInt8.ofNat n.val)=cCh (tI (UInt8.ofNat n.val)):=by decide +kernel
 intro b
 have:=h ⟨b.toNat,b.toNat_lt⟩
 simpa using this
theorem dropWhile_nil {α:Type}(p:α→Bool):∀ l:List α,l.dropWhile p=[]↔l.all p=true
 | []=>by simp
 | x::l=>by
  rw [List.dropWhile_cons,List.all_cons]
  cases h:p x with
  | true=>simp only [if_true,Bool.true_and]; exact dropWhile_nil p l
  | false=>simp
theorem QDL {α:Type}(p:α→Bool){x:α}:∀ l:List α,x∈l.takeWhile p→p x=true
 | [],h=>by simp at h
 | y::l,h=>by
  rw [List.takeWhile_cons] at h
  split at h
  ·rename_i hy
   rcases List.mem_cons.1 h with rfl |h
   ·exact hy
   ·exact QDL p l h
  ·simp at h
theorem QDc (p:UInt8→Bool)(s:List UInt8):(s.reverse.dropWhile p).reverse.dropWhile p=[]↔s.all p=true:=by
 constructor
 ·intro h
  have h1:=(dropWhile_nil p _).1 h
  rw [List.all_eq_true] at h1 ⊢
  intro x hx
  by_cases hp:p x=true
  ·exact hp
  ·have hm:x∈s.reverse:=by simpa using hx
   have:x∈s.reverse.takeWhile p++s.reverse.dropWhile p:=by rw [List.takeWhile_append_dropWhile]; exact hm
   rw [List.mem_append] at this
   rcases this with h3 |h3
   ·exact absurd (QDL p _ h3) hp
   ·exact h1 x (by simpa using h3)
 ·intro h
  have:s.reverse.dropWhile p=[]:=(dropWhile_nil p _).2 (by rw [List.all_eq_true] at h ⊢; intro x hx; exact h x (by simpa using hx))
  rw [this]
  rfl
theorem QnN (s:List UInt8)(hs:s.length<4294967281)(lo hi:Int):Qg4 s lo hi=some (word s lo hi):=by
 rw [QpR,QpW]
 simp only [Qaj,Qaa,QaJ,Qbq]
 cases s with
 | nil=>rfl
 | cons b r=>
  rw [show ((0:Int))=((0:Nat):Int) from rfl,QAK (i:=0) (x:=b) _ rfl]
  simp only [Qaa]
  rw [show QvD (b::r) [97,98,99,100,101,102,103,104,105,106,107,108,109,110,111,112,113,114,115,116,117,118,119,120,121,122,65,66,67,68,69,70,71,72,73,74,75,76,77,78,79,80,81,82,83,84,85,86,87,88,89,90,48,49,50,51,52,53,54,55,56,57,95]=some (((b::r).reverse.dropWhile (fun c=>cCh (tI c))).reverse.dropWhile (fun c=>cCh (tI c))) by
   unfold QvD
   rw [show Nat.blt (b::r).length 4294967281=true from by rw [Nat.blt_eq]; exact hs]
   rw [show (fun c=>cCh (tI c))=List.contains ([97,98,99,100,101,102,103,104,105,106,107,108,109,110,111,112,113,114,115,116,117,118,119,120,121,122,65,66,67,68,69,70,71,72,73,74,75,76,77,78,79,80,81,82,83,84,85,86,87,88,89,90,48,49,50,51,52,53,54,55,56,57,95]:List UInt8) from funext fun c=>(QFZ c).symm]
   rfl]
  simp only [Qaa,QDc]
  unfold word
  simp only [List.length_cons,Qan]
  have:(((r.length+1:Nat):Int)=0)=False:=by simp; omega
  grind
def QA3 (s:List UInt8):Bool:=word (cut1 s 46).1 97 122&&(!(cut1 s 46).2.2||word (cut1 s 46).2.1 97 122)
theorem QET (s:List UInt8)(c:UInt8):(cut1 s c).1.length≤s.length∧(cut1 s c).2.1.length≤s.length:=by
 unfold cut1
 split
 ·simp
 ·rename_i x r h
  have h1:(s.takeWhile (· != c)).length+(s.dropWhile (· != c)).length=s.length:=by rw [← List.length_append,List.takeWhile_append_dropWhile]
  rw [h] at h1
  simp only [List.length_cons] at h1
  simp only
  omega
theorem QA4 (s:List UInt8)(hs:s.length<4294967281):QpN s=some (QA3 s):=by
 have:=QET s 46
 rw [Qt8,QqB]
 rw [show cutM s [46]=some (cut1 s 46) by unfold cutM; rw [show Nat.blt s.length 4294967281=true by rw [Nat.blt_eq]; exact hs]]
 rw [Qaa]
 unfold QA3
 rcases hc:cut1 s 46 with ⟨a,b,t⟩
 rw [hc] at this
 simp only
 rw [QnN a (by simp only at this; omega),QnN b (by simp only at this; omega)]
 simp only [Qaa,QaJ,QsA,Qan]
 cases word a 97 122<;>cases t<;>rfl
def QqC (s:List UInt8):Bool:=word s 65 90
theorem bif3 {α:Type}(a b:Bool)(x y:α):(bif a then x else bif b then x else y)=bif (a||b) then x else y:=by cases a<;>rfl
theorem Qyz (s:List UInt8)(hs:s.length≤1000000000):Qch s (s.length:Int) 0=some (if s.all (fun c=>cCh (tI c))=true then .inr () else .inl ()):=by
 refine Qcf (L:=fun i=>Qch s (s.length:Int) i) (p:=fun c=>cCh (tI c)) (fun i x hx=>?_) ?_
 ·rw [QiR,Qaz hx,cond_true,QAK _ hx,Qaa,QaC hx (by omega)]
  simp only [Qaj,Qaa,QaJ,Qbq,Ql6,QCU,bif3]
  rw [Qan]
  rw [show (!decide ((x.toNat:Int)<97)&&!decide (122<(x.toNat:Int))||(!decide ((x.toNat:Int)<65)&&!decide (90<(x.toNat:Int))||(!decide ((x.toNat:Int)<48)&&!decide (57<(x.toNat:Int))||decide ((x.toNat:Int)=95))))=cCh (tI x) by
   unfold cCh cLo cUp cDi
   rw [Bool.eq_iff_iff]
   simp only [Bool.or_eq_true,Bool.and_eq_true,Bool.not_eq_true',decide_eq_true_eq,decide_eq_false_iff_not,tI]
   omega]
 ·rw [QiR,QaF,cond_false]
theorem Qru (s:List UInt8)(hs:s.length≤1000000000):Qkq s=some (QqC s):=by
 rw [QsI,Qyz s hs]
 simp only [Qaj,Qaa,QaJ,Qbq]
 cases s with
 | nil=>rfl
 | cons b r=>
  rw [show ((0:Int))=((0:Nat):Int) from rfl,QAK (i:=0) (x:=b) _ rfl]
  simp only [Qaa]
  unfold QqC word
  simp only [List.length_cons,Qan]
  grind
end Go.Proofs.YtkecfadnfnnfaaaGreatDoor.LabB
namespace Go.Proofs.YtkecfadnfnnfaaaGreatDoor.LabB
open Go Go.Ev Go.Sy
structure QeA (d:List Qai):Prop where
 len:d.length≤1000
 names:∀ x∈d,x.1.length≤1000000000
 cons:∀ x∈d,x.2.length≤1000000
 QF0:∀ x∈d,∀ c∈x.2,c.1.length≤1000000000
 fields:∀ x∈d,∀ c∈x.2,c.2.length≤1000000000000
def isTy (d:List Qai)(t:Int):Bool:=decide (0≤t∧t≤(d.length:Int))
def QgK (d:List Qai)(t:Int):List GCon:=if t<1 then [] else match d[(t - 1).toNat]? with |some x=>x.2 |none=>[]
def flat (d:List Qai)(t:Int):Bool:=isTy d t&&(QgK d t).all fun c=>decide (c.2.length=0)
theorem QnO (d:List Qai)(t:Int):Qg5 d t=some (isTy d t):=by
 rw [QpU]
 simp only [Qaj,Qaa,Ql6]
 congr 1
 unfold isTy
 rw [Bool.eq_iff_iff]
 simp only [Bool.and_eq_true,Bool.not_eq_true',decide_eq_true_eq,decide_eq_false_iff_not]
 omega
theorem QsP {t:Int}(h0:0≤t)(h1:t≤9223372036854775807):Ev.wr .i64 (t - 1)=t - 1:=QfI (by omega) (by omega)
theorem QA5 (d:List Qai)(hl:d.length≤1000)(t:Int)(h:isTy d t=true):Qm5 d t=some (QgK d t):=by
 unfold isTy at h
 rw [decide_eq_true_eq] at h
 rw [QsN]
 simp only [Qaj,Qaa,Qbq]
 unfold QgK
 by_cases h1:t<1
 ·rw [Qc1 h1,if_pos h1]; rfl
 ·rw [Qa7 h1,if_neg h1,Qa7 (show ¬ (d.length:Int)<t by omega),QsP (by omega) (by omega)]
  obtain ⟨x,hx,hx'⟩:=Qeg (l:=d) (i:=t - 1) (by omega) (by omega)
  rw [hx,hx']
  rfl
def idxR (o:Option Nat):Int:=match o with |some j=>(j:Int) |none => -1
theorem QDd (o:Option Nat):(!decide (idxR o<0))=o.isSome:=by
 cases o with
 | none=>rfl
 | some j=>show (!decide ((j:Int)<0))=true; rw [Qa7 (by omega)]; rfl
theorem any7 (l:List GCon)(hl:l.length≤1000000):QcE l=some (l.any fun c=>decide (0<(c.2.length:Int))):=by
 rw [Qhu,Qjc]
 rw [Qc9 (L:=fun i=>QbK l (l.length:Int) i) (l:=l) (p:=fun c=>decide (0<(c.2.length:Int))) (A:=fun j=>.inr (j:Int)) (B:=.inl ()) (fun i x hx=>by
  rw [Qdu,Qaz hx,cond_true,Qao hx,Qaa,QpV,Qaa,QaC hx (by omega),Qan]) (by rw [Qdu,QaF,cond_false])]
 rw [← Qb5 _ l 0]
 cases Qik _ 0 l with
 | none=>rfl
 | some j=>simp only [Qaa]; rw [Qa7 (by omega)]; rfl
theorem QyA (d:List Qai)(h:QeA d)(t:Int):(QgK d t).length≤1000000:=by
 unfold QgK
 split
 ·simp
 ·split
  ·rename_i x hx
   exact h.cons x (List.mem_of_getElem? hx)
  ·simp
theorem Qp3 (d:List Qai)(h:QeA d)(t:Int):QhM d t=some (flat d t):=by
 rw [QsM,QnO,Qaa]
 unfold flat
 cases ht:isTy d t with
 | false=>rfl
 | true=>
  rw [QA5 d h.len t ht]
  simp only [cond_true,Qaa,Bool.true_and]
  rw [any7 _ (QyA d h t)]
  simp only [Qaa]
  congr 1
  rw [List.not_any_eq_all_not]
  congr 1
  funext c
  rw [Bool.eq_iff_iff]
  simp only [Bool.not_eq_true',decide_eq_true_eq,decide_eq_false_iff_not]
  omega
def many (d:List Qai):Bool:=decide (64<(d.length:Int))||d.any fun x=>decide (16<(x.2.length:Int))||x.2.any fun c=>decide (6<(c.2.length:Int))
theorem any0 (l:List GCon)(hl:l.length≤1000000):Qc2 l=some (l.any fun c=>decide (6<(c.2.length:Int))):=by
 rw [Qiz,QkC]
 rw [Qc9 (L:=fun i=>Qb1 l (l.length:Int) i) (l:=l) (p:=fun c=>decide (6<(c.2.length:Int))) (A:=fun j=>.inr (j:Int)) (B:=.inl ()) (fun i x hx=>by
  rw [Qev,Qaz hx,cond_true,Qao hx,Qaa,QpT,Qaa,QaC hx (by omega),Qan]) (by rw [Qev,QaF,cond_false])]
 rw [← Qb5 _ l 0]
 cases Qik _ 0 l with
 | none=>rfl
 | some j=>simp only [Qaa]; rw [Qa7 (by omega)]; rfl
theorem QA6 (d:List Qai)(h:QeA d):Qm1 d=some (many d):=by
 have hl:=h.len
 rw [QsH]
 unfold many
 by_cases h64:(64:Int)<(d.length:Int)
 ·rw [Qad h64,Qc1 h64]; rfl
 ·rw [Qaf h64,Qa7 h64,Qcf (L:=fun i=>QfJ d (d.length:Int) i) (l:=d) (p:=fun x=>!(decide (16<(x.2.length:Int))||x.2.any fun c=>decide (6<(c.2.length:Int)))) (A:=.inl ()) (B:=.inr ()) (fun i x hx=>by
   rw [QiQ,Qaz hx,cond_true,Qao hx,Qaa,any0 _ (h.cons x (List.mem_of_getElem? hx))]
   simp only [Qaa,Qaj,Qbq]
   rw [QaC hx (by omega),Qan]
   cases (decide (16<(x.2.length:Int))||x.2.any fun c=>decide (6<(c.2.length:Int)))<;>rfl) (by rw [QiQ,QaF,cond_false]),Qaa,Bool.false_or,← List.not_any_eq_all_not]
  cases d.any _<;>rfl
def QvQ (d:List Qai):Bool:=d.all fun x=>QqC x.1&&decide (x.2.length≠0)&&x.2.all fun c=>QqC c.1
def QA7:List Qai→Bool
 | []=>false
 | x::_=>decide (x.1=[66,111,111,108])&&match x.2 with
  | [a,b]=>decide (a.1=[70,97,108,115,101])&&decide (b.1=[84,114,117,101])&&decide (a.2.length=0)&&decide (b.2.length=0)
  | _=>false
def formed (d:List Qai):Bool:=QA7 d&&QvQ d
theorem any1 (d:List Qai)(h:QeA d)(x:Qai)(hx:x∈d):Qcy x.2=some (!x.2.all fun c=>QqC c.1):=by
 have hl:=h.cons x hx
 rw [Qho,Qi3]
 rw [Qc9 (L:=fun i=>QbC x.2 (x.2.length:Int) i) (l:=x.2) (p:=fun c=>!QqC c.1) (A:=fun j=>.inr (j:Int)) (B:=.inl ()) (fun i c hc=>by
  rw [Qdm,Qaz hc,cond_true,Qao hc,Qaa,Qm6,Qru _ (h.QF0 x hx c (List.mem_of_getElem? hc)),Qaa,Qaa,QaC hc (by omega),Qan]) (by rw [Qdm,QaF,cond_false])]
 rw [List.not_all_eq_any_not,← Qb5 _ x.2 0]
 cases Qik _ 0 x.2 with
 | none=>rfl
 | some j=>simp only [Qaa]; rw [Qa7 (by omega)]; rfl
theorem QEU (d:List Qai)(h:QeA d):QcN d (d.length:Int) 0=some (if QvQ d=true then .inl () else .inr ()):=by
 have hl:=h.len
 refine Qcf (L:=fun i=>QcN d (d.length:Int) i) (l:=d) (p:=fun x=>QqC x.1&&decide (x.2.length≠0)&&x.2.all fun c=>QqC c.1) (fun i x hx=>?_) ?_
 ·have hm:=List.mem_of_getElem? hx
  rw [Qg8,Qaz hx,cond_true,Qao hx,Qaa,Qru _ (h.names x hm),any1 d h x hm,QaC hx (by omega)]
  simp only [Qaa,Qaj,Qbq]
  rw [show decide ((x.2.length:Int)=0)=!decide (x.2.length≠0) by rw [Bool.eq_iff_iff]; simp only [Bool.and_eq_true,Bool.not_eq_true',Bool.and_eq_false_iff,decide_eq_true_eq,decide_eq_false_iff_not]; omega]
  cases QqC x.1<;>cases decide (x.2.length≠0)<;>cases (x.2.all fun c=>QqC c.1)<;>rfl
 ·rw [Qg8,QaF,cond_false]
theorem at_0 {α:Type}(x:α)(r:List α):at' (x::r) 0=some x:=Qao (l:=x::r) (i:=0) rfl
theorem at_1 {α:Type}(x y:α)(r:List α):at' (x::y::r) 1=some y:=Qao (l:=x::y::r) (i:=1) rfl
theorem QvR (d:List Qai)(h:QeA d):QjJ d=some (formed d):=by
 rw [QpQ,QEU d h]
 simp only [Qaj,Qaa,QaJ,Qbq]
 unfold formed
 cases d with
 | nil=>rfl
 | cons x r=>
  rw [at_0]
  simp only [Qaa,List.length_cons,QA7]
  rw [Qa7 (show ¬ (((r.length+1:Nat):Int)=0) by omega)]
  obtain ⟨nm,cs⟩:=x
  match cs with
  | []=>cases decide (nm=[66,111,111,108])<;>rfl
  | [a]=>cases decide (nm=[66,111,111,108])<;>rfl
  | a::b::c::cs=>
   have:decide ((((a::b::c::cs).length:Nat):Int)=2)=false:=Qa7 (by simp; omega)
   simp only [this]
   cases decide (nm=[66,111,111,108])<;>rfl
  | [a,b]=>
   have hf:a.2.length≤1000000000000:=h.fields (nm,[a,b]) (by simp) a (by simp)
   have hf2:b.2.length≤1000000000000:=h.fields (nm,[a,b]) (by simp) b (by simp)
   rw [at_0,at_1]
   simp only [Qaa,QCT]
   rw [show ((a.2.length:Int)+(b.2.length:Int))=((a.2.length+b.2.length:Nat):Int) by omega,QDI (by omega)]
   rw [show decide (0<((a.2.length+b.2.length:Nat):Int))=!(decide (a.2.length=0)&&decide (b.2.length=0)) by rw [Bool.eq_iff_iff]; simp only [Bool.and_eq_true,Bool.not_eq_true',Bool.and_eq_false_iff,decide_eq_true_eq,decide_eq_false_iff_not]; omega]
   cases decide (nm=[66,111,111,108])<;>cases decide (a.1=[70,97,108,115,101])<;>cases decide (b.1=[84,114,117,101])<;>cases decide (a.2.length=0)<;>cases decide (b.2.length=0)<;>cases QvQ _<;>rfl
end Go.Proofs.YtkecfadnfnnfaaaGreatDoor.LabB
