/- Of the models: tables of types. -/
import Derived.Test.YtkecfadnfnnfaaaGreatDoorModB
import Derived.Test.YtkecfadnfnnfaaaGreatDoorSyW
set_option linter.unusedVariables false
set_option linter.unusedSimpArgs false
namespace Go.Proofs.YtkecfadnfnnfaaaGreatDoor.LabB
open Go Go.Ev Go.Sy
def fArgs (op:Int):Int:=if op=0∨op=4∨op=5∨op=9 then 1 else if op=2 then 2 else if op=3∨op=6∨op=7∨op=8 then -1 else 0
def QwB (op:Int):Bool:=decide (1≤op∧op≤6)
def Qlb (op:Int):Bool:=decide (1≤op∧op≤6∧op≠5)
def fCon (op:Int):Bool:=decide (op=3∨op=8)
def fNum (op:Int):Bool:=decide (op=1∨op=2∨op=8)
def fFun (op:Int):Bool:=decide (op=6∨op=7∨op=8)
def fOf (op:Int):QCO:=(fArgs op,Qlb op,fCon op,fNum op,fFun op,decide (op=8),decide (op=9),QwB op,decide (op=9))
theorem QmK {op:Int}(h:0≤op∧op<10):op=0∨op=1∨op=2∨op=3∨op=4∨op=5∨op=6∨op=7∨op=8∨op=9:=by omega
theorem QGn {op:Int}(h:¬ (0≤op∧op<10)):fOf op=(0,false,false,false,false,false,false,false,false):=by
 unfold fOf fArgs Qlb fCon fNum fFun QwB
 rw [if_neg (by omega),if_neg (by omega),if_neg (by omega),QaD (by omega),QaD (by omega),QaD (by omega),QaD (by omega),QaD (by omega),QaD (by omega),QaD (by omega)]
theorem Qzm (op:Int)(h:0≤op∧op<10):at' ([(1,(false,(false,(false,(false,(false,(false,(false,false)))))))),(0,(true,(false,(true,(false,(false,(false,(true,false)))))))),(2,(true,(false,(true,(false,(false,(false,(true,false)))))))),(-1,(true,(true,(false,(false,(false,(false,(true,false)))))))),(1,(true,(false,(false,(false,(false,(false,(true,false)))))))),(1,(false,(false,(false,(false,(false,(false,(true,false)))))))),(-1,(true,(false,(false,(true,(false,(false,(true,false)))))))),(-1,(false,(false,(false,(true,(false,(false,(false,false)))))))),(-1,(false,(true,(true,(true,(true,(false,(false,false)))))))),(1,(false,(false,(false,(false,(false,(true,(false,true))))))))]:List QCO) op=some (fOf op):=by
 rcases QmK h with rfl |rfl |rfl |rfl |rfl |rfl |rfl |rfl |rfl |rfl<;>rfl
theorem Qvh (op:Int):Qpg op=some (fOf op,decide (0≤op∧op<10)):=by
 rw [QAp]
 simp only [Qah,Qaa,QaB,QaQ]
 by_cases h:0≤op∧op<10
 ·rw [QaD (show ¬ op<0 by omega),QbC h.2,QbC h]
  simp only [Bool.not_true,Bool.or_false,cond_false,Qop,Qaa,Qzm op h]
 ·rw [QaD h,QGn h]
  have:(decide (op<0)||!decide (op<10))=true:=by
   by_cases h0:op<0
   ·simp [h0]
   ·simp [show ¬ op<10 by omega]
  rw [this]
  rfl
abbrev nOp (n:Qag):Int:=n.1
abbrev nVar (n:Qag):Int:=n.2.1
abbrev QaJ (n:Qag):List Int:=n.2.2.1
abbrev nCon (n:Qag):Int:=n.2.2.2.1
abbrev nNum (n:Qag):Int:=n.2.2.2.2.1
abbrev nFun (n:Qag):Int:=n.2.2.2.2.2.1
abbrev Qgm (n:Qag):List Int:=n.2.2.2.2.2.2.1
abbrev Qgn (n:Qag):Bool:=n.2.2.2.2.2.2.2.1
abbrev nBr (n:Qag):List QbB:=n.2.2.2.2.2.2.2.2.1
abbrev QHz (n:Qag):Int:=n.2.2.2.2.2.2.2.2.2
structure QbM (n:Qag):Prop where
 args:(QaJ n).length≤1000
 more:(Qgm n).length≤1000
 br:(nBr n).length≤1000
 bs:∀ b∈nBr n,b.1.length≤1073741824
def kids (n:Qag):List Int:=if nOp n=9 then (nBr n).map (·.2) else if QwB (nOp n)=true then [QHz n] else []
def binds (n:Qag):List Int:=if nOp n=9 then (nBr n).flatMap (·.1) else if Qlb (nOp n)=true then [nVar n] else []
def uses (n:Qag):List Int:=if nOp n<0∨10≤nOp n∨nOp n=1 then [] else if nOp n=8 then (QaJ n++Qgm n).filter (fun v=>decide (0≤v)) else QaJ n
def QgC (n:Qag):Bool:=decide (0≤nOp n∧nOp n<10)&&(decide (fArgs (nOp n)<0)||decide (((QaJ n).length:Int)=fArgs (nOp n)))&&(Qlb (nOp n)||decide (nVar n=0))&&(fCon (nOp n)||decide (nCon n=0))&&(fNum (nOp n)||decide (nNum n=0))&&(fFun (nOp n)||decide (nFun n=0))&&
 (decide (nOp n=8)||decide (((Qgm n).length:Int)=0))&&(decide (nOp n=9)||!Qgn n)&&(QwB (nOp n)||decide (QHz n=0))&&(decide (nOp n=9)||decide (((nBr n).length:Int)=0))
theorem QCV (n:Qag):Qr0 n=some (QgC n):=by
 rw [Qwu,Qvh,Qaa]
 simp only [Qah,Qaa,QaB,QaQ,Qfj,QkB,fOf]
 unfold QgC
 simp only [Qan]
 grind
theorem QCW (op:Int)(h:0≤op∧op<10):at' ([1,0,2,-1,1,1,-1,-1,-1,1]:List Int) op=some (fArgs op):=by
 rcases QmK h with rfl |rfl |rfl |rfl |rfl |rfl |rfl |rfl |rfl |rfl<;>rfl
theorem QCX (n:Qag):Qpe n=some (QgC n):=by
 rw [Qu6]
 simp only [Qah,Qaa,QaB,QaQ,Qfj,QkB,Qoj]
 by_cases h:0≤nOp n∧nOp n<10
 ·rw [show (decide (n.1<0)||decide (9<n.1))=false by rw [QaD (show ¬ nOp n<0 by omega),QaD (show ¬ 9<nOp n by omega)]; rfl,cond_false,QCW n.1 h]
  simp only [Qaa,Qan]
  obtain ⟨op,var,args,con,num,fn,more,take,br,next⟩:=n
  unfold QgC
  simp only at h ⊢
  generalize hA:(args.length:Int)=na
  generalize hM:(more.length:Int)=nm
  generalize hB:(br.length:Int)=nb
  have hA':0≤na:=by omega
  have hM':0≤nm:=by omega
  have hB':0≤nb:=by omega
  clear hA hM hB
  rcases QmK h with rfl |rfl |rfl |rfl |rfl |rfl |rfl |rfl |rfl |rfl<;>simp [fArgs,Qlb,fCon,fNum,fFun,QwB]<;>grind
 ·rw [show (decide (n.1<0)||decide (9<n.1))=true by rw [Bool.or_eq_true,decide_eq_true_eq,decide_eq_true_eq]; show nOp n<0∨9<nOp n; omega,cond_true]
  unfold QgC
  rw [QaD h]
  simp
theorem Qsn {α β:Type}(f:α→List β):∀ (l:List α) (s:List β),l.foldl (fun s x=>s++f x) s=s++l.flatMap f
 | [],s=>by simp
 | x::l,s=>by rw [List.foldl_cons,Qsn f l]; simp
theorem QmL {α β:Type}(f:α→β):∀ (l:List α) (s:List β),l.foldl (fun s x=>s++[f x]) s=s++l.map f
 | [],s=>by simp
 | x::l,s=>by rw [List.foldl_cons,QmL f l]; simp
theorem foldl_filter {α:Type}(p:α→Bool):∀ (l s:List α),l.foldl (fun s x=>if p x=true then s++[x] else s) s=s++l.filter p
 | [],s=>by simp
 | x::l,s=>by
  rw [List.foldl_cons,foldl_filter p l,List.filter_cons]
  split<;>simp
theorem Qpt {α:Type}(b:Bool)(s:List α)(x:α):(if b=true then s++[x] else s).length≤s.length+1:=by
 cases b<;>simp
theorem QAt (l:List QbB)(hl:l.length≤1000000):Qg5 [] l (l.length:Int) 0=some (l.map (·.2)):=by
 have:=QaT (L:=fun s i=>Qg5 s l (l.length:Int) i) (l:=l) (F:=fun s x=>s++[x.2]) (E:=id) (fun i s=>s.length≤i)
  (fun s i x hx hI=>⟨by
   have:=QaU hx
   rw [Ql9,Qak hx,cond_true,Qai hx,Qaa,Qac (by omega),Qal hx (by omega)],by simp; omega⟩)
  (fun s hI=>by rw [Ql9,Qao,cond_false]; rfl) [] (by simp)
 rw [this,QmL]; rfl
theorem Qx9 (l:List QbB)(hl:l.length≤1000)(hb:∀ b∈l,b.1.length≤1073741824):Qga [] l (l.length:Int) 0=some (l.flatMap (·.1)):=by
 have:=QaT (L:=fun s i=>Qga s l (l.length:Int) i) (l:=l) (F:=fun s x=>s++x.1) (E:=id) (fun i s=>s.length≤i * 1073741824)
  (fun s i x hx hI=>⟨by
   have:=QaU hx
   have:=hb x (List.mem_of_getElem? hx)
   rw [Qk9,Qak hx,cond_true,Qai hx,Qaa,Qac (by omega),Qal hx (by omega)],by
   have:=hb x (List.mem_of_getElem? hx)
   simp; omega⟩)
  (fun s hI=>by rw [Qk9,Qao,cond_false]; rfl) [] (by simp)
 rw [this,Qsn]; rfl
theorem QAu (l:List Int)(hl:l.length≤1000000):QfE [] l (l.length:Int) 0=some (l.filter (fun v=>decide (0≤v))):=by
 have:=QaT (L:=fun s i=>QfE s l (l.length:Int) i) (l:=l) (F:=fun s x=>if decide (0≤x)=true then s++[x] else s) (E:=id) (fun i s=>s.length≤i)
  (fun s i x hx hI=>⟨by
   have:=QaU hx
   rw [Ql8,Qak hx,cond_true,Qai hx,Qaa,Qal hx (by omega)]
   by_cases h:x<0
   ·rw [Qac h,if_neg (by simp; omega)]
   ·rw [Qab h,Qac (by omega),if_pos (by simp; omega)],Nat.le_trans (Qpt _ _ _) (by have:=hI; omega)⟩)
  (fun s hI=>by rw [Ql8,Qao,cond_false]; rfl) [] (by simp)
 rw [this,foldl_filter]; rfl
theorem Qml (n:Qag)(h:QbM n):Qib n=some (kids n):=by
 rw [Qww,Qvh,Qaa]
 simp only [fOf,Qaa,QaB,QrX]
 have hb:=h.br
 unfold kids
 by_cases h9:nOp n=9
 ·rw [if_pos h9,Qac h9,show QwB n.1=false by rw [show n.1=9 from h9]; rfl,cond_false,QAt (nBr n) (by omega)]
  rfl
 ·rw [if_neg h9,Qab h9]
  cases QwB (nOp n)<;>rfl
theorem QhN (n:Qag)(h:QbM n):QfD n=some (binds n):=by
 rw [Qva,Qvh,Qaa]
 simp only [fOf,Qaa,QaB,QrX]
 have hb:=h.br
 unfold binds
 by_cases h9:nOp n=9
 ·rw [if_pos h9,Qac h9,show Qlb n.1=false by rw [show n.1=9 from h9]; rfl,cond_false,Qx9 (nBr n) (by omega) h.bs]
  rfl
 ·rw [if_neg h9,Qab h9]
  cases Qlb (nOp n)<;>rfl
theorem QCY (n:Qag)(h:QbM n):Qr1 n=some (uses n):=by
 rw [Qwv,Qvh,Qaa]
 simp only [fOf,Qaa,QaB,QrX]
 have ha:n.2.2.1.length≤1000:=h.args
 have hm:n.2.2.2.2.2.2.1.length≤1000:=h.more
 unfold uses
 by_cases hr:0≤nOp n∧nOp n<10
 ·rw [QbC hr,cond_true]
  by_cases hn:nOp n=1
  ·rw [if_pos (by omega)]
   exact Qac (p:=(fOf n.1).1=0) (by show fArgs (nOp n)=0; rw [hn]; rfl) _ _
  ·rw [if_neg (by omega)]
   refine (Qab (p:=(fOf n.1).1=0) (by show ¬ fArgs (nOp n)=0; unfold fArgs; repeat' split; all_goals omega) _ _).trans ?_
   by_cases h8:nOp n=8
   ·rw [if_pos h8,Qac h8,Qac (by omega),Qac (by omega),QAu _ (by simp; omega)]
    rfl
   ·rw [if_neg h8,Qab h8,Qac (by omega)]
 ·rw [QaD hr,cond_false,if_pos (by omega)]
  rfl
theorem QGo (n:Qag)(hl:(nBr n).length≤1000000):Qf9 [] n 0=some ((nBr n).map (·.2)):=by
 have:=QaT (L:=fun s i=>Qf9 s n i) (l:=nBr n) (F:=fun s x=>s++[x.2]) (E:=id) (fun i s=>s.length≤i)
  (fun s i x hx hI=>⟨by
   have:=QaU hx
   rw [Qk7,Qak hx,cond_true,Qai hx,Qaa,Qac (by omega),Qal hx (by omega)],by simp; omega⟩)
  (fun s hI=>by rw [Qk7,Qao,cond_false]; rfl) [] (by simp)
 rw [this,QmL]; rfl
theorem QEM (n:Qag)(hl:(nBr n).length≤1000)(hb:∀ b∈nBr n,b.1.length≤1073741824):QeX [] n 0=some ((nBr n).flatMap (·.1)):=by
 have:=QaT (L:=fun s i=>QeX s n i) (l:=nBr n) (F:=fun s x=>s++x.1) (E:=id) (fun i s=>s.length≤i * 1073741824)
  (fun s i x hx hI=>⟨by
   have:=QaU hx
   have:=hb x (List.mem_of_getElem? hx)
   rw [Qj1,Qak hx,cond_true,Qai hx,Qaa,Qac (by omega),Qal hx (by omega)],by
   have:=hb x (List.mem_of_getElem? hx)
   simp; omega⟩)
  (fun s hI=>by rw [Qj1,Qao,cond_false]; rfl) [] (by simp)
 rw [this,Qsn]; rfl
theorem QwC (n:Qag)(h:QbM n):QgK n=some (kids n):=by
 rw [Qu8]
 have hb:=h.br
 unfold kids QwB
 by_cases h9:nOp n=9
 ·have h9':n.1=9:=h9
  rw [if_pos h9,Qab (by omega),Qab (by omega),Qab (by omega),Qab (by omega),Qab (by omega),Qab (by omega),Qac h9,QGo n (by omega)]
  rfl
 ·rw [if_neg h9]
  simp only [Qan,decide_eq_true_eq]
  grind
theorem Qso (n:Qag)(h:QbM n):Qea n=some (binds n):=by
 rw [QsY]
 have hb:=h.br
 unfold binds Qlb
 by_cases h9:nOp n=9
 ·have h9':n.1=9:=h9
  rw [if_pos h9,Qab (by omega),Qab (by omega),Qab (by omega),Qab (by omega),Qab (by omega),Qac h9,QEM n (by omega) h.bs]
  rfl
 ·rw [if_neg h9]
  simp only [Qan,decide_eq_true_eq]
  grind
theorem QGp (n:Qag)(hl:(QaJ n).length≤1000000):Qey [] n 0=some (if nOp n=8 then (QaJ n).filter (fun v=>decide (0≤v)) else QaJ n):=by
 have:=QaT (L:=fun s i=>Qey s n i) (l:=QaJ n) (F:=fun s x=>if (decide (nOp n≠8)||decide (0≤x))=true then s++[x] else s) (E:=id) (fun i s=>s.length≤i)
  (fun s i x hx hI=>⟨by
   have:=QaU hx
   rw [Qk5,Qak hx,cond_true,Qai hx,Qaa]
   simp only [Qaa,QaB]
   rw [Qac (show (s.length+1) * 8≤35184372088832 by omega),Qal hx (by omega)]
   by_cases h8:nOp n=8
   ·rw [Qac h8]
    by_cases h:x<0
    ·rw [QbC h,if_neg (by simp [h8]; omega)]; rfl
    ·rw [QaD h,if_pos (by simp; omega)]; rfl
   ·rw [Qab h8,if_pos (by simp [h8])]; rfl,Nat.le_trans (Qpt _ _ _) (by have:=hI; omega)⟩)
  (fun s hI=>by rw [Qk5,Qao,cond_false]; rfl) [] (by simp)
 rw [this,foldl_filter]
 by_cases h8:nOp n=8
 ·simp [h8]
 ·simp [h8]
theorem QGq (n:Qag)(s:List Int)(hs:s.length≤1000000)(hl:(Qgm n).length≤1000000):Qez s n 0=some (s++(Qgm n).filter (fun v=>decide (0≤v))):=by
 have:=QaT (L:=fun s i=>Qez s n i) (l:=Qgm n) (F:=fun s x=>if decide (0≤x)=true then s++[x] else s) (E:=id) (fun i s=>s.length≤i+1000000)
  (fun s i x hx hI=>⟨by
   have:=QaU hx
   rw [Qk6,Qak hx,cond_true,Qai hx,Qaa,Qal hx (by omega)]
   by_cases h:x<0
   ·rw [Qac h,if_neg (by simp; omega)]
   ·rw [Qab h,Qac (by omega),if_pos (by simp; omega)],Nat.le_trans (Qpt _ _ _) (by have:=hI; omega)⟩)
  (fun s hI=>by rw [Qk6,Qao,cond_false]; rfl) s (by omega)
 rw [this,foldl_filter]
 rfl
theorem QHA (n:Qag)(h:QbM n):Qpf n=some (uses n):=by
 rw [Qu7]
 simp only [Qaa,QaB,Qah,QaQ]
 have ha:(QaJ n).length≤1000:=h.args
 have hm:(Qgm n).length≤1000:=h.more
 unfold uses
 by_cases hr:nOp n<0∨10≤nOp n∨nOp n=1
 ·rw [if_pos hr,Qoh (by simp only [Bool.or_eq_true,decide_eq_true_eq]; show (nOp n<0∨9<nOp n)∨nOp n=1; omega)]
 ·rw [if_neg hr,QdQ (by simp only [Bool.or_eq_false_iff,decide_eq_false_iff_not]; show (¬ nOp n<0∧¬ 9<nOp n)∧¬ nOp n=1; omega),QGp n (by omega),Qaa]
  by_cases h8:nOp n=8
  ·rw [if_pos h8,if_pos h8,Qac h8,QGq n _ (by have:=List.length_filter_le (fun v=>decide (0≤v)) (QaJ n); omega) (by omega),Qaa,Qaa,List.filter_append]
  ·rw [if_neg h8,if_neg h8,Qab h8]
end Go.Proofs.YtkecfadnfnnfaaaGreatDoor.LabB
namespace Go.Proofs.YtkecfadnfnnfaaaGreatDoor.LabB
open Go Go.Ev Go.Sy
def cUp (v:Int):Bool:=decide (65≤v∧v≤90)
def cLo (v:Int):Bool:=decide (97≤v∧v≤122)
def cDi (v:Int):Bool:=decide (48≤v∧v≤57)
def cCh (v:Int):Bool:=cLo v||cUp v||cDi v||decide (v=95)
abbrev tI (b:UInt8):Int:=(b.toNat:Int)
def word (s:List UInt8)(lo hi:Int):Bool:=match s with
 | []=>false
 | b::r=>decide (r.length<32)&&decide (lo≤tI b∧tI b≤hi)&&(b::r).all (fun c=>cCh (tI c))
theorem Qya (v:Int):Ql4 v=some (cCh v):=by
 rw [Qsd]
 simp only [Qah,Qaa,QaB,QaQ,Qg2,QkB,Qoj]
 unfold cCh cLo cUp cDi
 congr 1
 rw [Bool.eq_iff_iff]
 simp
 omega
theorem QCZ (s:List UInt8)(hs:s.length≤9223372036854775807):Qf7 s 0=some (if s.all (fun c=>cCh (tI c))=true then .inl () else .inr ()):=by
 refine Qap (L:=fun i=>Qf7 s i) (p:=fun c=>cCh (tI c)) (fun i x hx=>?_) ?_
 ·rw [Qk3,Qak hx,cond_true,QrY _ hx,Qaa,Qya,Qaa,Qal hx hs,Qan]
 ·rw [Qk3,Qao,cond_false]
theorem Qsp (s:List UInt8)(hs:s.length≤9223372036854775807)(lo hi:Int):QjO s lo hi=some (word s lo hi):=by
 rw [Qu5,QCZ s hs]
 simp only [Qah,Qaa,QaB,QaQ]
 cases s with
 | nil=>rfl
 | cons b r=>
  rw [show ((0:Int))=((0:Nat):Int) from rfl,QrY (i:=0) (x:=b) _ rfl]
  simp only [Qaa]
  unfold word
  simp only [List.length_cons,Qan]
  have:(((r.length+1:Nat):Int)<1)=False:=by simp; omega
  grind
theorem QHB:∀ b:UInt8,([97,98,99,100,101,102,103,104,105,106,107,108,109,110,111,112,113,114,115,116,117,118,119,120,121,122,65,66,67,68,69,70,71,72,73,74,75,76,77,78,79,80,81,82,83,84,85,86,87,88,89,90,48,49,50,51,52,53,54,55,56,57,95]:List UInt8).contains b=cCh (tI b):=by
 have h:∀ n:Fin 256,([97,98,99,100,101,102,103,104,105,106,107,108,109,110,111,112,113,114,115,116,117,118,119,120,121,122,65,66,67,68,69,70,71,72,73,74,75,76,77,78,79,80,81,82,83,84,85,86,87,88,89,90,48,49,50,51,52,53,54,55,56,57,95]:List UInt8).contains (UInt8.ofNat n.val)=cCh (tI (UInt8.ofNat n.val)):=by decide +kernel
 intro b
 have:=h ⟨b.toNat,b.toNat_lt⟩
 simpa using this
theorem dropWhile_nil {α:Type}(p:α→Bool):∀ l:List α,l.dropWhile p=[]↔l.all p=true
 | []=>by simp
 | x::l=>by
  rw [List.dropWhile_cons,List.all_cons]
  cases h:p x with
  | true=>simp only [if_true,Bool.true_and]; exact dropWhile_nil p l
  | false=>simp
theorem QFp {α:Type}(p:α→Bool){x:α}:∀ l:List α,x∈l.takeWhile p→p x=true
 | [],h=>by simp at h
 | y::l,h=>by
  rw [List.takeWhile_cons] at h
  split at h
  ·rename_i hy
   rcases List.mem_cons.1 h with rfl |h
   ·exact hy
   ·exact QFp p l h
  ·simp at h
theorem QEN (p:UInt8→Bool)(s:List UInt8):(s.reverse.dropWhile p).reverse.dropWhile p=[]↔s.all p=true:=by
 constructor
 ·intro h
  have h1:=(dropWhile_nil p _).1 h
  rw [List.all_eq_true] at h1 ⊢
  intro x hx
  by_cases hp:p x=true
  ·exact hp
  ·have hm:x∈s.reverse:=by simpa using hx
   have:x∈s.reverse.takeWhile p++s.reverse.dropWhile p:=by rw [List.takeWhile_append_dropWhile]; exact hm
   rw [List.mem_append] at this
   rcases this with h3 |h3
   ·exact absurd (QFp p _ h3) hp
   ·exact h1 x (by simpa using h3)
 ·intro h
  have:s.reverse.dropWhile p=[]:=(dropWhile_nil p _).2 (by rw [List.all_eq_true] at h ⊢; intro x hx; exact h x (by simpa using hx))
  rw [this]
  rfl
theorem Qp3 (s:List UInt8)(hs:s.length<4294967281)(lo hi:Int):QiO s lo hi=some (word s lo hi):=by
 rw [Qr7,Qsl]
 simp only [Qah,Qaa,QaB,QaQ]
 cases s with
 | nil=>rfl
 | cons b r=>
  rw [show ((0:Int))=((0:Nat):Int) from rfl,QrY (i:=0) (x:=b) _ rfl]
  simp only [Qaa]
  rw [show Qx1 (b::r) [97,98,99,100,101,102,103,104,105,106,107,108,109,110,111,112,113,114,115,116,117,118,119,120,121,122,65,66,67,68,69,70,71,72,73,74,75,76,77,78,79,80,81,82,83,84,85,86,87,88,89,90,48,49,50,51,52,53,54,55,56,57,95]=some (((b::r).reverse.dropWhile (fun c=>cCh (tI c))).reverse.dropWhile (fun c=>cCh (tI c))) by
   unfold Qx1
   rw [show Nat.blt (b::r).length 4294967281=true from by rw [Nat.blt_eq]; exact hs]
   rw [show (fun c=>cCh (tI c))=List.contains ([97,98,99,100,101,102,103,104,105,106,107,108,109,110,111,112,113,114,115,116,117,118,119,120,121,122,65,66,67,68,69,70,71,72,73,74,75,76,77,78,79,80,81,82,83,84,85,86,87,88,89,90,48,49,50,51,52,53,54,55,56,57,95]:List UInt8) from funext fun c=>(QHB c).symm]
   rfl]
  simp only [Qaa,QEN]
  unfold word
  simp only [List.length_cons,Qan]
  have:(((r.length+1:Nat):Int)=0)=False:=by simp; omega
  grind
def QwD (s:List UInt8):Bool:=word (cut1 s 46).1 97 122&&(!(cut1 s 46).2.2||word (cut1 s 46).2.1 97 122)
theorem QGr (s:List UInt8)(c:UInt8):(cut1 s c).1.length≤s.length∧(cut1 s c).2.1.length≤s.length:=by
 unfold cut1
 split
 ·simp
 ·rename_i x r h
  have h1:(s.takeWhile (· != c)).length+(s.dropWhile (· != c)).length=s.length:=by rw [← List.length_append,List.takeWhile_append_dropWhile]
  rw [h] at h1
  simp only [List.length_cons] at h1
  simp only
  omega
theorem QC0 (s:List UInt8)(hs:s.length<4294967281):QrZ s=some (QwD s):=by
 have:=QGr s 46
 rw [Qwt,Qs7]
 rw [show cutM s [46]=some (cut1 s 46) by unfold cutM; rw [show Nat.blt s.length 4294967281=true by rw [Nat.blt_eq]; exact hs]]
 rw [Qaa]
 unfold QwD
 rcases hc:cut1 s 46 with ⟨a,b,t⟩
 rw [hc] at this
 simp only
 rw [Qp3 a (by simp only at this; omega),Qp3 b (by simp only at this; omega)]
 simp only [Qaa,QaB,QkB,Qan]
 cases word a 97 122<;>cases t<;>rfl
theorem QC1 (b:UInt8)(r:List UInt8)(c:UInt8):cut1 (b::r) c=if b=c then ([],r,true) else (b::(cut1 r c).1,(cut1 r c).2.1,(cut1 r c).2.2):=by
 by_cases h:b=c
 ·subst h
  simp [cut1]
 ·rw [if_neg h]
  unfold cut1
  have h2:(b != c)=true:=by simpa using h
  rw [List.dropWhile_cons,if_pos h2,List.takeWhile_cons,if_pos h2]
  cases hd:r.dropWhile (· != c) with
  | nil=>rfl
  | cons x l=>rfl
theorem QAv (s:List UInt8)(hs:s.length≤1000000000):∀ (r pre:List UInt8),s=pre++r→Qf5 s (pre.length:Int)=some (if (cut1 r 46).2.2=true then .inr (word (pre++(cut1 r 46).1) 97 122&&word (cut1 r 46).2.1 97 122) else .inl ()):=by
 intro r
 induction r with
 | nil=>
  intro pre h
  subst h
  rw [Qk2,QeQ,cond_false]
  rfl
 | cons b r ih=>
  intro pre h
  have hl:s.length=pre.length+(r.length+1):=by rw [h]; simp
  have hx:s[pre.length]?=some b:=by rw [h,List.getElem?_append_right (Nat.le_refl _)]; simp
  rw [Qk2,Qak hx,cond_true,QrY _ hx,Qaa,QC1,Qal hx (by omega)]
  by_cases hb:b=46
  ·subst hb
   rw [if_pos rfl,Qac (by rfl),Qab (by omega),Qab (by omega)]
   simp only [Nat.sub_zero,List.drop_zero,Int.toNat_natCast]
   have e1:List.take pre.length s=pre:=by rw [h]; simp
   have e2:List.take (s.length - (pre.length+1)) (List.drop (pre.length+1) s)=r:=by
    have e3:List.drop (pre.length+1) s=r:=by
     rw [show s=(pre++[46])++r by rw [h]; simp,show pre.length+1=(pre++[46]).length by simp,List.drop_left]
    rw [e3]
    exact List.take_of_length_le (by omega)
   rw [e1,e2,Qsp pre (by omega),Qsp r (by omega),Qab (by omega),Qab (by omega)]
   simp only [Qaa,List.append_nil,if_true]
   cases word pre 97 122<;>rfl
  ·have:¬ (tI b=46):=by
    intro h3
    apply hb
    have h4:b.toNat=46:=by have h5:(b.toNat:Int)=46:=h3; omega
    exact UInt8.toNat_inj.1 (by rw [h4]; rfl)
   rw [if_neg hb,Qab this]
   rw [show ((pre.length+1:Nat):Int)=((pre++[b]).length:Int) by simp,ih (pre++[b]) (by rw [h]; simp)]
   simp
theorem QGs (r:List UInt8)(c:UInt8)(h:(cut1 r c).2.2=false):cut1 r c=(r,[],false):=by
 unfold cut1 at h ⊢
 split at h
 ·rfl
 ·cases h
theorem QAw (s:List UInt8)(hs:s.length≤1000000000):Qpd s=some (QwD s):=by
 rw [Qu4,show Qf5 s 0=_ from QAv s hs s [] rfl,Qaa]
 unfold QwD
 cases h:(cut1 s 46).2.2 with
 | true=>simp
 | false=>
  rw [QGs s 46 h]
  simp only [Bool.false_eq_true,if_false]
  rw [Qsp s (by omega)]
  simp [Qaa]
def Qlu (s:List UInt8):Bool:=word s 65 90
theorem bif3 {α:Type}(a b:Bool)(x y:α):(bif a then x else bif b then x else y)=bif (a||b) then x else y:=by cases a<;>rfl
theorem QAx (s:List UInt8)(hs:s.length≤1000000000):Qde s (s.length:Int) 0=some (if s.all (fun c=>cCh (tI c))=true then .inr () else .inl ()):=by
 refine Qap (L:=fun i=>Qde s (s.length:Int) i) (p:=fun c=>cCh (tI c)) (fun i x hx=>?_) ?_
 ·rw [Qk1,Qak hx,cond_true,QrY _ hx,Qaa,Qal hx (by omega)]
  simp only [Qah,Qaa,QaB,QaQ,Qg2,Qoj,bif3]
  rw [Qan]
  rw [show (!decide ((x.toNat:Int)<97)&&!decide (122<(x.toNat:Int))||(!decide ((x.toNat:Int)<65)&&!decide (90<(x.toNat:Int))||(!decide ((x.toNat:Int)<48)&&!decide (57<(x.toNat:Int))||decide ((x.toNat:Int)=95))))=cCh (tI x) by
   unfold cCh cLo cUp cDi
   rw [Bool.eq_iff_iff]
   simp only [Bool.or_eq_true,Bool.and_eq_true,Bool.not_eq_true',decide_eq_true_eq,decide_eq_false_iff_not,tI]
   omega]
 ·rw [Qk1,Qao,cond_false]
theorem QtS (s:List UInt8)(hs:s.length≤1000000000):QmJ s=some (Qlu s):=by
 rw [Qu3,QAx s hs]
 simp only [Qah,Qaa,QaB,QaQ]
 cases s with
 | nil=>rfl
 | cons b r=>
  rw [show ((0:Int))=((0:Nat):Int) from rfl,QrY (i:=0) (x:=b) _ rfl]
  simp only [Qaa]
  unfold Qlu word
  simp only [List.length_cons,Qan]
  grind
theorem Qyb (s:List UInt8)(hs:s.length≤1000000000):Qct s 0=some (if allI (fun i c=>cUp (tI c)||(decide (i≠0)&&cCh (tI c))) 0 s=true then .inr () else .inl ()):=by
 refine Qcs (L:=fun i=>Qct s i) (p:=fun i c=>cUp (tI c)||(decide (i≠0)&&cCh (tI c))) (fun i x hx=>?_) ?_
 ·rw [QiW,Qak hx,cond_true,QrY _ hx,Qaa,Qal hx (by omega)]
  simp only [Qah,Qaa,QaB,QaQ,Qg2,Qoj,Qzk]
  have e1:(!decide ((x.toNat:Int)<65)&&!decide (90<(x.toNat:Int)))=cUp (tI x):=by
   unfold cUp
   rw [Bool.eq_iff_iff]
   simp only [Bool.or_eq_true,Bool.and_eq_true,Bool.not_eq_true',decide_eq_true_eq,decide_eq_false_iff_not,tI]
   omega
  have e2:(!decide ((x.toNat:Int)<97)&&!decide (122<(x.toNat:Int))||(cUp (tI x)||(!decide ((x.toNat:Int)<48)&&!decide (57<(x.toNat:Int))||decide ((x.toNat:Int)=95))))=cCh (tI x):=by
   unfold cCh cLo cUp cDi
   rw [Bool.eq_iff_iff]
   simp only [Bool.or_eq_true,Bool.and_eq_true,Bool.not_eq_true',decide_eq_true_eq,decide_eq_false_iff_not,tI]
   omega
  rw [e1]
  rw [← e2]
  cases cUp (tI x) with
  | true=>rfl
  | false=>
   by_cases hi:i=0
   ·subst hi
    rfl
   ·rw [QaD (show ¬ ((i:Int)=0) by omega),QbC (show i≠0 from hi)]
    by_cases h97:(x.toNat:Int)<97
    ·rw [QbC h97]
     simp [Qan]
    ·rw [QaD h97]
     simp [Qan]
     grind
 ·rw [QiW,Qao,cond_false]
theorem Qzn (p q:UInt8→Bool)(h:∀ c,q c=(p c||q c)):∀ (l:List UInt8) (i:Nat),allI (fun i c=>p c||(decide (i≠0)&&q c)) (i+1) l=l.all q
 | [],i=>rfl
 | x::l,i=>by
  rw [allI,Qzn p q h l (i+1),List.all_cons]
  congr 1
  rw [h x]
  simp
theorem Qsq (s:List UInt8)(hs:s.length≤1000000000):QiN s=some (Qlu s):=by
 rw [Qr6,Qyb s hs]
 simp only [Qah,Qaa,QaB,QaQ]
 cases s with
 | nil=>rfl
 | cons b r=>
  unfold Qlu word
  rw [allI,Qzn (fun c=>cUp (tI c)) (fun c=>cCh (tI c)) (fun c=>by unfold cCh; cases cUp (tI c)<;>simp)]
  simp only [List.all_cons]
  simp only [List.length_cons,Qan]
  have:cUp (tI b)=true→cCh (tI b)=true:=fun h=>by unfold cCh; rw [h]; simp
  have e:cUp (tI b)=decide (65≤tI b∧tI b≤90):=rfl
  rw [← e]
  generalize (r.all fun c=>cCh (tI c))=A
  generalize cCh (tI b)=B at *
  generalize cUp (tI b)=U at *
  cases U with
  | false=>simp
  | true=>
   rw [this rfl]
   cases A with
   | false=>simp
   | true=>
    simp
    by_cases h:r.length<32
    ·simp [h]; omega
    ·simp [h]; omega
end Go.Proofs.YtkecfadnfnnfaaaGreatDoor.LabB
namespace Go.Proofs.YtkecfadnfnnfaaaGreatDoor.LabB
open Go Go.Ev Go.Sy
structure QbN (d:List Qaj):Prop where
 len:d.length≤1000
 names:∀ x∈d,x.1.length≤1000000000
 cons:∀ x∈d,x.2.length≤1000000
 QFq:∀ x∈d,∀ c∈x.2,c.1.length≤1000000000
 fields:∀ x∈d,∀ c∈x.2,c.2.length≤1000000000000
def isTy (d:List Qaj)(t:Int):Bool:=decide (0≤t∧t≤(d.length:Int))
def QeI (d:List Qaj)(t:Int):List GCon:=if t<1 then [] else match d[(t - 1).toNat]? with |some x=>x.2 |none=>[]
def flat (d:List Qaj)(t:Int):Bool:=isTy d t&&(QeI d t).all fun c=>decide (c.2.length=0)
theorem Qp4 (d:List Qaj)(t:Int):QiQ d t=some (isTy d t):=by
 rw [Qse]
 simp only [Qah,Qaa,Qg2]
 congr 1
 unfold isTy
 rw [Bool.eq_iff_iff]
 simp only [Bool.and_eq_true,Bool.not_eq_true',decide_eq_true_eq,decide_eq_false_iff_not]
 omega
theorem Qsr (d:List Qaj)(t:Int):QiP d t=some (isTy d t):=by
 rw [Qsc]
 simp only [Qah,Qaa,Qg2]
 congr 1
 unfold isTy
 rw [Bool.eq_iff_iff]
 simp only [Bool.and_eq_true,Bool.not_eq_true',decide_eq_true_eq,decide_eq_false_iff_not]
 omega
theorem Qp5 (p:Qad)(t:Int):Qd5 p t=some (isTy p.1 t):=by
 rw [Qsb]
 simp only [Qah,Qaa,Qg2]
 congr 1
 unfold isTy
 rw [Bool.eq_iff_iff]
 simp only [Bool.and_eq_true,Bool.not_eq_true',decide_eq_true_eq,decide_eq_false_iff_not]
 omega
theorem Qim {t:Int}(h0:0≤t)(h1:t≤9223372036854775807):Ev.wr .i64 (t - 1)=t - 1:=Qog (by omega) (by omega)
theorem QC2 (d:List Qaj)(hl:d.length≤1000)(t:Int)(h:isTy d t=true):Qpi d t=some (QeI d t):=by
 unfold isTy at h
 rw [decide_eq_true_eq] at h
 rw [Qvd]
 simp only [Qah,Qaa,QaQ]
 unfold QeI
 by_cases h1:t<1
 ·rw [QbC h1,if_pos h1]; rfl
 ·rw [QaD h1,if_neg h1,QaD (show ¬ (d.length:Int)<t by omega),Qim (by omega) (by omega)]
  obtain ⟨x,hx,hx'⟩:=QgJ (l:=d) (i:=t - 1) (by omega) (by omega)
  rw [hx,hx']
  rfl
def idxR (o:Option Nat):Int:=match o with |some j=>(j:Int) |none => -1
theorem QEO (o:Option Nat):(!decide (idxR o<0))=o.isSome:=by
 cases o with
 | none=>rfl
 | some j=>show (!decide ((j:Int)<0))=true; rw [QaD (by omega)]; rfl
theorem any7 (l:List GCon)(hl:l.length≤1000000):QdM l=some (l.any fun c=>decide (0<(c.2.length:Int))):=by
 rw [Qjv,Qln]
 rw [Qdp (L:=fun i=>QcM l (l.length:Int) i) (l:=l) (p:=fun c=>decide (0<(c.2.length:Int))) (A:=fun j=>.inr (j:Int)) (B:=.inl ()) (fun i x hx=>by
  rw [Qfa,Qak hx,cond_true,Qai hx,Qaa,Qsh,Qaa,Qal hx (by omega),Qan]) (by rw [Qfa,Qao,cond_false])]
 rw [← Qcn _ l 0]
 cases Qjl _ 0 l with
 | none=>rfl
 | some j=>simp only [Qaa]; rw [QaD (by omega)]; rfl
theorem QAy (d:List Qaj)(h:QbN d)(t:Int):(QeI d t).length≤1000000:=by
 unfold QeI
 split
 ·simp
 ·split
  ·rename_i x hx
   exact h.cons x (List.mem_of_getElem? hx)
  ·simp
theorem Qos (d:List Qaj)(h:QbN d)(t:Int):QhK d t=some (flat d t):=by
 rw [Qvc,Qp4,Qaa]
 unfold flat
 cases ht:isTy d t with
 | false=>rfl
 | true=>
  rw [QC2 d h.len t ht]
  simp only [cond_true,Qaa,Bool.true_and]
  rw [any7 _ (QAy d h t)]
  simp only [Qaa]
  congr 1
  rw [List.not_any_eq_all_not]
  congr 1
  funext c
  rw [Bool.eq_iff_iff]
  simp only [Bool.not_eq_true',decide_eq_true_eq,decide_eq_false_iff_not]
  omega
theorem Qkf (d:List Qaj)(h:QbN d)(t:Int):QgL d t=some (flat d t):=by
 rw [Qu9,Qsr,Qaa]
 have hl:=h.len
 unfold flat
 by_cases h0:t=0
 ·rw [Qac h0]
  subst h0
  unfold isTy QeI
  rw [QbC (by omega),if_pos (by omega)]
  rfl
 ·rw [Qab h0]
  cases ht:isTy d t with
  | false=>rfl
  | true=>
   unfold isTy at ht
   rw [decide_eq_true_eq] at ht
   obtain ⟨x,hx,hx'⟩:=QgJ (l:=d) (i:=t - 1) (by omega) (by omega)
   have hc:=h.cons x (List.mem_of_getElem? hx')
   have:QeI d t=x.2:=by unfold QeI; rw [if_neg (by omega),hx']
   rw [cond_true,Qap (L:=fun i=>QhE d t i) (l:=x.2) (p:=fun c=>decide (c.2.length=0)) (A:=.inl ()) (B:=.inr ()) (fun i c hx2=>by
    rw [Qk8,Qim (by omega) (by omega),hx,Qaa,Qak hx2,cond_true,Qai hx2,Qaa,Qal hx2 (by omega)]
    by_cases hz:c.2.length=0
    ·rw [Qab (by omega),if_pos (by simpa using hz)]
    ·rw [Qac (by omega),if_neg (by simpa using hz)]) (by rw [Qk8,Qim (by omega) (by omega),hx,Qaa,Qao,cond_false]),this,Qaa,Bool.true_and]
   cases x.2.all _<;>rfl
def many (d:List Qaj):Bool:=decide (64<(d.length:Int))||d.any fun x=>decide (16<(x.2.length:Int))||x.2.any fun c=>decide (6<(c.2.length:Int))
theorem any0 (l:List GCon)(hl:l.length≤1000000):QeJ l=some (l.any fun c=>decide (6<(c.2.length:Int))):=by
 rw [QkI,QmN]
 rw [Qdp (L:=fun i=>Qc1 l (l.length:Int) i) (l:=l) (p:=fun c=>decide (6<(c.2.length:Int))) (A:=fun j=>.inr (j:Int)) (B:=.inl ()) (fun i x hx=>by
  rw [Qgf,Qak hx,cond_true,Qai hx,Qaa,Qsa,Qaa,Qal hx (by omega),Qan]) (by rw [Qgf,Qao,cond_false])]
 rw [← Qcn _ l 0]
 cases Qjl _ 0 l with
 | none=>rfl
 | some j=>simp only [Qaa]; rw [QaD (by omega)]; rfl
theorem QC3 (d:List Qaj)(h:QbN d):Qpb d=some (many d):=by
 have hl:=h.len
 rw [Qu1]
 unfold many
 by_cases h64:(64:Int)<(d.length:Int)
 ·rw [Qac h64,QbC h64]; rfl
 ·rw [Qab h64,QaD h64,Qap (L:=fun i=>QhB d (d.length:Int) i) (l:=d) (p:=fun x=>!(decide (16<(x.2.length:Int))||x.2.any fun c=>decide (6<(c.2.length:Int)))) (A:=.inl ()) (B:=.inr ()) (fun i x hx=>by
   rw [QkY,Qak hx,cond_true,Qai hx,Qaa,any0 _ (h.cons x (List.mem_of_getElem? hx))]
   simp only [Qaa,Qah,QaQ]
   rw [Qal hx (by omega),Qan]
   cases (decide (16<(x.2.length:Int))||x.2.any fun c=>decide (6<(c.2.length:Int)))<;>rfl) (by rw [QkY,Qao,cond_false]),Qaa,Bool.false_or,← List.not_any_eq_all_not]
  cases d.any _<;>rfl
theorem QHC (d:List Qaj)(h:QbN d)(k:Nat)(x:Qaj)(hx:d[k]?=some x):Qf4 d (k:Int) 0=some (if x.2.all (fun c=>!decide (6<(c.2.length:Int)))=true then .inr () else .inl ()):=by
 have hc:=h.cons x (List.mem_of_getElem? hx)
 refine Qap (L:=fun i=>Qf4 d (k:Int) i) (l:=x.2) (p:=fun c=>!decide (6<(c.2.length:Int))) (fun i c hx2=>?_) ?_
 ·rw [Qk0,Qai hx,Qaa,Qak hx2,cond_true,Qai hx2,Qaa,Qal hx2 (by omega),Qan]
  cases decide (6<(c.2.length:Int))<;>rfl
 ·rw [Qk0,Qai hx,Qaa,Qao,cond_false]
theorem QAz (d:List Qaj)(h:QbN d):Qpc d=some (many d):=by
 have hl:=h.len
 rw [Qu2]
 unfold many
 by_cases h64:(64:Int)<(d.length:Int)
 ·rw [Qac h64,QbC h64]; rfl
 ·rw [Qab h64,QaD h64,Qap (L:=fun i=>QhC d i) (l:=d) (p:=fun x=>!(decide (16<(x.2.length:Int))||x.2.any fun c=>decide (6<(c.2.length:Int)))) (A:=.inl ()) (B:=.inr ()) (fun i x hx=>by
   rw [QkZ,Qak hx,cond_true,Qai hx,Qaa,QHC d h i x hx,Qaa,Qal hx (by omega),← List.not_any_eq_all_not]
   cases decide (16<(x.2.length:Int))<;>cases (x.2.any fun c=>decide (6<(c.2.length:Int)))<;>rfl) (by rw [QkZ,Qao,cond_false]),Qaa,Bool.false_or,← List.not_any_eq_all_not]
  cases d.any _<;>rfl
def Qss (d:List Qaj):Bool:=d.all fun x=>Qlu x.1&&decide (x.2.length≠0)&&x.2.all fun c=>Qlu c.1
def Qyc:List Qaj→Bool
 | []=>false
 | x::_=>decide (x.1=[66,111,111,108])&&match x.2 with
  | [a,b]=>decide (a.1=[70,97,108,115,101])&&decide (b.1=[84,114,117,101])&&decide (a.2.length=0)&&decide (b.2.length=0)
  | _=>false
def formed (d:List Qaj):Bool:=Qyc d&&Qss d
theorem any1 (d:List Qaj)(h:QbN d)(x:Qaj)(hx:x∈d):QdG x.2=some (!x.2.all fun c=>Qlu c.1):=by
 have hl:=h.cons x hx
 rw [Qjp,Qlg]
 rw [Qdp (L:=fun i=>QcG x.2 (x.2.length:Int) i) (l:=x.2) (p:=fun c=>!Qlu c.1) (A:=fun j=>.inr (j:Int)) (B:=.inl ()) (fun i c hc=>by
  rw [Qe4,Qak hc,cond_true,Qai hc,Qaa,Qpl,QtS _ (h.QFq x hx c (List.mem_of_getElem? hc)),Qaa,Qaa,Qal hc (by omega),Qan]) (by rw [Qe4,Qao,cond_false])]
 rw [List.not_all_eq_any_not,← Qcn _ x.2 0]
 cases Qjl _ 0 x.2 with
 | none=>rfl
 | some j=>simp only [Qaa]; rw [QaD (by omega)]; rfl
theorem QGt (d:List Qaj)(h:QbN d):QdZ d (d.length:Int) 0=some (if Qss d=true then .inl () else .inr ()):=by
 have hl:=h.len
 refine Qap (L:=fun i=>QdZ d (d.length:Int) i) (l:=d) (p:=fun x=>Qlu x.1&&decide (x.2.length≠0)&&x.2.all fun c=>Qlu c.1) (fun i x hx=>?_) ?_
 ·have hm:=List.mem_of_getElem? hx
  rw [QiS,Qak hx,cond_true,Qai hx,Qaa,QtS _ (h.names x hm),any1 d h x hm,Qal hx (by omega)]
  simp only [Qaa,Qah,QaQ]
  rw [show decide ((x.2.length:Int)=0)=!decide (x.2.length≠0) by rw [Bool.eq_iff_iff]; simp only [Bool.and_eq_true,Bool.not_eq_true',Bool.and_eq_false_iff,decide_eq_true_eq,decide_eq_false_iff_not]; omega]
  cases Qlu x.1<;>cases decide (x.2.length≠0)<;>cases (x.2.all fun c=>Qlu c.1)<;>rfl
 ·rw [QiS,Qao,cond_false]
theorem QC4 (d:List Qaj)(h:QbN d)(k:Nat)(x:Qaj)(hx:d[k]?=some x):Qd1 d (k:Int) 0=some (if x.2.all (fun c=>Qlu c.1)=true then .inr () else .inl ()):=by
 have hm:=List.mem_of_getElem? hx
 have hl:=h.cons x hm
 refine Qap (L:=fun i=>Qd1 d (k:Int) i) (l:=x.2) (p:=fun c=>Qlu c.1) (fun i c hc=>?_) ?_
 ·rw [QiU,Qai hx,Qaa,Qak hc,cond_true,Qai hc,Qaa,Qsq _ (h.QFq x hm c (List.mem_of_getElem? hc)),Qaa,Qal hc (by omega),Qan]
 ·rw [QiU,Qai hx,Qaa,Qao,cond_false]
theorem QEP (d:List Qaj)(h:QbN d):Qd0 d 0=some (if Qss d=true then .inl () else .inr ()):=by
 have hl:=h.len
 refine Qap (L:=fun i=>Qd0 d i) (l:=d) (p:=fun x=>Qlu x.1&&decide (x.2.length≠0)&&x.2.all fun c=>Qlu c.1) (fun i x hx=>?_) ?_
 ·have hm:=List.mem_of_getElem? hx
  rw [QiT,Qak hx,cond_true,Qai hx]
  simp only [Qaa]
  rw [Qsq _ (h.names x hm),QC4 d h i x hx,Qal hx (by omega)]
  simp only [Qaa,Qah,QaQ]
  rw [show decide ((x.2.length:Int)=0)=!decide (x.2.length≠0) by rw [Bool.eq_iff_iff]; simp only [Bool.and_eq_true,Bool.not_eq_true',Bool.and_eq_false_iff,decide_eq_true_eq,decide_eq_false_iff_not]; omega]
  cases Qlu x.1<;>cases decide (x.2.length≠0)<;>cases (x.2.all fun c=>Qlu c.1)<;>rfl
 ·rw [QiT,Qao,cond_false]
theorem at_0 {α:Type}(x:α)(r:List α):at' (x::r) 0=some x:=Qai (l:=x::r) (i:=0) rfl
theorem at_1 {α:Type}(x y:α)(r:List α):at' (x::y::r) 1=some y:=Qai (l:=x::y::r) (i:=1) rfl
theorem Qyd (d:List Qaj)(h:QbN d):QlZ d=some (formed d):=by
 rw [Qr3,QGt d h]
 simp only [Qah,Qaa,QaB,QaQ]
 unfold formed
 cases d with
 | nil=>rfl
 | cons x r=>
  rw [at_0]
  simp only [Qaa,List.length_cons,Qyc]
  rw [QaD (show ¬ (((r.length+1:Nat):Int)=0) by omega)]
  obtain ⟨nm,cs⟩:=x
  match cs with
  | []=>cases decide (nm=[66,111,111,108])<;>rfl
  | [a]=>cases decide (nm=[66,111,111,108])<;>rfl
  | a::b::c::cs=>
   have:decide ((((a::b::c::cs).length:Nat):Int)=2)=false:=QaD (by simp; omega)
   simp only [this]
   cases decide (nm=[66,111,111,108])<;>rfl
  | [a,b]=>
   have hf:a.2.length≤1000000000000:=h.fields (nm,[a,b]) (by simp) a (by simp)
   have hf2:b.2.length≤1000000000000:=h.fields (nm,[a,b]) (by simp) b (by simp)
   rw [at_0,at_1]
   simp only [Qaa,Qzj]
   rw [show ((a.2.length:Int)+(b.2.length:Int))=((a.2.length+b.2.length:Nat):Int) by omega,QFl (by omega)]
   rw [show decide (0<((a.2.length+b.2.length:Nat):Int))=!(decide (a.2.length=0)&&decide (b.2.length=0)) by rw [Bool.eq_iff_iff]; simp only [Bool.and_eq_true,Bool.not_eq_true',Bool.and_eq_false_iff,decide_eq_true_eq,decide_eq_false_iff_not]; omega]
   cases decide (nm=[66,111,111,108])<;>cases decide (a.1=[70,97,108,115,101])<;>cases decide (b.1=[84,114,117,101])<;>cases decide (a.2.length=0)<;>cases decide (b.2.length=0)<;>cases Qss _<;>rfl
theorem QwE (d:List Qaj)(h:QbN d):Ql0 d=some (formed d):=by
 rw [Qr4,QEP d h]
 simp only [Qah,Qaa,QaB,QaQ]
 unfold formed
 cases d with
 | nil=>rfl
 | cons x r=>
  rw [at_0]
  simp only [Qaa,List.length_cons,Qyc]
  rw [QaD (show ¬ (((r.length+1:Nat):Int)=0) by omega)]
  obtain ⟨nm,cs⟩:=x
  match cs with
  | []=>cases decide (nm=[66,111,111,108])<;>rfl
  | [a]=>cases decide (nm=[66,111,111,108])<;>rfl
  | a::b::c::cs=>
   have:decide ((((a::b::c::cs).length:Nat):Int)=2)=false:=QaD (by simp; omega)
   simp only [this]
   cases decide (nm=[66,111,111,108])<;>rfl
  | [a,b]=>
   rw [at_0,at_1]
   simp only [Qaa,Qzj]
   rw [show decide (0<((a.2.length:Nat):Int))=!decide (a.2.length=0) by rw [Bool.eq_iff_iff]; simp only [Bool.and_eq_true,Bool.not_eq_true',Bool.and_eq_false_iff,decide_eq_true_eq,decide_eq_false_iff_not]; omega]
   rw [show decide (0<((b.2.length:Nat):Int))=!decide (b.2.length=0) by rw [Bool.eq_iff_iff]; simp only [Bool.and_eq_true,Bool.not_eq_true',Bool.and_eq_false_iff,decide_eq_true_eq,decide_eq_false_iff_not]; omega]
   cases decide (nm=[66,111,111,108])<;>cases decide (a.1=[70,97,108,115,101])<;>cases decide (b.1=[84,114,117,101])<;>cases decide (a.2.length=0)<;>cases decide (b.2.length=0)<;>cases Qss _<;>rfl
end Go.Proofs.YtkecfadnfnnfaaaGreatDoor.LabB
