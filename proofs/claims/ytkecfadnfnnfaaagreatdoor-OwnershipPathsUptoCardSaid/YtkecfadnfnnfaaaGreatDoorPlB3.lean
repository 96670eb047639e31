/- Of the models: tables of types. -/
import Derived.Test.YtkecfadnfnnfaaaGreatDoorModB
import Derived.Test.YtkecfadnfnnfaaaGreatDoorSyW
set_option linter.unusedVariables false
set_option linter.unusedSimpArgs false
namespace Go.Proofs.YtkecfadnfnnfaaaGreatDoor.LabB
open Go Go.Ev Go.Sy
def fArgs (op:Int):Int:=if op=0∨op=4∨op=5∨op=9 then 1 else if op=2 then 2 else if op=3∨op=6∨op=7∨op=8 then -1 else 0
def QsS (op:Int):Bool:=decide (1≤op∧op≤6)
def Qlp (op:Int):Bool:=decide (1≤op∧op≤6∧op≠5)
def fCon (op:Int):Bool:=decide (op=3∨op=8)
def fNum (op:Int):Bool:=decide (op=1∨op=2∨op=8)
def fFun (op:Int):Bool:=decide (op=6∨op=7∨op=8)
def fOf (op:Int):QAg:=(fArgs op,Qlp op,fCon op,fNum op,fFun op,decide (op=8),decide (op=9),QsS op,decide (op=9))
theorem Qox {op:Int}(h:0≤op∧op<10):op=0∨op=1∨op=2∨op=3∨op=4∨op=5∨op=6∨op=7∨op=8∨op=9:=by omega
theorem QDH {op:Int}(h:¬ (0≤op∧op<10)):fOf op=(0,false,false,false,false,false,false,false,false):=by
 unfold fOf fArgs Qlp fCon fNum fFun QsS
 rw [if_neg (by omega),if_neg (by omega),if_neg (by omega),QaR (by omega),QaR (by omega),QaR (by omega),QaR (by omega),QaR (by omega),QaR (by omega),QaR (by omega)]
theorem QwS (op:Int)(h:0≤op∧op<10):at' ([(1,(false,(false,(false,(false,(false,(false,(false,false)))))))),(0,(true,(false,(true,(false,(false,(false,(true,false)))))))),(2,(true,(false,(true,(false,(false,(false,(true,false)))))))),(-1,(true,(true,(false,(false,(false,(false,(true,false)))))))),(1,(true,(false,(false,(false,(false,(false,(true,false)))))))),(1,(false,(false,(false,(false,(false,(false,(true,false)))))))),(-1,(true,(false,(false,(true,(false,(false,(true,false)))))))),(-1,(false,(false,(false,(true,(false,(false,(false,false)))))))),(-1,(false,(true,(true,(true,(true,(false,(false,false)))))))),(1,(false,(false,(false,(false,(false,(true,(false,true))))))))]:List QAg) op=some (fOf op):=by
 rcases Qox h with rfl |rfl |rfl |rfl |rfl |rfl |rfl |rfl |rfl |rfl<;>rfl
theorem QsT (op:Int):Qnl op=some (fOf op,decide (0≤op∧op<10)):=by
 rw [QxT]
 simp only [Qai,Qaa,Qb0,Qb9]
 by_cases h:0≤op∧op<10
 ·rw [QaR (show ¬ op<0 by omega),QdC h.2,QdC h]
  simp only [Bool.not_true,Bool.or_false,cond_false,QmB,Qaa,QwS op h]
 ·rw [QaR h,QDH h]
  have:(decide (op<0)||!decide (op<10))=true:=by
   by_cases h0:op<0
   ·simp [h0]
   ·simp [show ¬ op<10 by omega]
  rw [this]
  rfl
abbrev nOp (n:Qag):Int:=n.1
abbrev nVar (n:Qag):Int:=n.2.1
abbrev Qa1 (n:Qag):List Int:=n.2.2.1
abbrev nCon (n:Qag):Int:=n.2.2.2.1
abbrev nNum (n:Qag):Int:=n.2.2.2.2.1
abbrev nFun (n:Qag):Int:=n.2.2.2.2.2.1
abbrev QiT (n:Qag):List Int:=n.2.2.2.2.2.2.1
abbrev QhD (n:Qag):Bool:=n.2.2.2.2.2.2.2.1
abbrev nBr (n:Qag):List Qa2:=n.2.2.2.2.2.2.2.2.1
abbrev QEL (n:Qag):Int:=n.2.2.2.2.2.2.2.2.2
structure QcD (n:Qag):Prop where
 args:(Qa1 n).length≤1000
 more:(QiT n).length≤1000
 br:(nBr n).length≤1000
 bs:∀ b∈nBr n,b.1.length≤1073741824
def kids (n:Qag):List Int:=if nOp n=9 then (nBr n).map (·.2) else if QsS (nOp n)=true then [QEL n] else []
def binds (n:Qag):List Int:=if nOp n=9 then (nBr n).flatMap (·.1) else if Qlp (nOp n)=true then [nVar n] else []
def uses (n:Qag):List Int:=if nOp n<0∨10≤nOp n∨nOp n=1 then [] else if nOp n=8 then (Qa1 n++QiT n).filter (fun v=>decide (0≤v)) else Qa1 n
def QkE (n:Qag):Bool:=decide (0≤nOp n∧nOp n<10)&&(decide (fArgs (nOp n)<0)||decide (((Qa1 n).length:Int)=fArgs (nOp n)))&&(Qlp (nOp n)||decide (nVar n=0))&&(fCon (nOp n)||decide (nCon n=0))&&(fNum (nOp n)||decide (nNum n=0))&&(fFun (nOp n)||decide (nFun n=0))&&
 (decide (nOp n=8)||decide (((QiT n).length:Int)=0))&&(decide (nOp n=9)||!QhD n)&&(QsS (nOp n)||decide (QEL n=0))&&(decide (nOp n=9)||decide (((nBr n).length:Int)=0))
theorem QAn (n:Qag):QpW n=some (QkE n):=by
 rw [Qt8,QsT,Qaa]
 simp only [Qai,Qaa,Qb0,Qb9,Qje,QsG,fOf]
 unfold QkE
 simp only [Qaz]
 grind
theorem Qqb {α β:Type}(f:α→List β):∀ (l:List α) (s:List β),l.foldl (fun s x=>s++f x) s=s++l.flatMap f
 | [],s=>by simp
 | x::l,s=>by rw [List.foldl_cons,Qqb f l]; simp
theorem Qk6 {α β:Type}(f:α→β):∀ (l:List α) (s:List β),l.foldl (fun s x=>s++[f x]) s=s++l.map f
 | [],s=>by simp
 | x::l,s=>by rw [List.foldl_cons,Qk6 f l]; simp
theorem foldl_filter {α:Type}(p:α→Bool):∀ (l s:List α),l.foldl (fun s x=>if p x=true then s++[x] else s) s=s++l.filter p
 | [],s=>by simp
 | x::l,s=>by
  rw [List.foldl_cons,foldl_filter p l,List.filter_cons]
  split<;>simp
theorem QsU {α:Type}(b:Bool)(s:List α)(x:α):(if b=true then s++[x] else s).length≤s.length+1:=by
 cases b<;>simp
theorem QxX (l:List Qa2)(hl:l.length≤1000000):Qgi [] l (l.length:Int) 0=some (l.map (·.2)):=by
 have:=QaY (L:=fun s i=>Qgi s l (l.length:Int) i) (l:=l) (F:=fun s x=>s++[x.2]) (E:=id) (fun i s=>s.length≤i)
  (fun s i x hx hI=>⟨by
   have:=Qcd hx
   rw [Qkt,Qal hx,cond_true,Qah hx,Qaa,Qac (by omega),Qan hx (by omega)],by simp; omega⟩)
  (fun s hI=>by rw [Qkt,Qap,cond_false]; rfl) [] (by simp)
 rw [this,Qk6]; rfl
theorem QvM (l:List Qa2)(hl:l.length≤1000)(hb:∀ b∈l,b.1.length≤1073741824):QfA [] l (l.length:Int) 0=some (l.flatMap (·.1)):=by
 have:=QaY (L:=fun s i=>QfA s l (l.length:Int) i) (l:=l) (F:=fun s x=>s++x.1) (E:=id) (fun i s=>s.length≤i * 1073741824)
  (fun s i x hx hI=>⟨by
   have:=Qcd hx
   have:=hb x (List.mem_of_getElem? hx)
   rw [QjB,Qal hx,cond_true,Qah hx,Qaa,Qac (by omega),Qan hx (by omega)],by
   have:=hb x (List.mem_of_getElem? hx)
   simp; omega⟩)
  (fun s hI=>by rw [QjB,Qap,cond_false]; rfl) [] (by simp)
 rw [this,Qqb]; rfl
theorem QxY (l:List Int)(hl:l.length≤1000000):Qe8 [] l (l.length:Int) 0=some (l.filter (fun v=>decide (0≤v))):=by
 have:=QaY (L:=fun s i=>Qe8 s l (l.length:Int) i) (l:=l) (F:=fun s x=>if decide (0≤x)=true then s++[x] else s) (E:=id) (fun i s=>s.length≤i)
  (fun s i x hx hI=>⟨by
   have:=Qcd hx
   rw [Qks,Qal hx,cond_true,Qah hx,Qaa,Qan hx (by omega)]
   by_cases h:x<0
   ·rw [Qac h,if_neg (by simp; omega)]
   ·rw [Qab h,Qac (by omega),if_pos (by simp; omega)],Nat.le_trans (QsU _ _ _) (by have:=hI; omega)⟩)
  (fun s hI=>by rw [Qks,Qap,cond_false]; rfl) [] (by simp)
 rw [this,foldl_filter]; rfl
theorem QkF (n:Qag)(h:QcD n):Qhi n=some (kids n):=by
 rw [Qua,QsT,Qaa]
 simp only [fOf,Qaa,Qb0,QpU]
 have hb:=h.br
 unfold kids
 by_cases h9:nOp n=9
 ·rw [if_pos h9,Qac h9,show QsS n.1=false by rw [show n.1=9 from h9]; rfl,cond_false,QxX (nBr n) (by omega)]
  rfl
 ·rw [if_neg h9,Qab h9]
  cases QsS (nOp n)<;>rfl
theorem QgS (n:Qag)(h:QcD n):Qe7 n=some (binds n):=by
 rw [QsM,QsT,Qaa]
 simp only [fOf,Qaa,Qb0,QpU]
 have hb:=h.br
 unfold binds
 by_cases h9:nOp n=9
 ·rw [if_pos h9,Qac h9,show Qlp n.1=false by rw [show n.1=9 from h9]; rfl,cond_false,QvM (nBr n) (by omega) h.bs]
  rfl
 ·rw [if_neg h9,Qab h9]
  cases Qlp (nOp n)<;>rfl
theorem QAo (n:Qag)(h:QcD n):QpX n=some (uses n):=by
 rw [Qt9,QsT,Qaa]
 simp only [fOf,Qaa,Qb0,QpU]
 have ha:n.2.2.1.length≤1000:=h.args
 have hm:n.2.2.2.2.2.2.1.length≤1000:=h.more
 unfold uses
 by_cases hr:0≤nOp n∧nOp n<10
 ·rw [QdC hr,cond_true]
  by_cases hn:nOp n=1
  ·rw [if_pos (by omega)]
   exact Qac (p:=(fOf n.1).1=0) (by show fArgs (nOp n)=0; rw [hn]; rfl) _ _
  ·rw [if_neg (by omega)]
   refine (Qab (p:=(fOf n.1).1=0) (by show ¬ fArgs (nOp n)=0; unfold fArgs; repeat' split; all_goals omega) _ _).trans ?_
   by_cases h8:nOp n=8
   ·rw [if_pos h8,Qac h8,Qac (by omega),Qac (by omega),QxY _ (by simp; omega)]
    rfl
   ·rw [if_neg h8,Qab h8,Qac (by omega)]
 ·rw [QaR hr,cond_false,if_pos (by omega)]
  rfl
theorem QDI (n:Qag)(hl:(nBr n).length≤1000000):Qfz [] n 0=some ((nBr n).map (·.2)):=by
 have:=QaY (L:=fun s i=>Qfz s n i) (l:=nBr n) (F:=fun s x=>s++[x.2]) (E:=id) (fun i s=>s.length≤i)
  (fun s i x hx hI=>⟨by
   have:=Qcd hx
   rw [QjA,Qal hx,cond_true,Qah hx,Qaa,Qac (by omega),Qan hx (by omega)],by simp; omega⟩)
  (fun s hI=>by rw [QjA,Qap,cond_false]; rfl) [] (by simp)
 rw [this,Qk6]; rfl
theorem QB6 (n:Qag)(hl:(nBr n).length≤1000)(hb:∀ b∈nBr n,b.1.length≤1073741824):Qeq [] n 0=some ((nBr n).flatMap (·.1)):=by
 have:=QaY (L:=fun s i=>Qeq s n i) (l:=nBr n) (F:=fun s x=>s++x.1) (E:=id) (fun i s=>s.length≤i * 1073741824)
  (fun s i x hx hI=>⟨by
   have:=Qcd hx
   have:=hb x (List.mem_of_getElem? hx)
   rw [QiF,Qal hx,cond_true,Qah hx,Qaa,Qac (by omega),Qan hx (by omega)],by
   have:=hb x (List.mem_of_getElem? hx)
   simp; omega⟩)
  (fun s hI=>by rw [QiF,Qap,cond_false]; rfl) [] (by simp)
 rw [this,Qqb]; rfl
theorem Quf (n:Qag)(h:QcD n):Qf2 n=some (kids n):=by
 rw [QsL]
 have hb:=h.br
 unfold kids QsS
 by_cases h9:nOp n=9
 ·have h9':n.1=9:=h9
  rw [if_pos h9,Qab (by omega),Qab (by omega),Qab (by omega),Qab (by omega),Qab (by omega),Qab (by omega),Qac h9,QDI n (by omega)]
  rfl
 ·rw [if_neg h9]
  simp only [Qaz,decide_eq_true_eq]
  grind
theorem QvN (n:Qag)(h:QcD n):Qhh n=some (binds n):=by
 rw [QqH]
 have hb:=h.br
 unfold binds Qlp
 by_cases h9:nOp n=9
 ·have h9':n.1=9:=h9
  rw [if_pos h9,Qab (by omega),Qab (by omega),Qab (by omega),Qab (by omega),Qab (by omega),Qac h9,QB6 n (by omega) h.bs]
  rfl
 ·rw [if_neg h9]
  simp only [Qaz,decide_eq_true_eq]
  grind
end Go.Proofs.YtkecfadnfnnfaaaGreatDoor.LabB
namespace Go.Proofs.YtkecfadnfnnfaaaGreatDoor.LabB
open Go Go.Ev Go.Sy
def cUp (v:Int):Bool:=decide (65≤v∧v≤90)
def cLo (v:Int):Bool:=decide (97≤v∧v≤122)
def cDi (v:Int):Bool:=decide (48≤v∧v≤57)
def cCh (v:Int):Bool:=cLo v||cUp v||cDi v||decide (v=95)
abbrev tI (b:UInt8):Int:=(b.toNat:Int)
def word (s:List UInt8)(lo hi:Int):Bool:=match s with
 | []=>false
 | b::r=>decide (r.length<32)&&decide (lo≤tI b∧tI b≤hi)&&(b::r).all (fun c=>cCh (tI c))
theorem QEM:∀ b:UInt8,([97,98,99,100,101,102,103,104,105,106,107,108,109,110,111,112,113,114,115,116,117,118,119,120,121,122,65,66,67,68,69,70,71,72,73,74,75,76,77,78,79,80,81,82,83,84,85,86,87,88,89,90,48,49,50,51,52,53,54,55,56,57,95]:List UInt8).contains b=cCh (tI b):=by
 have h:∀ n:Fin 256,([97,98,99,100,101,102,103,104,105,106,107,108,109,110,111,112,113,114,115,116,117,118,119,120,121,122,65,66,67,68,69,70,71,72,73,74,75,76,77,78,79,80,81,82,83,84,85,86,87,88,89,90,48,49,50,51,52,53,54,55,56,57,95]:List UInt8).contains (UInt8.ofNat n.val)=cCh (tI (UInt8.ofNat n.val)):=by decide +kernel
 intro b
 have:=h ⟨b.toNat,b.toNat_lt⟩
 simpa using this
theorem dropWhile_nil {α:Type}(p:α→Bool):∀ l:List α,l.dropWhile p=[]↔l.all p=true
 | []=>by simp
 | x::l=>by
  rw [List.dropWhile_cons,List.all_cons]
  cases h:p x with
  | true=>simp only [if_true,Bool.true_and]; exact dropWhile_nil p l
  | false=>simp
theorem QCK {α:Type}(p:α→Bool){x:α}:∀ l:List α,x∈l.takeWhile p→p x=true
 | [],h=>by simp at h
 | y::l,h=>by
  rw [List.takeWhile_cons] at h
  split at h
  ·rename_i hy
   rcases List.mem_cons.1 h with rfl |h
   ·exact hy
   ·exact QCK p l h
  ·simp at h
theorem QB7 (p:UInt8→Bool)(s:List UInt8):(s.reverse.dropWhile p).reverse.dropWhile p=[]↔s.all p=true:=by
 constructor
 ·intro h
  have h1:=(dropWhile_nil p _).1 h
  rw [List.all_eq_true] at h1 ⊢
  intro x hx
  by_cases hp:p x=true
  ·exact hp
  ·have hm:x∈s.reverse:=by simpa using hx
   have:x∈s.reverse.takeWhile p++s.reverse.dropWhile p:=by rw [List.takeWhile_append_dropWhile]; exact hm
   rw [List.mem_append] at this
   rcases this with h3 |h3
   ·exact absurd (QCK p _ h3) hp
   ·exact h1 x (by simpa using h3)
 ·intro h
  have:s.reverse.dropWhile p=[]:=(dropWhile_nil p _).2 (by rw [List.all_eq_true] at h ⊢; intro x hx; exact h x (by simpa using hx))
  rw [this]
  rfl
theorem Qn3 (s:List UInt8)(hs:s.length<4294967281)(lo hi:Int):QhU s lo hi=some (word s lo hi):=by
 rw [Qp1,Qp9]
 simp only [Qai,Qaa,Qb0,Qb9]
 cases s with
 | nil=>rfl
 | cons b r=>
  rw [show ((0:Int))=((0:Nat):Int) from rfl,QAf (i:=0) (x:=b) _ rfl]
  simp only [Qaa]
  rw [show QvG (b::r) [97,98,99,100,101,102,103,104,105,106,107,108,109,110,111,112,113,114,115,116,117,118,119,120,121,122,65,66,67,68,69,70,71,72,73,74,75,76,77,78,79,80,81,82,83,84,85,86,87,88,89,90,48,49,50,51,52,53,54,55,56,57,95]=some (((b::r).reverse.dropWhile (fun c=>cCh (tI c))).reverse.dropWhile (fun c=>cCh (tI c))) by
   unfold QvG
   rw [show Nat.blt (b::r).length 4294967281=true from by rw [Nat.blt_eq]; exact hs]
   rw [show (fun c=>cCh (tI c))=List.contains ([97,98,99,100,101,102,103,104,105,106,107,108,109,110,111,112,113,114,115,116,117,118,119,120,121,122,65,66,67,68,69,70,71,72,73,74,75,76,77,78,79,80,81,82,83,84,85,86,87,88,89,90,48,49,50,51,52,53,54,55,56,57,95]:List UInt8) from funext fun c=>(QEM c).symm]
   rfl]
  simp only [Qaa,QB7]
  unfold word
  simp only [List.length_cons,Qaz]
  have:(((r.length+1:Nat):Int)=0)=False:=by simp; omega
  grind
def QAp (s:List UInt8):Bool:=word (cut1 s 46).1 97 122&&(!(cut1 s 46).2.2||word (cut1 s 46).2.1 97 122)
theorem QDJ (s:List UInt8)(c:UInt8):(cut1 s c).1.length≤s.length∧(cut1 s c).2.1.length≤s.length:=by
 unfold cut1
 split
 ·simp
 ·rename_i x r h
  have h1:(s.takeWhile (· != c)).length+(s.dropWhile (· != c)).length=s.length:=by rw [← List.length_append,List.takeWhile_append_dropWhile]
  rw [h] at h1
  simp only [List.length_cons] at h1
  simp only
  omega
theorem QAq (s:List UInt8)(hs:s.length<4294967281):QpV s=some (QAp s):=by
 have:=QDJ s 46
 rw [Qt7,QqO]
 rw [show cutM s [46]=some (cut1 s 46) by unfold cutM; rw [show Nat.blt s.length 4294967281=true by rw [Nat.blt_eq]; exact hs]]
 rw [Qaa]
 unfold QAp
 rcases hc:cut1 s 46 with ⟨a,b,t⟩
 rw [hc] at this
 simp only
 rw [Qn3 a (by simp only at this; omega),Qn3 b (by simp only at this; omega)]
 simp only [Qaa,Qb0,QsG,Qaz]
 cases word a 97 122<;>cases t<;>rfl
def QqP (s:List UInt8):Bool:=word s 65 90
theorem bif3 {α:Type}(a b:Bool)(x y:α):(bif a then x else bif b then x else y)=bif (a||b) then x else y:=by cases a<;>rfl
theorem QxZ (s:List UInt8)(hs:s.length≤1000000000):Qc1 s (s.length:Int) 0=some (if s.all (fun c=>cCh (tI c))=true then .inr () else .inl ()):=by
 refine Qay (L:=fun i=>Qc1 s (s.length:Int) i) (p:=fun c=>cCh (tI c)) (fun i x hx=>?_) ?_
 ·rw [Qjy,Qal hx,cond_true,QAf _ hx,Qaa,Qan hx (by omega)]
  simp only [Qai,Qaa,Qb0,Qb9,Qmy,QBZ,bif3]
  rw [Qaz]
  rw [show (!decide ((x.toNat:Int)<97)&&!decide (122<(x.toNat:Int))||(!decide ((x.toNat:Int)<65)&&!decide (90<(x.toNat:Int))||(!decide ((x.toNat:Int)<48)&&!decide (57<(x.toNat:Int))||decide ((x.toNat:Int)=95))))=cCh (tI x) by
   unfold cCh cLo cUp cDi
   rw [Bool.eq_iff_iff]
   simp only [Bool.or_eq_true,Bool.and_eq_true,Bool.not_eq_true',decide_eq_true_eq,decide_eq_false_iff_not,tI]
   omega]
 ·rw [Qjy,Qap,cond_false]
theorem QrB (s:List UInt8)(hs:s.length≤1000000000):Qk5 s=some (QqP s):=by
 rw [QsK,QxZ s hs]
 simp only [Qai,Qaa,Qb0,Qb9]
 cases s with
 | nil=>rfl
 | cons b r=>
  rw [show ((0:Int))=((0:Nat):Int) from rfl,QAf (i:=0) (x:=b) _ rfl]
  simp only [Qaa]
  unfold QqP word
  simp only [List.length_cons,Qaz]
  grind
end Go.Proofs.YtkecfadnfnnfaaaGreatDoor.LabB
namespace Go.Proofs.YtkecfadnfnnfaaaGreatDoor.LabB
open Go Go.Ev Go.Sy
structure QeO (d:List Qak):Prop where
 len:d.length≤1000
 names:∀ x∈d,x.1.length≤1000000000
 cons:∀ x∈d,x.2.length≤1000000
 QEN:∀ x∈d,∀ c∈x.2,c.1.length≤1000000000
 fields:∀ x∈d,∀ c∈x.2,c.2.length≤1000000000000
def isTy (d:List Qak)(t:Int):Bool:=decide (0≤t∧t≤(d.length:Int))
def Qhs (d:List Qak)(t:Int):List GCon:=if t<1 then [] else match d[(t - 1).toNat]? with |some x=>x.2 |none=>[]
def flat (d:List Qak)(t:Int):Bool:=isTy d t&&(Qhs d t).all fun c=>decide (c.2.length=0)
theorem Qn4 (d:List Qak)(t:Int):QhV d t=some (isTy d t):=by
 rw [Qp4]
 simp only [Qai,Qaa,Qmy]
 congr 1
 unfold isTy
 rw [Bool.eq_iff_iff]
 simp only [Bool.and_eq_true,Bool.not_eq_true',decide_eq_true_eq,decide_eq_false_iff_not]
 omega
theorem Qqc {t:Int}(h0:0≤t)(h1:t≤9223372036854775807):Ev.wr .i64 (t - 1)=t - 1:=Qmw (by omega) (by omega)
theorem QAr (d:List Qak)(hl:d.length≤1000)(t:Int)(h:isTy d t=true):Qnn d t=some (Qhs d t):=by
 unfold isTy at h
 rw [decide_eq_true_eq] at h
 rw [QsO]
 simp only [Qai,Qaa,Qb9]
 unfold Qhs
 by_cases h1:t<1
 ·rw [QdC h1,if_pos h1]; rfl
 ·rw [QaR h1,if_neg h1,QaR (show ¬ (d.length:Int)<t by omega),Qqc (by omega) (by omega)]
  obtain ⟨x,hx,hx'⟩:=Qhy (l:=d) (i:=t - 1) (by omega) (by omega)
  rw [hx,hx']
  rfl
def idxR (o:Option Nat):Int:=match o with |some j=>(j:Int) |none => -1
theorem QB8 (o:Option Nat):(!decide (idxR o<0))=o.isSome:=by
 cases o with
 | none=>rfl
 | some j=>show (!decide ((j:Int)<0))=true; rw [QaR (by omega)]; rfl
theorem any7 (l:List GCon)(hl:l.length≤1000000):Qdu l=some (l.any fun c=>decide (0<(c.2.length:Int))):=by
 rw [Qig,QjO]
 rw [QdH (L:=fun i=>Qcz l (l.length:Int) i) (l:=l) (p:=fun c=>decide (0<(c.2.length:Int))) (A:=fun j=>.inr (j:Int)) (B:=.inl ()) (fun i x hx=>by
  rw [QeF,Qal hx,cond_true,Qah hx,Qaa,Qp5,Qaa,Qan hx (by omega),Qaz]) (by rw [QeF,Qap,cond_false])]
 rw [← QcF _ l 0]
 cases Qix _ 0 l with
 | none=>rfl
 | some j=>simp only [Qaa]; rw [QaR (by omega)]; rfl
theorem Qx0 (d:List Qak)(h:QeO d)(t:Int):(Qhs d t).length≤1000000:=by
 unfold Qhs
 split
 ·simp
 ·split
  ·rename_i x hx
   exact h.cons x (List.mem_of_getElem? hx)
  ·simp
theorem QmE (d:List Qak)(h:QeO d)(t:Int):QgP d t=some (flat d t):=by
 rw [QsN,Qn4,Qaa]
 unfold flat
 cases ht:isTy d t with
 | false=>rfl
 | true=>
  rw [QAr d h.len t ht]
  simp only [cond_true,Qaa,Bool.true_and]
  rw [any7 _ (Qx0 d h t)]
  simp only [Qaa]
  congr 1
  rw [List.not_any_eq_all_not]
  congr 1
  funext c
  rw [Bool.eq_iff_iff]
  simp only [Bool.not_eq_true',decide_eq_true_eq,decide_eq_false_iff_not]
  omega
def many (d:List Qak):Bool:=decide (64<(d.length:Int))||d.any fun x=>decide (16<(x.2.length:Int))||x.2.any fun c=>decide (6<(c.2.length:Int))
theorem any0 (l:List GCon)(hl:l.length≤1000000):Qee l=some (l.any fun c=>decide (6<(c.2.length:Int))):=by
 rw [Qjh,Qlb]
 rw [QdH (L:=fun i=>QcQ l (l.length:Int) i) (l:=l) (p:=fun c=>decide (6<(c.2.length:Int))) (A:=fun j=>.inr (j:Int)) (B:=.inl ()) (fun i x hx=>by
  rw [QfD,Qal hx,cond_true,Qah hx,Qaa,Qp3,Qaa,Qan hx (by omega),Qaz]) (by rw [QfD,Qap,cond_false])]
 rw [← QcF _ l 0]
 cases Qix _ 0 l with
 | none=>rfl
 | some j=>simp only [Qaa]; rw [QaR (by omega)]; rfl
theorem QAs (d:List Qak)(h:QeO d):Qnk d=some (many d):=by
 have hl:=h.len
 rw [QsJ]
 unfold many
 by_cases h64:(64:Int)<(d.length:Int)
 ·rw [Qac h64,QdC h64]; rfl
 ·rw [Qab h64,QaR h64,Qay (L:=fun i=>QgH d (d.length:Int) i) (l:=d) (p:=fun x=>!(decide (16<(x.2.length:Int))||x.2.any fun c=>decide (6<(c.2.length:Int)))) (A:=.inl ()) (B:=.inr ()) (fun i x hx=>by
   rw [Qjx,Qal hx,cond_true,Qah hx,Qaa,any0 _ (h.cons x (List.mem_of_getElem? hx))]
   simp only [Qaa,Qai,Qb9]
   rw [Qan hx (by omega),Qaz]
   cases (decide (16<(x.2.length:Int))||x.2.any fun c=>decide (6<(c.2.length:Int)))<;>rfl) (by rw [Qjx,Qap,cond_false]),Qaa,Bool.false_or,← List.not_any_eq_all_not]
  cases d.any _<;>rfl
def QvO (d:List Qak):Bool:=d.all fun x=>QqP x.1&&decide (x.2.length≠0)&&x.2.all fun c=>QqP c.1
def QAt:List Qak→Bool
 | []=>false
 | x::_=>decide (x.1=[66,111,111,108])&&match x.2 with
  | [a,b]=>decide (a.1=[70,97,108,115,101])&&decide (b.1=[84,114,117,101])&&decide (a.2.length=0)&&decide (b.2.length=0)
  | _=>false
def formed (d:List Qak):Bool:=QAt d&&QvO d
theorem any1 (d:List Qak)(h:QeO d)(x:Qak)(hx:x∈d):Qdo x.2=some (!x.2.all fun c=>QqP c.1):=by
 have hl:=h.cons x hx
 rw [Qia,QjH]
 rw [QdH (L:=fun i=>Qct x.2 (x.2.length:Int) i) (l:=x.2) (p:=fun c=>!QqP c.1) (A:=fun j=>.inr (j:Int)) (B:=.inl ()) (fun i c hc=>by
  rw [Qez,Qal hc,cond_true,Qah hc,Qaa,Qnp,QrB _ (h.QEN x hx c (List.mem_of_getElem? hc)),Qaa,Qaa,Qan hc (by omega),Qaz]) (by rw [Qez,Qap,cond_false])]
 rw [List.not_all_eq_any_not,← QcF _ x.2 0]
 cases Qix _ 0 x.2 with
 | none=>rfl
 | some j=>simp only [Qaa]; rw [QaR (by omega)]; rfl
theorem QDK (d:List Qak)(h:QeO d):QdI d (d.length:Int) 0=some (if QvO d=true then .inl () else .inr ()):=by
 have hl:=h.len
 refine Qay (L:=fun i=>QdI d (d.length:Int) i) (l:=d) (p:=fun x=>QqP x.1&&decide (x.2.length≠0)&&x.2.all fun c=>QqP c.1) (fun i x hx=>?_) ?_
 ·have hm:=List.mem_of_getElem? hx
  rw [QhX,Qal hx,cond_true,Qah hx,Qaa,QrB _ (h.names x hm),any1 d h x hm,Qan hx (by omega)]
  simp only [Qaa,Qai,Qb9]
  rw [show decide ((x.2.length:Int)=0)=!decide (x.2.length≠0) by rw [Bool.eq_iff_iff]; simp only [Bool.and_eq_true,Bool.not_eq_true',Bool.and_eq_false_iff,decide_eq_true_eq,decide_eq_false_iff_not]; omega]
  cases QqP x.1<;>cases decide (x.2.length≠0)<;>cases (x.2.all fun c=>QqP c.1)<;>rfl
 ·rw [QhX,Qap,cond_false]
theorem at_0 {α:Type}(x:α)(r:List α):at' (x::r) 0=some x:=Qah (l:=x::r) (i:=0) rfl
theorem at_1 {α:Type}(x y:α)(r:List α):at' (x::y::r) 1=some y:=Qah (l:=x::y::r) (i:=1) rfl
theorem QvP (d:List Qak)(h:QeO d):Qkn d=some (formed d):=by
 rw [Qp0,QDK d h]
 simp only [Qai,Qaa,Qb0,Qb9]
 unfold formed
 cases d with
 | nil=>rfl
 | cons x r=>
  rw [at_0]
  simp only [Qaa,List.length_cons,QAt]
  rw [QaR (show ¬ (((r.length+1:Nat):Int)=0) by omega)]
  obtain ⟨nm,cs⟩:=x
  match cs with
  | []=>cases decide (nm=[66,111,111,108])<;>rfl
  | [a]=>cases decide (nm=[66,111,111,108])<;>rfl
  | a::b::c::cs=>
   have:decide ((((a::b::c::cs).length:Nat):Int)=2)=false:=QaR (by simp; omega)
   simp only [this]
   cases decide (nm=[66,111,111,108])<;>rfl
  | [a,b]=>
   have hf:a.2.length≤1000000000000:=h.fields (nm,[a,b]) (by simp) a (by simp)
   have hf2:b.2.length≤1000000000000:=h.fields (nm,[a,b]) (by simp) b (by simp)
   rw [at_0,at_1]
   simp only [Qaa,QBY]
   rw [show ((a.2.length:Int)+(b.2.length:Int))=((a.2.length+b.2.length:Nat):Int) by omega,QCH (by omega)]
   rw [show decide (0<((a.2.length+b.2.length:Nat):Int))=!(decide (a.2.length=0)&&decide (b.2.length=0)) by rw [Bool.eq_iff_iff]; simp only [Bool.and_eq_true,Bool.not_eq_true',Bool.and_eq_false_iff,decide_eq_true_eq,decide_eq_false_iff_not]; omega]
   cases decide (nm=[66,111,111,108])<;>cases decide (a.1=[70,97,108,115,101])<;>cases decide (b.1=[84,114,117,101])<;>cases decide (a.2.length=0)<;>cases decide (b.2.length=0)<;>cases QvO _<;>rfl
end Go.Proofs.YtkecfadnfnnfaaaGreatDoor.LabB
