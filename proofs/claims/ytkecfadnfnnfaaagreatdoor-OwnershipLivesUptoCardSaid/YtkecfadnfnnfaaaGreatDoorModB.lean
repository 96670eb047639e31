/- The models of this program's functions and loops, and their equations. -/
import Derived.Test.YtkecfadnfnnfaaaGreatDoorFamB
import Derived.Test.YtkecfadnfnnfaaaGreatDoorSyW
import Derived.KernelRfl
set_option maxRecDepth 100000
set_option linter.all false
namespace Go.Proofs.YtkecfadnfnnfaaaGreatDoor.LabB
open Go Go.Ev Go.Sy
abbrev Qw7:Type:=(List UInt8)×(Int)
abbrev GVar:Type:=(Int)×(Bool)
abbrev QEj:Type:=(Int)×(Int)
abbrev Qcq:Type:=(List (Int))×(Int)
abbrev GCon:Type:=(List UInt8)×(List (Int))
abbrev QHp:Type:=(List (Bool))×(List (Bool))
abbrev QEk:Type:=(Int)×((Int)×((Bool)×(Int)))
abbrev Qah:Type:=(List UInt8)×(List (GCon))
abbrev QG5:Type:=(List (Bool))×((List (Bool))×((Int)×(Int)))
abbrev QBS:Type:=(Int)×((Bool)×((Bool)×((Bool)×((Bool)×((Bool)×((Bool)×((Bool)×(Bool))))))))
abbrev Qaf:Type:=(Int)×((Int)×((List (Int))×((Int)×((Int)×((Int)×((List (Int))×((Bool)×((List (Qcq))×(Int)))))))))
abbrev GFun:Type:=(List UInt8)×((Int)×((Int)×((List (GVar))×((List (Qaf))×(GVar)))))
abbrev QHq:Type:=(GFun)×((List (Int))×(Bool))
abbrev Qae:Type:=(List (Qah))×(List (GFun))
abbrev QG6:Type:=(GFun)×((List (Int))×((List (Int))×((List (Int))×(GVar))))
abbrev Gfun:Type:=(Qae)×((GFun)×((List (Bool))×(List (Int))))
abbrev QHI:Type:=(Qae)×((GFun)×((List (Int))×((Bool)×((Int)×(Int)))))
abbrev QG7:Type:=(Qae)×((GFun)×((List (Bool))×(QHp)))
abbrev QHr:Type:=(Qae)×((GFun)×((List (Int))×(List (Qaf))))
theorem P2:tb.P 2=[.str,.str]:=by kernel_rfl
theorem O2':tb.O 2=[[.str,.str,.bool]]:=by kernel_rfl
theorem P3:tb.P 3=[.str,.str]:=by kernel_rfl
theorem O3':tb.O 3=[[.str]]:=by kernel_rfl
theorem QHs:tb.O 254=[[.bool]]:=by kernel_rfl
def G2:Pr (tb.P 2)→Option (Sm (tb.O 2)):=fun x=>O2'▸(let y:List UInt8×List UInt8:=(P2▸x:Pr [.str,.str]); (cutM y.1 y.2:Option (Sm [[.str,.str,.bool]])))
def G3:Pr (tb.P 3)→Option (Sm (tb.O 3)):=fun x=>O3'▸(let y:List UInt8×List UInt8:=(P3▸x:Pr [.str,.str]); (Qw6 y.1 y.2:Option (Sm [[.str]])))
def G254:Pr (tb.P 254)→Option (Sm (tb.O 254)):=fun _=>QHs▸(some true:Option (Sm [[.bool]]))
noncomputable section
noncomputable def G:Mod tb:=fun i=>match i with |2=>G2 |3=>G3 |254=>G254 |_=>fun _=>none
theorem me (i:Nat){x:Pr (tb.P i)}{r:Option (Sm (tb.O i))}(h:(tb.fam i).ext=false:=by kernel_rfl)(e:(body ctx tb i).den tb.P tb.O (M ctx tb G) (tb.O i) (env0 (tb.P i) x)=r:=by kernel_rfl):M ctx tb G i x=r:=(M_eq ctx tb G i h x).trans e
def strings_Cut (a b:List UInt8):Option (List UInt8×List UInt8×Bool):=M ctx tb G 2 (a,b)
def QoW (a b:List UInt8):Option (List UInt8):=M ctx tb G 3 (a,b)
def QlF (a:Qae):Option Int:=M ctx tb G 8 a
def Qjz (a:Qae):Option Int:=M ctx tb G 12 a
def Qmo (a:List Qah):Option Int:=M ctx tb G 13 a
def Qe6 (a:Qae)(b c:Int):Option (Unit⊕Int):=M ctx tb G 15 (a,b,c)
def Qmp (a:List Qah):Option Int:=M ctx tb G 18 a
def Qn7 (a:List Qah):Option Bool:=M ctx tb G 19 a
def Qd6 (a:Qae)(b:Int):Option (Unit⊕Int):=M ctx tb G 21 (a,b)
def Qk0 (a:List Qah):Option Bool:=M ctx tb G 22 a
def QjA (a:Qae)(b:Int):Option (Int×Int):=M ctx tb G 24 (a,b)
def Qn8 (a:List Qah):Option Bool:=M ctx tb G 27 a
def Qgy (a:List Qah)(b c:Int):Option (Unit⊕Unit):=M ctx tb G 28 (a,b,c)
def Qmq (a:List Qah):Option Bool:=M ctx tb G 29 a
def Qk1 (a:List Qah):Option Bool:=M ctx tb G 30 a
def Qil (a:Qae)(b:Int):Option (Int×Int):=M ctx tb G 32 (a,b)
def Qdm (a:List Qah)(b c:Int):Option (Unit⊕Unit):=M ctx tb G 33 (a,b,c)
def Qev (a b c:List Bool)(d:List Qah)(e:List GFun)(f:List UInt8)(h i:Int)(j:List GVar)(k:List Qaf)(l:Int)(m:Bool)(n:Int):Option Int:=M ctx tb G 35 (a,b,c,d,e,f,h,i,j,k,l,m,n)
def Qgz (a:List Qah)(b:Int):Option (Unit⊕Unit):=M ctx tb G 37 (a,b)
def QdX (a:List GCon):Option Bool:=M ctx tb G 38 a
def Qd7 (a b:List Qah)(c d:Int):Option (Unit⊕Unit):=M ctx tb G 40 (a,b,c,d)
def Qmr (a:List Qah):Option Bool:=M ctx tb G 41 a
def Qd8 (a b:List (List UInt8×Bool))(c:List Qah)(d e:Int):Option (Unit⊕Unit):=M ctx tb G 43 (a,b,c,d,e)
def Qdn (a:List Qah)(b:Int):Option (Unit⊕Unit):=M ctx tb G 44 (a,b)
def Qk2 (a:Qae)(b:Int):Option Int:=M ctx tb G 46 (a,b)
def QlG (a:List UInt8):Option Bool:=M ctx tb G 47 a
def QqW (a:List UInt8):Option Bool:=M ctx tb G 49 a
def Qe7 (a:List Qah)(b c:Int):Option (Unit⊕Unit):=M ctx tb G 51 (a,b,c)
def QiN (a:List GCon):Option Int:=M ctx tb G 52 a
def Qms (a:List Qah):Option Bool:=M ctx tb G 53 a
def Qcv (a b:List Bool)(c:List Int)(d:Qae)(e:GFun)(f h i:Int):Option (List Int):=M ctx tb G 54 (a,b,c,d,e,f,h,i)
def Qc3 (a:List GCon):Option Bool:=M ctx tb G 55 a
def Qbl (a b c:List Bool)(d:List Qah)(e:List GFun)(f:List UInt8)(h i:Int)(j:List GVar)(k:List Qaf)(l:Int)(m:Bool)(n:GFun)(o:List GFun)(p q:Int):Option (Unit⊕Unit):=M ctx tb G 56 (a,b,c,d,e,f,h,i,j,k,l,m,n,o,p,q)
def QfP (a b:List Qah)(c d:Int)(e:List GCon)(f h:Int):Option (Unit⊕Unit):=M ctx tb G 58 (a,b,c,d,e,f,h)
def Qd9 (a b:List (List UInt8))(c:List Qah)(d:Int):Option (Unit⊕Unit):=M ctx tb G 59 (a,b,c,d)
def Qea (a b:List (List UInt8×Bool))(c:List Qah)(d e:Int)(f:List GCon)(h i:Int):Option (Unit⊕List (List UInt8×Bool)):=M ctx tb G 61 (a,b,c,d,e,f,h,i)
def QhJ (a:List UInt8):Option Bool:=M ctx tb G 62 a
def Qn9 (a:List UInt8):Option Bool:=M ctx tb G 64 a
def QcG (a:List UInt8)(b c:Int):Option (Unit⊕Unit):=M ctx tb G 65 (a,b,c)
def QhK (a:List UInt8)(b c:Int):Option Bool:=M ctx tb G 66 (a,b,c)
def Qcs (a:List GCon)(b c:Int):Option (Unit⊕Int):=M ctx tb G 68 (a,b,c)
def Qk3 (a:List Qah):Option Bool:=M ctx tb G 69 a
def Qk4 (a:List Qah):Option Bool:=M ctx tb G 70 a
def Qdo (a:List Qah)(b c:Int):Option (Unit⊕Unit):=M ctx tb G 71 (a,b,c)
def Qdp (a:Qae)(b:GFun)(c d:Int):Option (Unit⊕Unit):=M ctx tb G 72 (a,b,c,d)
def QfQ (a:List Qah)(b:Int):Option (Unit⊕Unit):=M ctx tb G 73 (a,b)
def Qg7 (a:List GCon):Option Int:=M ctx tb G 74 a
def Qc4 (a:List Qah)(b:List Int):Option Bool:=M ctx tb G 76 (a,b)
def QpA (a:List (List UInt8))(b:List UInt8):Option Bool:=M ctx tb G 77 (a,b)
def QbX (a:List UInt8)(b:Int):Option (Unit⊕Unit):=M ctx tb G 78 (a,b)
def Qe8 (a:List UInt8)(b:Int):Option (Unit⊕Bool):=M ctx tb G 79 (a,b)
def QoX (a:GCon):Option Bool:=M ctx tb G 81 a
def Qdq (a b:List Bool)(c:List Int)(d e:Int)(f:Qae)(h:GFun)(i:Int):Option (List Bool×List Bool×Int×Int):=M ctx tb G 82 (a,b,c,d,e,f,h,i)
def Qew (a b c:List Bool)(d:List Qah)(e:List GFun)(f:List UInt8)(h i:Int)(j:List GVar)(k:List Qaf)(l:Int)(m:Bool)(n:Int):Option Bool:=M ctx tb G 83 (a,b,c,d,e,f,h,i,j,k,l,m,n)
def Qeb (a b:List (List UInt8))(c:List Qah)(d e:Int):Option (Unit⊕List (List UInt8)):=M ctx tb G 86 (a,b,c,d,e)
def Qe9 (a:List Bool)(b:List Qah)(c:Bool):Option (List Bool):=M ctx tb G 87 (a,b,c)
def Qdr (a:List Bool)(b:List Qah)(c:Int):Option (List Bool):=M ctx tb G 88 (a,b,c)
def QfR (a:List Qah)(b c:Int):Option (Unit⊕Unit):=M ctx tb G 89 (a,b,c)
def Qb7 (a:List GCon)(b c:Int):Option (Unit⊕Int):=M ctx tb G 90 (a,b,c)
def Qg8 (a:List Qah)(b:List Int):Option Int:=M ctx tb G 92 (a,b)
def QjB (a:List (List UInt8))(b:List UInt8)(c:Int):Option (Unit⊕Unit):=M ctx tb G 93 (a,b,c)
def QiO (a:List UInt8)(b c:Int):Option Bool:=M ctx tb G 94 (a,b,c)
def QcR (a b c:List Bool)(d:GFun)(e:List Qah)(f:List GFun)(h:List UInt8)(i j:Int)(k:List GVar)(l:List Qaf)(m:Int)(n:Bool)(o p:Int):Option (List Bool×List Bool):=M ctx tb G 96 (a,b,c,d,e,f,h,i,j,k,l,m,n,o,p)
def Qds (a:Qae)(b:Int):Option Bool:=M ctx tb G 97 (a,b)
def Qgg (a b:List Bool)(c:List Int)(d e:Int)(f:Qae)(h:GFun)(i:Qaf):Option (List Bool×Int):=M ctx tb G 99 (a,b,c,d,e,f,h,i)
def Qcw (a:List Bool)(b:List Qah)(c:Bool)(d e:Int):Option (List Bool×Bool):=M ctx tb G 101 (a,b,c,d,e)
def Qdt (a:List Bool)(b:List Qah)(c d:Int):Option (List Bool):=M ctx tb G 102 (a,b,c,d)
def QfS (a:List Qah)(b c:Int)(d:List Int)(e:Int):Option (Unit⊕Unit):=M ctx tb G 103 (a,b,c,d,e)
def QlX (a:GCon):Option Bool:=M ctx tb G 104 a
def Qb8 (a:List Qah)(b:List Int)(c d:Int):Option (Unit⊕Int):=M ctx tb G 106 (a,b,c,d)
def Qfa (a:List UInt8)(b:Int):Option (Unit⊕Unit):=M ctx tb G 107 (a,b)
def Qc5 (a b c:List Bool)(d:List Qah)(e:List GFun)(f:List UInt8)(h i:Int)(j:List GVar)(k:List Qaf)(l:Int)(m:Bool)(n:List GVar):Option Bool:=M ctx tb G 108 (a,b,c,d,e,f,h,i,j,k,l,m,n)
def Qbw (a:Qae)(b:GFun)(c:Int):Option (Unit⊕Unit):=M ctx tb G 110 (a,b,c)
def QcS (a:List Bool)(b:Bool):Option Bool:=M ctx tb G 111 (a,b)
def Qdu (a:List Bool)(b:Int):Option (Unit⊕Unit):=M ctx tb G 112 (a,b)
def Qoa (a:Qaf):Option Bool:=M ctx tb G 115 a
def Qc6 (a:List Bool)(b:List GCon):Option Bool:=M ctx tb G 117 (a,b)
def Qdv (a:List Bool)(b:List Qah)(c d e:Int):Option (List Bool):=M ctx tb G 118 (a,b,c,d,e)
def QhL (a:List Qah)(b:Int):Option Bool:=M ctx tb G 119 (a,b)
def Qnk (a:List Qah)(b:Int):Option Bool:=M ctx tb G 121 (a,b)
def Qk5 (a:Int):Option Bool:=M ctx tb G 122 a
def Qcx (a b c:List Bool)(d:List Qah)(e:List GFun)(f:List UInt8)(h i:Int)(j:List GVar)(k:List Qaf)(l:Int)(m:Bool)(n:Int):Option (List Bool×List Bool×List Bool×Int×Int):=M ctx tb G 123 (a,b,c,d,e,f,h,i,j,k,l,m,n)
def Qob (a:Qaf):Option (List Int):=M ctx tb G 126 a
def Qg9 (a b c:List Bool)(d:List Qah)(e:List GFun)(f:List UInt8)(h i:Int)(j:List GVar)(k:List Qaf)(l:Int)(m:Bool)(n:List GVar):Option Int:=M ctx tb G 128 (a,b,c,d,e,f,h,i,j,k,l,m,n)
def QgA (a:List Bool)(b:Bool):Option Int:=M ctx tb G 130 (a,b)
def Qha (a:List Bool)(b:List GCon):Option Int:=M ctx tb G 133 (a,b)
def Qdw (a:List Bool)(b:List Qah)(c d e:Int)(f:Bool)(h:List Int)(i:Int):Option Bool:=M ctx tb G 134 (a,b,c,d,e,f,h,i)
def QhM (a:List Qah)(b:Int):Option Bool:=M ctx tb G 135 (a,b)
def Qbb (a:Qae)(b:GFun)(c:Int):Option (Unit⊕Unit):=M ctx tb G 136 (a,b,c)
def QbY (a:List Int)(b c:List Bool)(d e:Int)(f:Qae)(h:GFun)(i:Qaf)(j:List Int)(k:Int):Option (Unit⊕Unit):=M ctx tb G 138 (a,b,c,d,e,f,h,i,j,k)
def Qfb (a b c:List Bool)(d:List Qah)(e:List GFun)(f:List UInt8)(h i:Int)(j:List GVar)(k:List Qaf)(l:Int)(m:Bool)(n:Qaf):Option (List Bool×Int):=M ctx tb G 140 (a,b,c,d,e,f,h,i,j,k,l,m,n)
def QdJ (a:List Int)(b:Qaf)(c:Int):Option (List Int):=M ctx tb G 142 (a,b,c)
def Qb9 (a b c:List Bool)(d:List Qah)(e:List GFun)(f:List UInt8)(h i:Int)(j:List GVar)(k:List Qaf)(l:Int)(m:Bool)(n:List GVar)(o p:Int):Option (Unit⊕Int):=M ctx tb G 143 (a,b,c,d,e,f,h,i,j,k,l,m,n,o,p)
def QcT (a:List Bool)(b:Bool)(c d:Int):Option (Int⊕Unit):=M ctx tb G 145 (a,b,c,d)
def Qca (a:List Bool)(b:List GCon)(c d:Int):Option (Unit⊕Int):=M ctx tb G 146 (a,b,c,d)
def QdK (a:Qaf):Option (List Int):=M ctx tb G 149 a
def QfM (a:List Qah)(b:Int):Option Bool:=M ctx tb G 150 (a,b)
def QtW (a:List Int)(b:Int):Option Bool:=M ctx tb G 152 (a,b)
def QqX (a:Qaf):Option Bool:=M ctx tb G 153 a
def Qf3 (a b c:List Bool)(d:List Qah)(e:List GFun)(f:List UInt8)(h i:Int)(j:List GVar)(k:List Qaf)(l:Int)(m:Bool)(n:GVar):Option Bool:=M ctx tb G 155 (a,b,c,d,e,f,h,i,j,k,l,m,n)
def QlY (a:List Bool)(b:GCon):Option Bool:=M ctx tb G 157 (a,b)
def Qex (a:Qaf):Option (List Int):=M ctx tb G 158 a
def QdL (a:List Int)(b:Qaf)(c:Int):Option (List Int):=M ctx tb G 161 (a,b,c)
def QqY (a:Qaf):Option (List Int):=M ctx tb G 162 a
def QeI (a:Qaf):Option (List Int):=M ctx tb G 166 a
def Qfc (a:List Int)(b:Qaf)(c:Int):Option (List Int):=M ctx tb G 167 (a,b,c)
def QgB (a:List Qah)(b c:Int):Option (Unit⊕Unit):=M ctx tb G 168 (a,b,c)
def QjC (a:List Int)(b c:Int):Option (Unit⊕Unit):=M ctx tb G 169 (a,b,c)
def Qoc (a:Int):Option (QBS×Bool):=M ctx tb G 170 a
def Qc7 (a:List Bool)(b:List Int):Option Bool:=M ctx tb G 172 (a,b)
def QbZ (a:List Int)(b c:List Bool)(d e:Int)(f:Qae)(h:GFun)(i:Qaf)(j:List Int)(k:Int):Option (Unit⊕Unit):=M ctx tb G 173 (a,b,c,d,e,f,h,i,j,k)
def Qbx (a b c:List Bool)(d:List Qah)(e:List GFun)(f:List UInt8)(h i:Int)(j:List GVar)(k:List Qaf)(l:Int)(m:Bool)(n:Qaf)(o:List Int)(p q:Int):Option (Unit⊕Unit):=M ctx tb G 175 (a,b,c,d,e,f,h,i,j,k,l,m,n,o,p,q)
def Qf4 (a:Qaf):Option (List Int):=M ctx tb G 177 a
def Qec (a:List Int)(b:Qaf)(c:Int):Option (List Int):=M ctx tb G 179 (a,b,c)
def QeJ (a b:List Int)(c d:Int):Option (List Int):=M ctx tb G 182 (a,b,c,d)
def Qfd (a:List Int)(b:List Qcq)(c d:Int):Option (List Int):=M ctx tb G 186 (a,b,c,d)
def Qod:Option Unit:=M ctx tb G 187 ()
def Qhb (a:List Bool)(b:List Int):Option Int:=M ctx tb G 189 (a,b)
def Qc8 (a b c:List Bool)(d:List Qah)(e:List GFun)(f:List UInt8)(h i:Int)(j:List GVar)(k:List Qaf)(l:Int)(m:Bool)(n:List GVar):Option Bool:=M ctx tb G 190 (a,b,c,d,e,f,h,i,j,k,l,m,n)
def Qcm (a:List Int)(b c:List Bool)(d e:Int)(f:Qae)(h:GFun)(i:Qaf)(j:List Int)(k:Int):Option (List Bool⊕List Bool):=M ctx tb G 191 (a,b,c,d,e,f,h,i,j,k)
def Qf5 (a:List Int)(b:List Qcq)(c d:Int):Option (List Int):=M ctx tb G 193 (a,b,c,d)
def Qcb (a:List Bool)(b:List Int)(c d:Int):Option (Unit⊕Int):=M ctx tb G 197 (a,b,c,d)
def QdM (a b:List Bool)(c:GFun)(d e f:Int):Option (Int⊕Unit):=M ctx tb G 198 (a,b,c,d,e,f)
def QaR (a:List Int)(b c:List Bool)(d e:Int)(f:Qae)(h:GFun)(i:Qaf)(j:List Int)(k:Int):Option (List Bool⊕List Bool):=M ctx tb G 199 (a,b,c,d,e,f,h,i,j,k)
def Qby (a b c:List Bool)(d:List Qah)(e:List GFun)(f:List UInt8)(h i:Int)(j:List GVar)(k:List Qaf)(l:Int)(m:Bool)(n:Qaf)(o p:List Int)(q r:Int):Option (Unit⊕Unit):=M ctx tb G 201 (a,b,c,d,e,f,h,i,j,k,l,m,n,o,p,q,r)
def Qhc (a b c:List Bool)(d:List Qah)(e:List GFun)(f:List UInt8)(h i:Int)(j:List GVar)(k:List Qaf)(l:Int)(m:Bool)(n:List GVar):Option Int:=M ctx tb G 203 (a,b,c,d,e,f,h,i,j,k,l,m,n)
def QjW (a:List Bool)(b:Int):Option Bool:=M ctx tb G 206 (a,b)
def Qcn (a:List Int)(b c:List Bool)(d e:Int)(f:Qae)(h:GFun)(i:Qaf)(j:List Int)(k:Int):Option (List Bool×List Bool×Int×Int⊕List Bool×List Bool×Int×Int):=M ctx tb G 207 (a,b,c,d,e,f,h,i,j,k)
def QaN (a b c:List Bool)(d:List Qah)(e:List GFun)(f:List UInt8)(h i:Int)(j:List GVar)(k:List Qaf)(l:Int)(m:Bool)(n:Qaf)(o:Int)(p q:List Int)(r s:Int):Option (List Bool⊕List Bool):=M ctx tb G 208 (a,b,c,d,e,f,h,i,j,k,l,m,n,o,p,q,r,s)
def Qcc (a b c:List Bool)(d:List Qah)(e:List GFun)(f:List UInt8)(h i:Int)(j:List GVar)(k:List Qaf)(l:Int)(m:Bool)(n:List GVar)(o p:Int):Option (Unit⊕Int):=M ctx tb G 210 (a,b,c,d,e,f,h,i,j,k,l,m,n,o,p)
def Qcy (a b:List Bool)(c:GFun)(d e f:Int):Option (Unit⊕Unit):=M ctx tb G 211 (a,b,c,d,e,f)
def Qey (a:Qae)(b:GFun)(c:Qaf):Option Bool:=M ctx tb G 212 (a,b,c)
def QaD (a b c:List Bool)(d:List Qah)(e:List GFun)(f:List UInt8)(h i:Int)(j:List GVar)(k:List Qaf)(l:Int)(m:Bool)(n:Qaf)(o p:List Int)(q r:Int):Option (List Bool⊕List Bool):=M ctx tb G 214 (a,b,c,d,e,f,h,i,j,k,l,m,n,o,p,q,r)
def Qf6 (a b c:List Bool)(d:List Qah)(e:List GFun)(f:List UInt8)(h i:Int)(j:List GVar)(k:List Qaf)(l:Int)(m:Bool)(n:GVar):Option Bool:=M ctx tb G 216 (a,b,c,d,e,f,h,i,j,k,l,m,n)
def Qez (a:Qae)(b:GFun)(c:Qaf):Option Bool:=M ctx tb G 217 (a,b,c)
def QbI (a b c:List Bool)(d:List Qah)(e:List GFun)(f:List UInt8)(h i:Int)(j:List GVar)(k:List Qaf)(l:Int)(m:Bool)(n:Qaf)(o:List Int)(p q:Int):Option (List Bool×List Bool×List Bool⊕List Bool×List Bool×List Bool×Int×Int):=M ctx tb G 218 (a,b,c,d,e,f,h,i,j,k,l,m,n,o,p,q)
def Qbh (a:GFun)(b:Int):Option Int:=M ctx tb G 219 (a,b)
def Qf7 (a:Qae)(b:GFun)(c:Int)(d:List Int):Option Bool:=M ctx tb G 220 (a,b,c,d)
def Qf8 (a:Qae)(b:GFun)(c d:Int)(e:List Int)(f:Int):Option Bool:=M ctx tb G 221 (a,b,c,d,e,f)
def QgI (a:List Qah)(b:Int):Option Bool:=M ctx tb G 222 (a,b)
def QaW (a b c:List Bool)(d:List Qah)(e:List GFun)(f:List UInt8)(h i:Int)(j:List GVar)(k:List Qaf)(l:Int)(m:Bool)(n:Qaf):Option Bool:=M ctx tb G 223 (a,b,c,d,e,f,h,i,j,k,l,m,n)
def QcX (a:Qae)(b:GFun)(c:Qaf)(d e:Int):Option (Unit⊕Unit):=M ctx tb G 224 (a,b,c,d,e)
def QcY (a:Qae)(b:GFun)(c:Qaf)(d:List Int)(e:Int):Option (Unit⊕Unit):=M ctx tb G 225 (a,b,c,d,e)
def QbJ (a b c:List Bool)(d:List Qah)(e:List GFun)(f:List UInt8)(h i:Int)(j:List GVar)(k:List Qaf)(l:Int)(m:Bool)(n:Qaf)(o:Int)(p q:List Int)(r s:Int)(t:List Int)(u v:Int):Option (List Bool):=M ctx tb G 226 (a,b,c,d,e,f,h,i,j,k,l,m,n,o,p,q,r,s,t,u,v)
def Qfe (a b:GFun)(c:List Int)(d:Int):Option (Unit⊕Unit):=M ctx tb G 227 (a,b,c,d)
def Qdx (a:Qae)(b:GFun)(c d:Int)(e:List Int)(f h:Int):Option (Unit⊕Unit):=M ctx tb G 228 (a,b,c,d,e,f,h)
def Qoe (a:List Qah)(b:Int):Option (List GCon):=M ctx tb G 229 (a,b)
def Qc9 (a:List GCon):Option Bool:=M ctx tb G 231 a
def Qav (a b c:List Bool)(d:List Qah)(e:List GFun)(f:List UInt8)(h i:Int)(j:List GVar)(k:List Qaf)(l:Int)(m:Bool)(n:Int):Option Int:=M ctx tb G 232 (a,b,c,d,e,f,h,i,j,k,l,m,n)
def Qde (a b c:List Bool)(d:List Int)(e:List Qah)(f:List GFun)(h:List UInt8)(i j:Int)(k:List GVar)(l:List Qaf)(m:Int)(n:Bool)(o:List Int)(p:Int):Option Bool:=M ctx tb G 233 (a,b,c,d,e,f,h,i,j,k,l,m,n,o,p)
def QbK (a b c:List Bool)(d:List Qah)(e:List GFun)(f:List UInt8)(h i:Int)(j:List GVar)(k:List Qaf)(l:Int)(m:Bool)(n:Int):Option Bool:=M ctx tb G 234 (a,b,c,d,e,f,h,i,j,k,l,m,n)
def Qcz (a b c:List Bool)(d:List Qah)(e:List GFun)(f:List UInt8)(h i:Int)(j:List GVar)(k:List Qaf)(l:Int)(m:Bool)(n:Int)(o:List Int):Option Bool:=M ctx tb G 235 (a,b,c,d,e,f,h,i,j,k,l,m,n,o)
def QcH (a b c:List Bool)(d:List Qah)(e:List GFun)(f:List UInt8)(h i:Int)(j:List GVar)(k:List Qaf)(l:Int)(m:Bool)(n o:Int):Option (Unit⊕List Int):=M ctx tb G 236 (a,b,c,d,e,f,h,i,j,k,l,m,n,o)
def QbL (a b c:List Bool)(d:List Qah)(e:List GFun)(f:List UInt8)(h i:Int)(j:List GVar)(k:List Qaf)(l:Int)(m:Bool)(n:Qaf)(o:List Int)(p q:Int)(r:List Int)(s t:Int):Option (List Bool):=M ctx tb G 237 (a,b,c,d,e,f,h,i,j,k,l,m,n,o,p,q,r,s,t)
def Qhd (a:List GCon):Option Int:=M ctx tb G 239 a
def Qbz (a b c:List Bool)(d:List Int)(e:List Qah)(f:List GFun)(h:List UInt8)(i j:Int)(k:List GVar)(l:List Qaf)(m:Int)(n:Bool)(o:Int)(p:List Int)(q r:Int):Option (Unit⊕Unit):=M ctx tb G 240 (a,b,c,d,e,f,h,i,j,k,l,m,n,o,p,q,r)
def QeA (a b c:List Bool)(d:List Qah)(e:List GFun)(f:List UInt8)(h i:Int)(j:List GVar)(k:List Qaf)(l:Int)(m:Bool)(n:Int):Option (List Int×Bool):=M ctx tb G 241 (a,b,c,d,e,f,h,i,j,k,l,m,n)
def QbM (a b c:List Bool)(d:List Qah)(e:List GFun)(f:List UInt8)(h i:Int)(j:List GVar)(k:List Qaf)(l:Int)(m:Bool)(n o:List Int)(p:Int):Option Bool:=M ctx tb G 242 (a,b,c,d,e,f,h,i,j,k,l,m,n,o,p)
def Qa1 (a b c:List Bool)(d:List Qah)(e:List GFun)(f:List UInt8)(h i:Int)(j:List GVar)(k:List Qaf)(l:Int)(m:Bool)(n:Int)(o:List Qcq)(p q:Int):Option (Unit⊕Unit):=M ctx tb G 243 (a,b,c,d,e,f,h,i,j,k,l,m,n,o,p,q)
def Qcd (a:List GCon)(b c:Int):Option (Unit⊕Int):=M ctx tb G 244 (a,b,c)
def Qbm (a b c:List Bool)(d:List Int)(e:List Qah)(f:List GFun)(h:List UInt8)(i j:Int)(k:List GVar)(l:List Qaf)(m:Int)(n:Bool)(o:List GVar)(p q:Int):Option (List Int):=M ctx tb G 245 (a,b,c,d,e,f,h,i,j,k,l,m,n,o,p,q)
def Qaq (a b c:List Bool)(d:List Qah)(e:List GFun)(f:List UInt8)(h i:Int)(j:List GVar)(k:List Qaf)(l:Int)(m:Bool)(n:Qaf)(o:List Int)(p q:Int):Option (Unit⊕Unit):=M ctx tb G 246 (a,b,c,d,e,f,h,i,j,k,l,m,n,o,p,q)
def Qbc (a b c:List Bool)(d:List Qah)(e:List GFun)(f:List UInt8)(h i:Int)(j:List GVar)(k:List Qaf)(l:Int)(m:Bool)(n:List Int)(o:Int)(p:List Int)(q r:Int):Option (Unit⊕Unit):=M ctx tb G 247 (a,b,c,d,e,f,h,i,j,k,l,m,n,o,p,q,r)
def QoY (a:GCon):Option Bool:=M ctx tb G 248 a
def Qmt:Option Bool:=M ctx tb G 254 ()
def QqZ (a:Qae):Option Bool:=M ctx tb G 256 a
def Qf9 (a:Qae)(b:Int):Option (Unit⊕Unit):=M ctx tb G 258 (a,b)
def QfT (a:Qae)(b:Int):Option (List Bool×List Int×List Qah×List GFun×List UInt8×Int×Int×List GVar×List Qaf×Int×Bool):=M ctx tb G 260 (a,b)
def Qga (a:Qae)(b:Int):Option (Unit⊕Unit):=M ctx tb G 262 (a,b)
def QcA (a:List Bool)(b:List Int)(c:Qae)(d:List Qah)(e:List GFun)(f:List UInt8)(h i:Int)(j:List GVar)(k:List Qaf)(l:Int)(m:Bool)(n:List GVar)(o p:Int):Option (List Bool×List Int):=M ctx tb G 264 (a,b,c,d,e,f,h,i,j,k,l,m,n,o,p)
def Qgb (a:Qae)(b:GFun)(c d:Int):Option (Unit⊕Unit):=M ctx tb G 267 (a,b,c,d)
def QgC (a:Qae)(b:GFun):Option (List Int):=M ctx tb G 268 (a,b)
def Qch (a:List Bool)(b:List Int)(c:List Qah)(d:List GFun)(e:List UInt8)(f h:Int)(i:List GVar)(j:List Qaf)(k:Int)(l:Bool)(m:Int):Option (List Int):=M ctx tb G 269 (a,b,c,d,e,f,h,i,j,k,l,m)
def Qk6 (a:GFun):Option (List Int):=M ctx tb G 270 a
def QcU (a:List Int)(b:Qae)(c:GFun)(d:Int):Option (List Int):=M ctx tb G 273 (a,b,c,d)
def Qmu (a:Qae)(b:GFun)(c:List Int):Option (List Int):=M ctx tb G 275 (a,b,c)
def Qbr (a:List Bool)(b:List Int)(c:List Qah)(d:List GFun)(e:List UInt8)(f h:Int)(i:List GVar)(j:List Qaf)(k:Int)(l:Bool)(m:Qaf)(n:List Int)(o p:Int):Option (List Int):=M ctx tb G 276 (a,b,c,d,e,f,h,i,j,k,l,m,n,o,p)
def Qb0 (a:List Bool)(b:List Int)(c:List Qah)(d:List GFun)(e:List UInt8)(f h:Int)(i:List GVar)(j:List Qaf)(k:Int)(l:Bool)(m:List Int)(n o:Int):Option (List Int):=M ctx tb G 277 (a,b,c,d,e,f,h,i,j,k,l,m,n,o)
def Qdy (a:List Int)(b:GFun)(c:Int):Option (List Int):=M ctx tb G 278 (a,b,c)
def QgJ (a:Qae)(b:GFun)(c:Int):Option Bool:=M ctx tb G 279 (a,b,c)
def QfN (a:List Int)(b:Qae)(c:GFun)(d:Int):Option (List Int):=M ctx tb G 281 (a,b,c,d)
def QeB (a:List Bool)(b:List Int)(c:List Qah)(d:List GFun)(e:List UInt8)(f h:Int)(i:List GVar)(j:List Qaf)(k:Int)(l:Bool):Option (List Bool×List Bool⊕List Bool×List Bool×Nat):=M ctx tb G 282 (a,b,c,d,e,f,h,i,j,k,l)
def QcZ (a:List Int)(b:Qae)(c:GFun)(d:List Int)(e:Int):Option (List Int):=M ctx tb G 283 (a,b,c,d,e)
def Qof (a:List Qah)(b:Int):Option Bool:=M ctx tb G 284 (a,b)
def Qed (a:List Int)(b:Qae)(c:GFun)(d:Qaf)(e:List Qcq)(f h:Int):Option (List Int):=M ctx tb G 286 (a,b,c,d,e,f,h)
def Qim (a:List Int)(b:Qae)(c:GFun)(d:List Int)(e f:Int):Option (List Int):=M ctx tb G 287 (a,b,c,d,e,f)
def Qfv (a:List Bool)(b:List Int)(c d e f:List Bool)(h:List Qah)(i:List GFun)(j:List UInt8)(k l:Int)(m:List GVar)(n:List Qaf)(o:Int)(p:Bool)(q r:Int):Option (Unit⊕List Bool×Nat):=M ctx tb G 288 (a,b,c,d,e,f,h,i,j,k,l,m,n,o,p,q,r)
def QgD (a:List GCon)(b:Int):Option (Unit⊕Unit):=M ctx tb G 289 (a,b)
def QfU (a:Qae)(b:GFun)(c:Qaf):Option (List Int):=M ctx tb G 290 (a,b,c)
def Qc0 (a:List Int)(b:Qae)(c:GFun)(d:Qaf)(e:List Qcq)(f h:Int)(i:List Int)(j k:Int):Option (List Int):=M ctx tb G 291 (a,b,c,d,e,f,h,i,j,k)
def Qff (a:List Bool)(b:List Int)(c d:List Bool)(e:List Int)(f:List Qah)(h:List GFun)(i:List UInt8)(j k:Int)(l:List GVar)(m:List Qaf)(n:Int)(o:Bool):Option (List Bool):=M ctx tb G 292 (a,b,c,d,e,f,h,i,j,k,l,m,n,o)
def QjD (a:Qae)(b:GFun)(c:Qaf):Option (List Int):=M ctx tb G 293 (a,b,c)
def QcI (a:Qae)(b:GFun)(c:List Int):Option (List Int):=M ctx tb G 294 (a,b,c)
def QcD (a:Qae)(b:GFun)(c:Int)(d:List Int)(e:Bool):Option (List Int):=M ctx tb G 295 (a,b,c,d,e)
def QbA (a:List Bool)(b:List Int)(c d:List Bool)(e:List Int)(f:List Qah)(h:List GFun)(i:List UInt8)(j k:Int)(l:List GVar)(m:List Qaf)(n:Int)(o:Bool)(p q:Int):Option (List Bool):=M ctx tb G 296 (a,b,c,d,e,f,h,i,j,k,l,m,n,o,p,q)
def Qc1 (a:List Int)(b:Qae)(c:GFun)(d:List Int)(e:Int):Option (List Int):=M ctx tb G 299 (a,b,c,d,e)
def Qb1 (a:List Int)(b:Qae)(c:GFun)(d:Int)(e:List Int)(f:Bool)(h:Int):Option (List Int):=M ctx tb G 300 (a,b,c,d,e,f,h)
def Qb2 (a:List Bool)(b:List Int)(c:List Qah)(d:List GFun)(e:List UInt8)(f h:Int)(i:List GVar)(j:List Qaf)(k:Int)(l:Bool)(m:Int):Option Bool:=M ctx tb G 301 (a,b,c,d,e,f,h,i,j,k,l,m)
def QbF (a:List Int)(b:Qae)(c:GFun)(d:Nat)(e:List Int)(f h:Int):Option (List Int):=M ctx tb G 304 (a,b,c,d,e,f,h)
def Qa2 (a:List Bool)(b:List Int)(c:List Qah)(d:List GFun)(e:List UInt8)(f h:Int)(i:List GVar)(j:List Qaf)(k:Int)(l:Bool)(m:Qaf):Option (List Int×List Int):=M ctx tb G 305 (a,b,c,d,e,f,h,i,j,k,l,m)
def Qnl (a:List Int)(b:Int):Option Bool:=M ctx tb G 306 (a,b)
def QgE (a:List Int)(b:Qae)(c:GFun)(d:Int)(e:Nat):Option (List Int):=M ctx tb G 307 (a,b,c,d,e)
def QaJ (a:List Bool)(b:List Int)(c:List Qah)(d:List GFun)(e:List UInt8)(f h:Int)(i:List GVar)(j:List Qaf)(k:Int)(l:Bool)(m:List Int):Option (List Int):=M ctx tb G 308 (a,b,c,d,e,f,h,i,j,k,l,m)
def QbQ (a:List Bool)(b c d:List Int)(e:List Qah)(f:List GFun)(h:List UInt8)(i j:Int)(k:List GVar)(l:List Qaf)(m:Int)(n:Bool)(o:Qaf)(p:List Int):Option (List Int×List Int):=M ctx tb G 309 (a,b,c,d,e,f,h,i,j,k,l,m,n,o,p)
def QbD (a:List Bool)(b:List Int)(c d e f:List Bool)(h:List Qah)(i:List GFun)(j:List UInt8)(k l:Int)(m:List GVar)(n:List Qaf)(o:Int)(p:Bool)(q:Nat)(r s:Int):Option (List Bool):=M ctx tb G 311 (a,b,c,d,e,f,h,i,j,k,l,m,n,o,p,q,r,s)
def QhN (a:List Int)(b c:Int):Option (Unit⊕Unit):=M ctx tb G 313 (a,b,c)
def QcV (a:List Int)(b:Qae)(c:GFun)(d:Qaf)(e:Nat)(f:List Qcq)(h i:Int):Option (List Int):=M ctx tb G 314 (a,b,c,d,e,f,h,i)
def Qbn (a:List Bool)(b c:List Int)(d:List Qah)(e:List GFun)(f:List UInt8)(h i:Int)(j:List GVar)(k:List Qaf)(l:Int)(m:Bool)(n:List Int)(o p:Int):Option (List Int):=M ctx tb G 315 (a,b,c,d,e,f,h,i,j,k,l,m,n,o,p)
def Qas (a:List Bool)(b c d:List Int)(e:List Qah)(f:List GFun)(h:List UInt8)(i j:Int)(k:List GVar)(l:List Qaf)(m:Int)(n:Bool)(o:Qaf)(p:List Int)(q r:Int):Option (List Int×List Int):=M ctx tb G 316 (a,b,c,d,e,f,h,i,j,k,l,m,n,o,p,q,r)
def QdY (a:List Bool)(b:List Int)(c d:List Bool)(e:List Int)(f:List Qah)(h:List GFun)(i:List UInt8)(j k:Int)(l:List GVar)(m:List Qaf)(n:Int)(o:Bool)(p:Nat):Option (List Bool):=M ctx tb G 318 (a,b,c,d,e,f,h,i,j,k,l,m,n,o,p)
def Qci (a:List Int)(b:Qae)(c:GFun)(d:Qaf)(e:Nat)(f:List Qcq)(h i:Int)(j:List Int)(k l:Int):Option (List Int):=M ctx tb G 319 (a,b,c,d,e,f,h,i,j,k,l)
def Qin (a:List (List Int)):Option (List Int):=M ctx tb G 324 a
def Qbd (a:List Bool)(b:List Int)(c d:List Bool)(e:List Int)(f:List Qah)(h:List GFun)(i:List UInt8)(j k:Int)(l:List GVar)(m:List Qaf)(n:Int)(o:Bool)(p:Nat)(q r:Int):Option (List Bool):=M ctx tb G 325 (a,b,c,d,e,f,h,i,j,k,l,m,n,o,p,q,r)
def QdN (a:List (List Int))(b:Int)(c:List (List Int))(d e:Int):Option Int:=M ctx tb G 328 (a,b,c,d,e)
def QoZ (a:Int):Option (List Int×Nat⊕Unit):=M ctx tb G 332 a
def QiP (a:List Int)(b:Nat)(c:List (List Int))(d e:Int):Option (Unit⊕List Int):=M ctx tb G 339 (a,b,c,d,e)
def Qbs (a:List Int)(b:List (List Int))(c d:Int):Option (List Int):=M ctx tb G 340 (a,b,c,d)
def QdZ (a:List Bool)(b:List Int)(c d:List Bool)(e:List Qah)(f:List GFun)(h:List UInt8)(i j:Int)(k:List GVar)(l:List Qaf)(m:Int)(n:Bool)(o:Qaf)(p:Int):Option (List Bool×List Bool×Nat×Nat):=M ctx tb G 343 (a,b,c,d,e,f,h,i,j,k,l,m,n,o,p)
def Qdz (a b:List Bool):Option (List Bool×List Bool×Nat×Nat):=M ctx tb G 348 (a,b)
def QaK (a b c:List Bool)(d:List Int)(e f h i:List Bool)(j:List Int)(k:List Qah)(l:List GFun)(m:List UInt8)(n o:Int)(p:List GVar)(q:List Qaf)(r:Int)(s:Bool)(t:Qaf)(u v:Nat)(w x y:Int):Option (List Bool):=M ctx tb G 354 (a,b,c,d,e,f,h,i,j,k,l,m,n,o,p,q,r,s,t,u,v,w,x,y)
def QaO (a:List Bool)(b:List Int)(c d:List Bool)(e:List Qah)(f:List GFun)(h:List UInt8)(i j:Int)(k:List GVar)(l:List Qaf)(m:Int)(n:Bool)(o p:Nat)(q:List Int):Option (List Bool):=M ctx tb G 362 (a,b,c,d,e,f,h,i,j,k,l,m,n,o,p,q)
def Qda (a:List Bool)(b:List Int)(c d:List Bool)(e:List Qah)(f:List GFun)(h:List UInt8)(i j:Int)(k:List GVar)(l:List Qaf)(m:Int)(n:Bool)(o:Qaf)(p:Int)(q:Nat):Option (List Bool×List Bool×Nat×Nat):=M ctx tb G 363 (a,b,c,d,e,f,h,i,j,k,l,m,n,o,p,q)
def Qbe (a:List Bool)(b:List Int)(c d:List Bool)(e:List Qah)(f:List GFun)(h:List UInt8)(i j:Int)(k:List GVar)(l:List Qaf)(m:Int)(n:Bool)(o p:Nat)(q:List Int)(r s:Int):Option (List Bool):=M ctx tb G 364 (a,b,c,d,e,f,h,i,j,k,l,m,n,o,p,q,r,s)
def QcJ (a b:List Bool)(c:Nat):Option (List Bool×List Bool×Nat×Nat):=M ctx tb G 365 (a,b,c)
def Qdb (a:List Bool)(b:List Int)(c d:List Bool)(e:List Qah)(f:List GFun)(h:List UInt8)(i j:Int)(k:List GVar)(l:List Qaf)(m:Int)(n:Bool)(o:Qaf)(p:Int)(q r:Nat):Option (List Bool×List Bool×Nat×Nat):=M ctx tb G 375 (a,b,c,d,e,f,h,i,j,k,l,m,n,o,p,q,r)
def QcK (a b:List Bool)(c d:Nat):Option (List Bool×List Bool×Nat×Nat):=M ctx tb G 376 (a,b,c,d)
def Qd0 (a:Qae)(b c:Int):Option Bool:=M ctx tb G 384 (a,b,c)
def Qhe (a:Qae)(b:Int):Option (List Int×Int):=M ctx tb G 385 (a,b)
def Qmv (a:Qae)(b:Int):Option (List Int×Int):=M ctx tb G 386 (a,b)
def Qio (a:Qae)(b c:Int):Option (List Int×Int):=M ctx tb G 387 (a,b,c)
def Qog (a:Qae)(b c:Int):Option (List Int×Int):=M ctx tb G 388 (a,b,c)
def Qep (a b c d e:List Bool)(f:List Int)(h:Int)(i:List Qah)(j:List GFun)(k:List UInt8)(l m:Int)(n:List GVar)(o:List Qaf)(p:Int)(q:Bool)(r:Int):Option (Unit⊕Unit⊕List Bool×List Bool×Nat×Nat):=M ctx tb G 389 (a,b,c,d,e,f,h,i,j,k,l,m,n,o,p,q,r)
def Qdf (a b c d e:List Bool)(f:List Int)(h:Int)(i:List Qah)(j:List GFun)(k:List UInt8)(l m:Int)(n:List GVar)(o:List Qaf)(p:Int)(q:Bool)(r:Int)(s:Nat):Option (Unit⊕Unit⊕List Bool×List Bool×Nat×Nat):=M ctx tb G 390 (a,b,c,d,e,f,h,i,j,k,l,m,n,o,p,q,r,s)
def QlH (a b:List Int):Option Bool:=M ctx tb G 391 (a,b)
def Qco (a:GFun)(b c:Int)(d:List Int):Option (List Int×Bool):=M ctx tb G 392 (a,b,c,d)
def Qb3 (a b c d e:List Bool)(f:List Int)(h:Int)(i:List Qah)(j:List GFun)(k:List UInt8)(l m:Int)(n:List GVar)(o:List Qaf)(p:Int)(q:Bool)(r:Int)(s:List Int)(t u:Int):Option (Unit⊕List Bool×List Bool×Nat×Nat):=M ctx tb G 393 (a,b,c,d,e,f,h,i,j,k,l,m,n,o,p,q,r,s,t,u)
def QbB (a b c d e:List Bool)(f:List Int)(h:Int)(i:List Qah)(j:List GFun)(k:List UInt8)(l m:Int)(n:List GVar)(o:List Qaf)(p:Int)(q:Bool)(r:Nat)(s:Int)(t:List Int)(u v:Int):Option (Unit⊕List Bool×List Bool×Nat×Nat):=M ctx tb G 394 (a,b,c,d,e,f,h,i,j,k,l,m,n,o,p,q,r,s,t,u,v)
def QaX (a:List Bool)(b:List Int)(c:List Qah)(d:List GFun)(e:List UInt8)(f h:Int)(i:List GVar)(j:List Qaf)(k:Int)(l:Bool)(m:Int):Option (List Bool):=M ctx tb G 395 (a,b,c,d,e,f,h,i,j,k,l,m)
def Qoh (a:Qae)(b:GFun)(c:List Int)(d:Int):Option (List Int):=M ctx tb G 396 (a,b,c,d)
def QgF (a b:List Int)(c:Int):Option (Unit⊕Unit):=M ctx tb G 397 (a,b,c)
def QdA (a:GFun)(b:Int)(c:List Int)(d:List Qcq)(e f:Int):Option (List Int⊕Unit):=M ctx tb G 398 (a,b,c,d,e,f)
def QdB (a:GFun)(b:Qaf)(c:Int)(d e:List Int)(f h:Int):Option (List Int⊕Unit):=M ctx tb G 399 (a,b,c,d,e,f,h)
def Qay (a b c d e:List Bool)(f:List Int)(h:Int)(i:List Qah)(j:List GFun)(k:List UInt8)(l m:Int)(n:List GVar)(o:List Qaf)(p:Int)(q:Bool)(r:Int)(s t:Nat):Option (Unit⊕List Bool×List Bool×Nat×Nat⊕Unit):=M ctx tb G 400 (a,b,c,d,e,f,h,i,j,k,l,m,n,o,p,q,r,s,t)
def Qbi (a:List Bool)(b:List Int)(c:List Bool)(d:List Qah)(e:List GFun)(f:List UInt8)(h i:Int)(j:List GVar)(k:List Qaf)(l:Int)(m:Bool)(n:Int):Option (List Bool):=M ctx tb G 401 (a,b,c,d,e,f,h,i,j,k,l,m,n)
def Qfg (a b:List Int)(c:Qae)(d:GFun)(e:Qaf)(f:List Int)(h:Int):Option (List Int):=M ctx tb G 402 (a,b,c,d,e,f,h)
def QbC (a b c d e:List Bool)(f:List Int)(h:Int)(i:List Qah)(j:List GFun)(k:List UInt8)(l m:Int)(n:List GVar)(o:List Qaf)(p:Int)(q:Bool)(r s:Nat)(t:Int)(u:List Int)(v w:Int):Option (List Bool×List Bool×Nat×Nat⊕Unit):=M ctx tb G 403 (a,b,c,d,e,f,h,i,j,k,l,m,n,o,p,q,r,s,t,u,v,w)
def Qbf (a:List Bool)(b:List Int)(c:List Bool)(d:List Qah)(e:List GFun)(f:List UInt8)(h i:Int)(j:List GVar)(k:List Qaf)(l:Int)(m:Bool)(n:Qaf)(o:List Int)(p q:Int):Option (List Bool):=M ctx tb G 404 (a,b,c,d,e,f,h,i,j,k,l,m,n,o,p,q)
def QdO (a:List Int)(b:Qae)(c:GFun)(d e:List Int)(f h:Int):Option (List Int):=M ctx tb G 405 (a,b,c,d,e,f,h)
def Qbg (a:List Bool)(b:List Int)(c:List Bool)(d:List Qah)(e:List GFun)(f:List UInt8)(h i:Int)(j:List GVar)(k:List Qaf)(l:Int)(m:Bool)(n:List Int)(o p:Int):Option (List Bool):=M ctx tb G 406 (a,b,c,d,e,f,h,i,j,k,l,m,n,o,p)
def QeK (a:List Int)(b:Qae)(c:GFun)(d:List Int)(e:Int):Option (Unit⊕List Int):=M ctx tb G 407 (a,b,c,d,e)
def Qhf (a b:List Int)(c:Qae)(d:GFun)(e:Qaf)(f:List Int)(h:Int):Option (Unit⊕List Int):=M ctx tb G 408 (a,b,c,d,e,f,h)
def QcL (a b:List Int)(c:Qae)(d:GFun)(e:List Int)(f:Int):Option (List Int):=M ctx tb G 409 (a,b,c,d,e,f)
def Qfh (a b:List Int)(c:Qae)(d:GFun)(e:Qaf)(f:List Int)(h:Int):Option (List Int):=M ctx tb G 410 (a,b,c,d,e,f,h)
def QdC (a:List Int)(b:Qae)(c:GFun)(d e:List Int)(f h:Int):Option (Unit⊕List Int):=M ctx tb G 411 (a,b,c,d,e,f,h)
def Qa3 (a b:List Bool)(c:List Int)(d:List Bool)(e f:Int):Option (List Int):=M ctx tb G 412 (a,b,c,d,e,f)
def QaS (a b:List Bool)(c:List Int)(d:List Bool)(e f:Nat)(h i:Int):Option (List Int):=M ctx tb G 413 (a,b,c,d,e,f,h,i)
def Qbt (a b:List Bool)(c:List Int)(d:List Bool)(e:Nat)(f h:Int):Option (List Int):=M ctx tb G 414 (a,b,c,d,e,f,h)
def Qb4 (a:List Int)(b:Qae)(c:GFun)(d e:List Int)(f h:Int):Option (List Int):=M ctx tb G 415 (a,b,c,d,e,f,h)
theorem QtX a:QlF a=
 (Qmo a.1).bind fun b=>bif decide (b=0) then bif (decide ((128:Int)<(a.2.length:Int))) then some (6:Int) else (Qe6 a a.2.length 0).bind fun
   |.inl _=> some (0:Int)
   |.inr c=> some c else some b:=me 8
theorem QrO a:Qjz a=
 (Qmp a.1).bind fun b=>bif decide (b=0) then bif (decide ((128:Int)<(a.2.length:Int))) then some (6:Int) else (Qd6 a 0).bind fun
   |.inl _=> some (0:Int)
   |.inr c=> some c else some b:=me 12
theorem QrP a:Qmo a=
 (Qn7 a).bind fun b=>bif b then some (6:Int) else (Qk0 a).bind fun c=>bif c then (Qmq a).bind fun d=>bif d then some (8:Int) else (Qd7 a a a.length 0).bind fun
   |.inl _=> (Qk3 a).bind fun e=>bif e then some (0:Int) else some (7:Int)
   |.inr _=> some (10:Int) else some (3:Int):=me 13
theorem QjX a b c:Qe6 a b c=
 bif decide (c<b) then (QjA a c).bind fun ⟨d,e⟩=>bif decide (e=0) then Qe6 a b (Ev.wr .i64 (c+1)) else some (.inr e) else some (.inl ()):=me 15
theorem QrQ a:Qmp a=
 (Qn8 a).bind fun b=>bif b then some (6:Int) else (Qk1 a).bind fun c=>bif c then (Qmr a).bind fun d=>bif d then some (8:Int) else (Qms a).bind fun e=>bif e then (Qk4 a).bind fun f=>bif f then some (0:Int) else some (7:Int) else some (10:Int) else some (3:Int):=me 18
theorem QtY a:Qn7 a=
 bif (decide ((64:Int)<(a.length:Int))) then some true else (Qgy a a.length 0).bind fun
   |.inl _=> some true
   |.inr _=> some false:=me 19
theorem QiQ a b:Qd6 a b=
 bif (decide (b<(a.2.length:Int))) then (Qil a b).bind fun ⟨c,d⟩=>bif decide (d=0) then Qd6 a (Ev.wr .i64 (b+1)) else some (.inr d) else some (.inl ()):=me 21
theorem Qq0 a:Qk0 a=
 (bif (decide ((a.length:Int)=(0:Int))) then some true else (Sy.at' a 0).bind fun b=>some (!(decide (b.1=([66,111,111,108]:List UInt8))))).bind fun b=>(bif b then some true else (Sy.at' a 0).bind fun c=>some (!(decide ((c.2.length:Int)=(2:Int))))).bind fun c=>bif c then some false else (Sy.at' a 0).bind fun d=>(Sy.at' d.2 0).bind fun e=>(Sy.at' d.2 1).bind fun f=>(bif (decide (e.1=([70,97,108,115,101]:List UInt8))) then some (!(decide (f.1=([84,114,117,101]:List UInt8)))) else some true).bind fun h=>(bif h then some true else some (decide ((0:Int)<(Ev.wr .i64 ((e.2.length:Int)+(f.2.length:Int)))))).bind fun i=>bif i then some false else (Qdm a a.length 0).bind fun
      |.inl _=> some true
      |.inr _=> some false:=me 22
theorem Qpc a b:QjA a b=
 (bif (decide (b<(0:Int))) then some true else some (!(decide (b<(a.2.length:Int))))).bind fun c=>bif c then some ((0:Int),(2:Int)) else (Sy.at' a.2 b).bind fun d=>(Qev ([]:List (Bool)) ([]:List (Bool)) ([]:List (Bool)) a.1 a.2 d.1 d.2.1 d.2.2.1 d.2.2.2.1 d.2.2.2.2.1 d.2.2.2.2.2.1 d.2.2.2.2.2.2 b).bind fun e=>bif decide (e=0) then bif d.2.2.2.2.2.2 then some ((0:Int),(0:Int)) else bif (decide ((d.2.2.2.2.1.length:Int)<(0:Int))) then none else bif (decide (((d.2.2.2.2.1.length:Int).toNat * (1:Nat))≤(140737488355328:Nat))) then bif (decide ((d.2.2.2.1.length:Int)<(0:Int))) then none else bif (decide (((d.2.2.2.1.length:Int).toNat * (1:Nat))≤(140737488355328:Nat))) then (QcR (List.replicate (d.2.2.2.2.1.length:Int).toNat false) (List.replicate (d.2.2.2.1.length:Int).toNat false) (List.replicate (d.2.2.2.1.length:Int).toNat false) d a.1 a.2 d.1 d.2.1 d.2.2.1 d.2.2.2.1 d.2.2.2.2.1 d.2.2.2.2.2.1 d.2.2.2.2.2.2 d.2.1 0).bind fun ⟨f,h⟩=>(Sy.at' (List.replicate (d.2.2.2.2.1.length:Int).toNat false) d.2.2.2.2.2.1).bind fun i=>(Qcx (List.set (List.replicate (d.2.2.2.2.1.length:Int).toNat false) d.2.2.2.2.2.1.toNat true) f h a.1 a.2 d.1 d.2.1 d.2.2.1 d.2.2.2.1 d.2.2.2.2.1 d.2.2.2.2.2.1 d.2.2.2.2.2.2 d.2.2.2.2.2.1).bind fun ⟨j,k,l,m,n⟩=>bif decide (n=0) then (QgA j (false)).bind fun o=>bif (decide (o<(0:Int))) then (QcS k (false)).bind fun p=>bif p then some ((-1:Int),(3:Int)) else some ((0:Int),(0:Int)) else some (o,(3:Int)) else some (m,n) else none else none else some ((-1:Int),e):=me 24
theorem QtZ a:Qn8 a=
 bif (decide ((64:Int)<(a.length:Int))) then some true else (Qgz a 0).bind fun
   |.inl _=> some true
   |.inr _=> some false:=me 27
theorem QjY a b c:Qgy a b c=
 bif decide (c<b) then (Sy.at' a c).bind fun d=>(bif (decide ((16:Int)<(d.2.length:Int))) then some true else (QdX d.2).bind fun e=>some e).bind fun e=>bif e then some (.inl ()) else Qgy a b (Ev.wr .i64 (c+1)) else some (.inr ()):=me 28
theorem QrR a:Qmq a=
 (Qd8 (Sy.putD .str .bool ([]:List ((List UInt8)×(Bool))) ([73,110,116]:List UInt8) true) ([]:List ((List UInt8)×(Bool))) a a.length 0).bind fun
  |.inl _=> some true
  |.inr _=> some false:=me 29
theorem Qq1 a:Qk1 a=
 (bif (decide ((a.length:Int)=(0:Int))) then some true else (Sy.at' a 0).bind fun b=>some (!(decide (b.1=([66,111,111,108]:List UInt8))))).bind fun b=>(bif b then some true else (Sy.at' a 0).bind fun c=>some (!(decide ((c.2.length:Int)=(2:Int))))).bind fun c=>bif c then some false else (Sy.at' a 0).bind fun d=>(Sy.at' d.2 0).bind fun e=>(Sy.at' d.2 1).bind fun f=>(bif (decide (e.1=([70,97,108,115,101]:List UInt8))) then some (!(decide (f.1=([84,114,117,101]:List UInt8)))) else some true).bind fun h=>(bif h then some true else some (decide ((0:Int)<(e.2.length:Int)))).bind fun i=>(bif i then some true else some (decide ((0:Int)<(f.2.length:Int)))).bind fun j=>bif j then some false else (Qdn a 0).bind fun
      |.inl _=> some true
      |.inr _=> some false:=me 30
theorem Qoi a b:Qil a b=
 (bif (decide (b<(0:Int))) then some true else some (!(decide (b<(a.2.length:Int))))).bind fun c=>bif c then some ((0:Int),(2:Int)) else (Qk2 a b).bind fun d=>bif decide (d=0) then (Sy.at' a.2 b).bind fun e=>bif e.2.2.2.2.2.2 then some ((0:Int),(0:Int)) else bif (decide ((e.2.2.2.2.1.length:Int)<(0:Int))) then none else bif (decide (((e.2.2.2.2.1.length:Int).toNat * (1:Nat))≤(140737488355328:Nat))) then bif (decide ((e.2.2.2.1.length:Int)<(0:Int))) then none else bif (decide (((e.2.2.2.1.length:Int).toNat * (1:Nat))≤(140737488355328:Nat))) then (Qcv (List.replicate (e.2.2.2.2.1.length:Int).toNat false) (List.replicate (e.2.2.2.1.length:Int).toNat false) ([]:List (Int)) a e 0 0 0).bind fun f=>(Sy.at' (List.replicate (e.2.2.2.2.1.length:Int).toNat false) e.2.2.2.2.2.1).bind fun h=>(Qdq (List.set (List.replicate (e.2.2.2.2.1.length:Int).toNat false) e.2.2.2.2.2.1.toNat true) (List.replicate (e.2.2.2.1.length:Int).toNat false) f 0 0 a e e.2.2.2.2.2.1).bind fun ⟨i,j,k,l⟩=>bif decide (l=0) then (QdM i j e k l 0).bind fun
   |.inl m=> some (m,(3:Int))
   |.inr _=> (Qcy i j e k l e.2.1).bind fun
    |.inl _=> some ((-1:Int),(3:Int))
    |.inr _=> some ((0:Int),(0:Int)) else some (k,l) else none else none else some ((-1:Int),d):=me 32
theorem QhO a b c:Qdm a b c=
 bif decide (c<b) then (Sy.at' a c).bind fun d=>((QlG d.1).bind fun e=>bif e then some (decide ((d.2.length:Int)=(0:Int))) else some true).bind fun e=>(bif e then some true else (Qc3 d.2).bind fun f=>some f).bind fun f=>bif f then some (.inr ()) else Qdm a b (Ev.wr .i64 (c+1)) else some (.inl ()):=me 33
theorem Qki a b c d e f h i j k l m n:Qev a b c d e f h i j k l m n=
 (QqW f).bind fun o=>bif o then bif (decide (n<(0:Int))) then none else bif (decide ((e.length:Int)<n)) then none else (Qbl a b c d e f h i j k l m (f,(h,(i,(j,(k,(l,m)))))) (List.take n.toNat e) ((List.take n.toNat e).length:Int) 0).bind fun
   |.inl _=> some (8:Int)
   |.inr _=> (bif (decide ((6:Int)<h)) then some true else some (decide ((512:Int)<(j.length:Int)))).bind fun p=>(bif p then some true else some (decide ((4096:Int)<(k.length:Int)))).bind fun q=>bif q then some (6:Int) else (bif (decide (h<(0:Int))) then some true else some (decide ((j.length:Int)<h))).bind fun r=>bif r then some (3:Int) else (bif m then (bif (decide (h<(j.length:Int))) then some true else some (decide ((0:Int)<(k.length:Int)))).bind fun s=>(bif s then some true else some (!(decide (l=0)))).bind fun t=>bif t then some (.inl ()) else some (.inr ()) else (bif (decide (l<(0:Int))) then some true else some (!(decide (l<(k.length:Int))))).bind fun s=>bif s then some (.inl ()) else some (.inr ()):Option ((Unit)⊕(Unit))).bind fun
         |.inl _=> some (3:Int)
         |.inr _=> ((Qew a b c d e f h i j k l m i).bind fun s=>bif s then (Qc5 a b c d e f h i j k l m j).bind fun t=>some (.inl t) else some (.inr ()):Option (((Bool))⊕(Unit))).bind fun
          |.inl s=> bif s then some (10:Int) else (Qc8 a b c d e f h i j k l m j).bind fun t=>bif t then some (11:Int) else some (0:Int)
          |.inr _=> some (10:Int) else some (3:Int):=me 35
theorem QjZ a b:Qgz a b=
 bif (decide (b<(a.length:Int))) then (Sy.at' a b).bind fun c=>bif (decide ((16:Int)<(c.2.length:Int))) then some (.inl ()) else (Qe7 a b 0).bind fun
      |.inl _=> some (.inl ())
      |.inr _=> Qgz a (Ev.wr .i64 (b+1)) else some (.inr ()):=me 37
theorem QjE a:QdX a=
 (QiN a).bind fun b=>some (!(decide (b<(0:Int)))):=me 38
theorem QiR a b c d:Qd7 a b c d=
 bif decide (d<c) then (Sy.at' b d).bind fun e=>(QfP a b c d e.2 e.2.length 0).bind fun
   |.inl _=> Qd7 a b c (Ev.wr .i64 (d+1))
   |.inr _=> some (.inr ()) else some (.inl ()):=me 40
theorem QrS a:Qmr a=
 (Qd9 (([73,110,116]:List UInt8)::([]:List (List UInt8))) ([]:List (List UInt8)) a 0).bind fun
  |.inl _=> some false
  |.inr _=> some true:=me 41
theorem QiS a b c d e:Qd8 a b c d e=
 bif decide (e<d) then (Sy.at' c e).bind fun f=>bif (Sy.findD .str .bool a f.1 false) then some (.inl ()) else (Qea (Sy.putD .str .bool a f.1 true) b c d e f.2 f.2.length 0).bind fun
   |.inl _=> some (.inl ())
   |.inr h=> Qd8 (Sy.putD .str .bool a f.1 true) h c d (Ev.wr .i64 (e+1)) else some (.inr ()):=me 43
theorem QhP a b:Qdn a b=
 bif (decide (b<(a.length:Int))) then ((Sy.at' a b).bind fun c=>(QhJ c.1).bind fun d=>bif d then some (decide ((c.2.length:Int)=(0:Int))) else some true).bind fun c=>bif c then some (.inr ()) else (Qdo a b 0).bind fun
      |.inl _=> some (.inr ())
      |.inr _=> Qdn a (Ev.wr .i64 (b+1)) else some (.inl ()):=me 44
theorem Qq2 a b:Qk2 a b=
 (Sy.at' a.2 b).bind fun c=>(Qn9 c.1).bind fun d=>bif d then (Qdp a c b 0).bind fun
   |.inl _=> some (8:Int)
   |.inr _=> (bif (decide ((6:Int)<c.2.1)) then some true else some (decide ((512:Int)<(c.2.2.2.1.length:Int)))).bind fun e=>(bif e then some true else some (decide ((4096:Int)<(c.2.2.2.2.1.length:Int)))).bind fun f=>bif f then some (6:Int) else (bif (decide (c.2.1<(0:Int))) then some true else some (decide ((c.2.2.2.1.length:Int)<c.2.1))).bind fun h=>bif h then some (3:Int) else (bif c.2.2.2.2.2.2 then bif (decide ((c.2.2.2.1.length:Int)=c.2.1)) then some (.inl (decide ((0:Int)<(c.2.2.2.2.1.length:Int)))) else some (.inl true) else some (.inr ()):Option (((Bool))⊕(Unit))).bind fun
         |.inl i=> (bif i then some true else some (!(decide (c.2.2.2.2.2.1=(0:Int))))).bind fun j=>(bif j then some (.inl ()) else bif c.2.2.2.2.2.2 then some (.inr (.inl ())) else bif (decide (c.2.2.2.2.2.1<(0:Int))) then some (.inr (.inr true)) else some (.inr (.inr (!(decide (c.2.2.2.2.2.1<(c.2.2.2.2.1.length:Int)))))):Option ((Unit)⊕(Unit)⊕((Bool)))).bind fun
          |.inl _=> some (3:Int)
          | (.inr (.inl _))=>(Qds a c.2.2.1).bind fun k=>bif k then (Qbw a c 0).bind fun
            |.inl _=> some (10:Int)
            |.inr _=> (Qbb a c 0).bind fun
             |.inl _=> some (0:Int)
             |.inr _=> some (11:Int) else some (10:Int)
          | (.inr (.inr k))=>bif k then some (3:Int) else (Qds a c.2.2.1).bind fun l=>bif l then (Qbw a c 0).bind fun
            |.inl _=> some (10:Int)
            |.inr _=> (Qbb a c 0).bind fun
             |.inl _=> some (0:Int)
             |.inr _=> some (11:Int) else some (10:Int)
         |.inr _=> (bif c.2.2.2.2.2.2 then some (.inl ()) else bif (decide (c.2.2.2.2.2.1<(0:Int))) then some (.inr true) else some (.inr (!(decide (c.2.2.2.2.2.1<(c.2.2.2.2.1.length:Int))))):Option ((Unit)⊕((Bool)))).bind fun
          |.inl _=> (Qds a c.2.2.1).bind fun i=>bif i then (Qbw a c 0).bind fun
            |.inl _=> some (10:Int)
            |.inr _=> (Qbb a c 0).bind fun
             |.inl _=> some (0:Int)
             |.inr _=> some (11:Int) else some (10:Int)
          |.inr i=> bif i then some (3:Int) else (Qds a c.2.2.1).bind fun j=>bif j then (Qbw a c 0).bind fun
                |.inl _=> some (10:Int)
                |.inr _=> (Qbb a c 0).bind fun
                 |.inl _=> some (0:Int)
                 |.inr _=> some (11:Int) else some (10:Int) else some (3:Int):=me 46
theorem Qt0 a:QlG a=
 (bif (decide (a=([]:List UInt8))) then some true else some (decide ((32:Int)<(a.length:Int)))).bind fun c=>(bif c then some true else (Sy.at' (List.map (fun (b:UInt8)=>(b.toNat:Int)) a) 0).bind fun d=>some (decide (d<(65:Int)))).bind fun d=>(bif d then some true else (Sy.at' (List.map (fun (b:UInt8)=>(b.toNat:Int)) a) 0).bind fun e=>some (decide ((90:Int)<e))).bind fun e=>bif e then some false else (QcG a a.length 0).bind fun
   |.inl _=> some false
   |.inr _=> some true:=me 47
theorem Qvx a:QqW a=
 (strings_Cut a ([46]:List UInt8)).bind fun ⟨b,c,d⟩=>((QhK b 97 122).bind fun e=>bif e then bif d then (QhK c 97 122).bind fun f=>some (.inl f) else some (.inl true) else some (.inr ()):Option (((Bool))⊕(Unit))).bind fun
  |.inl e=> some e
  |.inr _=> some false:=me 49
theorem Qj0 a b c:Qe7 a b c=
 (Sy.at' a b).bind fun d=>bif (decide (c<(d.2.length:Int))) then (Sy.at' d.2 c).bind fun e=>bif (decide ((6:Int)<(e.2.length:Int))) then some (.inl ()) else Qe7 a b (Ev.wr .i64 (c+1)) else some (.inr ()):=me 51
theorem QlM a:QiN a=
 (Qcs a a.length 0).bind fun
  |.inl _=> some (-1:Int)
  |.inr b=> some b:=me 52
theorem QrT a:Qms a=
 (QfQ a 0).bind fun
  |.inl _=> some true
  |.inr _=> some false:=me 53
theorem Qgk a b c d e f h i:Qcv a b c d e f h i=
 bif decide (i<e.2.1) then bif (decide (((c.length+(1:Nat)) * (8:Nat))≤(35184372088832:Nat))) then Qcv a b (c++(i::([]:List (Int)))) d e f h (Ev.wr .i64 (i+1)) else none else some c:=me 54
theorem Qip a:Qc3 a=
 (Qg7 a).bind fun b=>some (!(decide (b<(0:Int)))):=me 55
theorem Qee a b c d e f h i j k l m n o p q:Qbl a b c d e f h i j k l m n o p q=
 bif decide (q<p) then (Sy.at' o q).bind fun r=>bif decide (r.1=n.1) then some (.inl ()) else Qbl a b c d e f h i j k l m n o p (Ev.wr .i64 (q+1)) else some (.inr ()):=me 56
theorem QiT a b c d e f h:QfP a b c d e f h=
 bif decide (h<f) then (Sy.at' e h).bind fun i=>(Qc4 a i.2).bind fun j=>bif j then some (.inr ()) else QfP a b c d e f (Ev.wr .i64 (h+1)) else some (.inl ()):=me 58
theorem QiU a b c d:Qd9 a b c d=
 bif (decide (d<(c.length:Int))) then (Sy.at' c d).bind fun e=>(QpA a e.1).bind fun f=>bif f then some (.inr ()) else bif (decide (((a.length+(1:Nat)) * (16:Nat))≤(35184372088832:Nat))) then (Qeb (a++(e.1::([]:List (List UInt8)))) b c d 0).bind fun
   |.inl _=> some (.inr ())
   |.inr h=> Qd9 (a++(e.1::([]:List (List UInt8)))) h c (Ev.wr .i64 (d+1)) else none else some (.inl ()):=me 59
theorem QiV a b c d e f h i:Qea a b c d e f h i=
 bif decide (i<h) then (Sy.at' f i).bind fun j=>bif (Sy.findD .str .bool b j.1 false) then some (.inl ()) else Qea a (Sy.putD .str .bool b j.1 true) c d e f h (Ev.wr .i64 (i+1)) else some (.inr b):=me 61
theorem Qq3 a:QhJ a=
 (QbX a 0).bind fun
  |.inl _=> some false
  |.inr _=> (bif (decide ((a.length:Int)<(1:Int))) then some false else some (!(decide ((32:Int)<(a.length:Int))))).bind fun b=>some b:=me 62
theorem Qt1 a:Qn9 a=
 (Qe8 a 0).bind fun
  |.inl _=> (QiO a 97 122).bind fun b=>some b
  |.inr b=> some b:=me 64
theorem Qj1 a c d:QcG a c d=
 bif decide (d<c) then (Sy.at' (List.map (fun (b:UInt8)=>(b.toNat:Int)) a) d).bind fun e=>(bif (decide (e<(97:Int))) then some false else some (!(decide ((122:Int)<e)))).bind fun f=>(bif f then some (.inl ()) else bif (decide (e<(65:Int))) then some (.inr false) else some (.inr (!(decide ((90:Int)<e)))):Option ((Unit)⊕((Bool)))).bind fun
   |.inl _=> QcG a c (Ev.wr .i64 (d+1))
   |.inr h=> (bif h then some (.inl ()) else bif (decide (e<(48:Int))) then some (.inr false) else some (.inr (!(decide ((57:Int)<e)))):Option ((Unit)⊕((Bool)))).bind fun
    |.inl _=> QcG a c (Ev.wr .i64 (d+1))
    |.inr i=> (bif i then some true else some (decide (e=95))).bind fun j=>bif j then QcG a c (Ev.wr .i64 (d+1)) else some (.inl ()) else some (.inr ()):=me 65
theorem Qq4 a c d:QhK a c d=
 (bif (decide ((a.length:Int)=(0:Int))) then some true else some (decide ((32:Int)<(a.length:Int)))).bind fun e=>(bif e then some true else (Sy.at' (List.map (fun (b:UInt8)=>(b.toNat:Int)) a) 0).bind fun f=>some (decide (f<c))).bind fun f=>(bif f then some true else (Sy.at' (List.map (fun (b:UInt8)=>(b.toNat:Int)) a) 0).bind fun h=>some (decide (d<h))).bind fun h=>bif h then some false else (QoW a ([97,98,99,100,101,102,103,104,105,106,107,108,109,110,111,112,113,114,115,116,117,118,119,120,121,122,65,66,67,68,69,70,71,72,73,74,75,76,77,78,79,80,81,82,83,84,85,86,87,88,89,90,48,49,50,51,52,53,54,55,56,57,95]:List UInt8)).bind fun i=>some (decide (i=([]:List UInt8))):=me 66
theorem Qfi a b c:Qcs a b c=
 bif decide (c<b) then (Sy.at' a c).bind fun d=>(QoX d).bind fun e=>bif e then some (.inr c) else Qcs a b (Ev.wr .i64 (c+1)) else some (.inl ()):=me 68
theorem Qq5 a:Qk3 a=
 bif (decide ((Ev.wr .i64 ((a.length:Int)+1))<(0:Int))) then none else bif (decide (((Ev.wr .i64 ((a.length:Int)+1)).toNat * (1:Nat))≤(140737488355328:Nat))) then (Sy.at' (List.replicate (Ev.wr .i64 ((a.length:Int)+1)).toNat false) 0).bind fun b=>(Qe9 (List.set (List.replicate (Ev.wr .i64 ((a.length:Int)+1)).toNat false) (0:Nat) true) a (true)).bind fun c=>(QcS c (false)).bind fun d=>some (!d) else none:=me 69
theorem Qq6 a:Qk4 a=
 bif (decide ((Ev.wr .i64 ((a.length:Int)+1))<(0:Int))) then none else bif (decide (((Ev.wr .i64 ((a.length:Int)+1)).toNat * (1:Nat))≤(140737488355328:Nat))) then (Sy.at' (List.replicate (Ev.wr .i64 ((a.length:Int)+1)).toNat false) 0).bind fun b=>(Qdr (List.set (List.replicate (Ev.wr .i64 ((a.length:Int)+1)).toNat false) (0:Nat) true) a 0).bind fun c=>(Qdu c 0).bind fun
      |.inl _=> some false
      |.inr _=> some true else none:=me 70
theorem QhQ a b c:Qdo a b c=
 (Sy.at' a b).bind fun d=>bif (decide (c<(d.2.length:Int))) then (Sy.at' d.2 c).bind fun e=>(QhJ e.1).bind fun f=>bif f then Qdo a b (Ev.wr .i64 (c+1)) else some (.inl ()) else some (.inr ()):=me 71
theorem QhR a b c d:Qdp a b c d=
 bif decide (d<c) then (Sy.at' a.2 d).bind fun e=>bif decide (e.1=b.1) then some (.inl ()) else Qdp a b c (Ev.wr .i64 (d+1)) else some (.inr ()):=me 72
theorem QiW a b:QfQ a b=
 bif (decide (b<(a.length:Int))) then (QfR a b 0).bind fun
   |.inl _=> QfQ a (Ev.wr .i64 (b+1))
   |.inr _=> some (.inr ()) else some (.inl ()):=me 73
theorem Qkj a:Qg7 a=
 (Qb7 a a.length 0).bind fun
  |.inl _=> some (-1:Int)
  |.inr b=> some b:=me 74
theorem Qiq a b:Qc4 a b=
 (Qg8 a b).bind fun c=>some (!(decide (c<(0:Int)))):=me 76
theorem Qw8 a b:QpA a b=
 (QjB a b 0).bind fun
  |.inl _=> some true
  |.inr _=> some false:=me 77
theorem QhS a c:QbX a c=
 bif (decide (c<(a.length:Int))) then (Sy.at' (List.map (fun (b:UInt8)=>(b.toNat:Int)) a) c).bind fun d=>(bif (decide (d<(65:Int))) then some false else some (!(decide ((90:Int)<d)))).bind fun e=>(bif e then some (.inl ()) else bif decide (c=0) then some (.inr (.inl ())) else bif (decide (d<(97:Int))) then some (.inr (.inr false)) else some (.inr (.inr (!(decide ((122:Int)<d))))):Option ((Unit)⊕(Unit)⊕((Bool)))).bind fun
   |.inl _=> QbX a (Ev.wr .i64 (c+1))
   | (.inr (.inl _))=>some (.inl ())
   | (.inr (.inr f))=>(bif f then some (.inl ()) else bif (decide (d<(48:Int))) then some (.inr false) else some (.inr (!(decide ((57:Int)<d)))):Option ((Unit)⊕((Bool)))).bind fun
    |.inl _=> QbX a (Ev.wr .i64 (c+1))
    |.inr h=> (bif h then some true else some (decide (d=95))).bind fun i=>bif i then QbX a (Ev.wr .i64 (c+1)) else some (.inl ()) else some (.inr ()):=me 78
theorem Qj2 a c:Qe8 a c=
 bif (decide (c<(a.length:Int))) then (Sy.at' (List.map (fun (b:UInt8)=>(b.toNat:Int)) a) c).bind fun d=>bif decide (d=46) then (bif (decide (c<(0:Int))) then none else bif (decide ((a.length:Int)<c)) then none else (QiO (List.take (c.toNat - (0:Nat)) (List.drop (0:Nat) a)) 97 122).bind fun e=>bif e then bif (decide ((Ev.wr .i64 (c+1))<(0:Int))) then none else bif (decide ((a.length:Int)<(Ev.wr .i64 (c+1)))) then none else (QiO (List.take (a.length - (Ev.wr .i64 (c+1)).toNat) (List.drop (Ev.wr .i64 (c+1)).toNat a)) 97 122).bind fun f=>some f else some false).bind fun e=>some (.inr e) else Qe8 a (Ev.wr .i64 (c+1)) else some (.inl ()):=me 79
theorem Qq7 a:QoX a=
 some (decide ((6:Int)<(a.2.length:Int))):=me 81
theorem Qnm a b c d e f h i:Qdq a b c d e f h i=
 (Sy.at' h.2.2.2.2.1 i).bind fun j=>(Qgg a b c i e f h j).bind fun ⟨k,l⟩=>bif decide (l=0) then (QdK j).bind fun m=>(Qcm c a k i l f h j m 0).bind fun
   |.inl n=> some (n,k,i,(3:Int))
   |.inr n=> (Qcn c n k i l f h j m 0).bind fun
    | (.inl ⟨o,p,q,r⟩)=>some (o,p,q,r)
    | (.inr ⟨o,p,q,r⟩)=>some (o,p,q,r) else some (a,k,i,l):=me 82
theorem Qfw a b c d e f h i j k l m n:Qew a b c d e f h i j k l m n=
 (bif (decide (n<(0:Int))) then some false else some (!(decide ((d.length:Int)<n)))).bind fun o=>some o:=me 83
theorem QiX a b c d e:Qeb a b c d e=
 (Sy.at' c d).bind fun f=>bif (decide (e<(f.2.length:Int))) then (Sy.at' f.2 e).bind fun h=>(QpA b h.1).bind fun i=>bif i then some (.inl ()) else bif (decide (((b.length+(1:Nat)) * (16:Nat))≤(35184372088832:Nat))) then Qeb a (b++(h.1::([]:List (List UInt8)))) c d (Ev.wr .i64 (e+1)) else none else some (.inr b):=me 86
theorem QhT a b c:Qe9 a b c=
 bif c then (Qcw a b (false) b.length 0).bind fun ⟨d,e⟩=>Qe9 d b e else some a:=me 87
theorem QhU a b c:Qdr a b c=
 bif (decide ((b.length:Int)<c)) then some a else (Qdt a b c 0).bind fun d=>Qdr d b (Ev.wr .i64 (c+1)):=me 88
theorem QiY a b c:QfR a b c=
 (Sy.at' a b).bind fun d=>bif (decide (c<(d.2.length:Int))) then (Sy.at' d.2 c).bind fun e=>(QfS a b c e.2 0).bind fun
   |.inl _=> QfR a b (Ev.wr .i64 (c+1))
   |.inr _=> some (.inr ()) else some (.inl ()):=me 89
theorem Qef a b c:Qb7 a b c=
 bif decide (c<b) then (Sy.at' a c).bind fun d=>(QlX d).bind fun e=>bif e then some (.inr c) else Qb7 a b (Ev.wr .i64 (c+1)) else some (.inl ()):=me 90
theorem Qkk a b:Qg8 a b=
 (Qb8 a b b.length 0).bind fun
  |.inl _=> some (-1:Int)
  |.inr c=> some c:=me 92
theorem QlZ a b c:QjB a b c=
 bif (decide (c<(a.length:Int))) then (Sy.at' a c).bind fun d=>bif decide (d=b) then some (.inl ()) else QjB a b (Ev.wr .i64 (c+1)) else some (.inr ()):=me 93
theorem Qt2 a c d:QiO a c d=
 (bif (decide ((a.length:Int)<(1:Int))) then some true else some (decide ((32:Int)<(a.length:Int)))).bind fun e=>(bif e then some true else (Sy.at' (List.map (fun (b:UInt8)=>(b.toNat:Int)) a) 0).bind fun f=>some (decide (f<c))).bind fun f=>(bif f then some true else (Sy.at' (List.map (fun (b:UInt8)=>(b.toNat:Int)) a) 0).bind fun h=>some (decide (d<h))).bind fun h=>bif h then some false else (Qfa a 0).bind fun
   |.inl _=> some true
   |.inr _=> some false:=me 94
theorem Qhg a b c d e f h i j k l m n o p:QcR a b c d e f h i j k l m n o p=
 bif decide (p<o) then (Sy.at' b p).bind fun q=>(Sy.at' c p).bind fun r=>QcR a (List.set b p.toNat true) (List.set c p.toNat true) d e f h i j k l m n o (Ev.wr .i64 (p+1)) else some (b,c):=me 96
theorem Qq8 a b:Qds a b=
 (bif (decide (b<(0:Int))) then some false else some (!(decide ((a.1.length:Int)<b)))).bind fun c=>some c:=me 97
theorem Qmw a b c d e f h i:Qgg a b c d e f h i=
 (Qoa i).bind fun j=>bif j then (Qob i).bind fun k=>(QbY c a b d e f h i k 0).bind fun
   |.inl _=> (Qex i).bind fun l=>(QbZ c a b d e f h i l 0).bind fun
    |.inl _=> some (b,(2:Int))
    |.inr _=> (bif (decide (i.1=(6:Int))) then some true else some (decide (i.1=(7:Int)))).bind fun m=>(bif m then some true else some (decide (i.1=(8:Int)))).bind fun n=>(bif n then bif (decide (i.2.2.2.2.2.1<(0:Int))) then some (.inl true) else some (.inl (!(decide (i.2.2.2.2.2.1<(f.2.length:Int))))) else some (.inr ()):Option (((Bool))⊕(Unit))).bind fun
     |.inl o=> (bif o then some (.inl ()) else bif (decide (i.1=(2:Int))) then bif (decide (i.2.2.2.2.1<(0:Int))) then some (.inr (.inl true)) else some (.inr (.inl (decide ((7:Int)<i.2.2.2.2.1)))) else some (.inr (.inr ())):Option ((Unit)⊕((Bool))⊕(Unit))).bind fun
      |.inl _=> some (b,(2:Int))
      | (.inr (.inl p))=>bif p then some (b,(2:Int)) else (QaR c a b d e f h i l 0).bind fun
        |.inl q=> some (q,(8:Int))
        |.inr q=> (Qey f h i).bind fun r=>bif r then (Qez f h i).bind fun s=>bif s then some (q,(0:Int)) else some (q,(11:Int)) else some (q,(10:Int))
      | (.inr (.inr _))=>(QaR c a b d e f h i l 0).bind fun
       |.inl p=> some (p,(8:Int))
       |.inr p=> (Qey f h i).bind fun q=>bif q then (Qez f h i).bind fun r=>bif r then some (p,(0:Int)) else some (p,(11:Int)) else some (p,(10:Int))
     |.inr _=> (bif (decide (i.1=(2:Int))) then bif (decide (i.2.2.2.2.1<(0:Int))) then some (.inl true) else some (.inl (decide ((7:Int)<i.2.2.2.2.1))) else some (.inr ()):Option (((Bool))⊕(Unit))).bind fun
      |.inl o=> bif o then some (b,(2:Int)) else (QaR c a b d e f h i l 0).bind fun
        |.inl p=> some (p,(8:Int))
        |.inr p=> (Qey f h i).bind fun q=>bif q then (Qez f h i).bind fun r=>bif r then some (p,(0:Int)) else some (p,(11:Int)) else some (p,(10:Int))
      |.inr _=> (QaR c a b d e f h i l 0).bind fun
       |.inl o=> some (o,(8:Int))
       |.inr o=> (Qey f h i).bind fun p=>bif p then (Qez f h i).bind fun q=>bif q then some (o,(0:Int)) else some (o,(11:Int)) else some (o,(10:Int))
   |.inr _=> some (b,(9:Int)) else some (b,(3:Int)):=me 99
theorem QhV a b c d e:Qcw a b c d e=
 bif decide (e<d) then (Sy.at' b e).bind fun f=>(Qc6 a f.2).bind fun h=>(bif h then (Sy.at' a (Ev.wr .i64 (e+1))).bind fun i=>some (!i) else some false).bind fun i=>bif i then (Sy.at' a (Ev.wr .i64 (e+1))).bind fun j=>Qcw (List.set a (Ev.wr .i64 (e+1)).toNat true) b (true) d (Ev.wr .i64 (e+1)) else Qcw a b c d (Ev.wr .i64 (e+1)) else some (a,c):=me 101
theorem QhW a b c d:Qdt a b c d=
 bif (decide (d<(b.length:Int))) then (Qdv a b c d 0).bind fun e=>Qdt e b c (Ev.wr .i64 (d+1)) else some a:=me 102
theorem QiZ a b c d e:QfS a b c d e=
 bif (decide (e<(d.length:Int))) then (Sy.at' d e).bind fun f=>(QhL a f).bind fun h=>bif h then QfS a b c d (Ev.wr .i64 (e+1)) else some (.inr ()) else some (.inl ()):=me 103
theorem Qoj a:QlX a=
 (QlG a.1).bind fun b=>some (!b):=me 104
theorem Qeg a b c d:Qb8 a b c d=
 bif decide (d<c) then (Sy.at' b d).bind fun e=>(Qnk a e).bind fun f=>bif f then some (.inr d) else Qb8 a b c (Ev.wr .i64 (d+1)) else some (.inl ()):=me 106
theorem Qj3 a c:Qfa a c=
 bif (decide (c<(a.length:Int))) then (Sy.at' (List.map (fun (b:UInt8)=>(b.toNat:Int)) a) c).bind fun d=>(Qk5 d).bind fun e=>bif e then Qfa a (Ev.wr .i64 (c+1)) else some (.inr ()) else some (.inl ()):=me 107
theorem Qir a b c d e f h i j k l m n:Qc5 a b c d e f h i j k l m n=
 (Qg9 a b c d e f h i j k l m n).bind fun o=>some (!(decide (o<(0:Int)))):=me 108
theorem QhX a b c:Qbw a b c=
 bif (decide (c<(b.2.2.2.1.length:Int))) then (Sy.at' b.2.2.2.1 c).bind fun d=>(Qds a d.1).bind fun e=>bif e then Qbw a b (Ev.wr .i64 (c+1)) else some (.inl ()) else some (.inr ()):=me 110
theorem Qhh a b:QcS a b=
 (QgA a b).bind fun c=>some (!(decide (c<(0:Int)))):=me 111
theorem QhY a b:Qdu a b=
 bif (decide (b<(a.length:Int))) then (Sy.at' a b).bind fun c=>bif c then Qdu a (Ev.wr .i64 (b+1)) else some (.inl ()) else some (.inr ()):=me 112
theorem Qt3 a:Qoa a=
 (bif (decide (a.1<(0:Int))) then some true else some (decide ((9:Int)<a.1))).bind fun b=>bif b then some false else (Sy.at' ((1:Int)::((0:Int)::((2:Int)::((-1:Int)::((1:Int)::((1:Int)::((-1:Int)::((-1:Int)::((-1:Int)::((1:Int)::([]:List (Int)))))))))))) a.1).bind fun c=>bif (decide (c<(0:Int))) then (bif (decide (a.1=(1:Int))) then some true else some (decide (a.1=(2:Int)))).bind fun d=>(bif d then some true else some (decide (a.1=(3:Int)))).bind fun e=>(bif e then some true else some (decide (a.1=(4:Int)))).bind fun f=>(bif f then some true else some (decide (a.1=(6:Int)))).bind fun h=>(bif (decide (a.1=(6:Int))) then some true else some (decide (a.1=(7:Int)))).bind fun i=>(bif i then some true else some (decide (a.1=(8:Int)))).bind fun j=>(bif (decide (a.2.1=(0:Int))) then some false else some (!h)).bind fun k=>(bif k then some (.inl ()) else bif (decide (a.2.2.2.1=(0:Int))) then some (.inr false) else some (.inr (!(decide (a.1=(3:Int))))):Option ((Unit)⊕((Bool)))).bind fun
      |.inl _=> some false
      |.inr l=> (bif l then some (!(decide (a.1=(8:Int)))) else some false).bind fun m=>(bif m then some (.inl ()) else bif (decide (a.2.2.2.2.1=(0:Int))) then some (.inr false) else some (.inr (!(decide (a.1=(1:Int))))):Option ((Unit)⊕((Bool)))).bind fun
       |.inl _=> some false
       |.inr n=> (bif n then some (!(decide (a.1=(2:Int)))) else some false).bind fun o=>(bif o then some (!(decide (a.1=(8:Int)))) else some false).bind fun p=>bif p then some false else (bif (decide (a.2.2.2.2.2.1=(0:Int))) then some false else some (!j)).bind fun q=>(bif q then some (.inl ()) else bif (decide ((0:Int)<(a.2.2.2.2.2.2.1.length:Int))) then some (.inr (!(decide (a.1=(8:Int))))) else some (.inr false):Option ((Unit)⊕((Bool)))).bind fun
         |.inl _=> some false
         |.inr r=> (bif r then some (.inl ()) else bif a.2.2.2.2.2.2.2.1 then some (.inr (!(decide (a.1=(9:Int))))) else some (.inr false):Option ((Unit)⊕((Bool)))).bind fun
          |.inl _=> some false
          |.inr s=> (bif s then some (.inl ()) else bif (decide ((0:Int)<(a.2.2.2.2.2.2.2.2.1.length:Int))) then some (.inr (!(decide (a.1=(9:Int))))) else some (.inr false):Option ((Unit)⊕((Bool)))).bind fun
           |.inl _=> some false
           |.inr t=> bif t then some false else (bif (decide (a.2.2.2.2.2.2.2.2.2=(0:Int))) then some true else some h).bind fun u=>(bif u then some true else some (decide (a.1=(5:Int)))).bind fun v=>some v else bif (decide ((a.2.2.1.length:Int)=c)) then (bif (decide (a.1=(1:Int))) then some true else some (decide (a.1=(2:Int)))).bind fun d=>(bif d then some true else some (decide (a.1=(3:Int)))).bind fun e=>(bif e then some true else some (decide (a.1=(4:Int)))).bind fun f=>(bif f then some true else some (decide (a.1=(6:Int)))).bind fun h=>(bif (decide (a.1=(6:Int))) then some true else some (decide (a.1=(7:Int)))).bind fun i=>(bif i then some true else some (decide (a.1=(8:Int)))).bind fun j=>(bif (decide (a.2.1=(0:Int))) then some false else some (!h)).bind fun k=>(bif k then some (.inl ()) else bif (decide (a.2.2.2.1=(0:Int))) then some (.inr false) else some (.inr (!(decide (a.1=(3:Int))))):Option ((Unit)⊕((Bool)))).bind fun
       |.inl _=> some false
       |.inr l=> (bif l then some (!(decide (a.1=(8:Int)))) else some false).bind fun m=>(bif m then some (.inl ()) else bif (decide (a.2.2.2.2.1=(0:Int))) then some (.inr false) else some (.inr (!(decide (a.1=(1:Int))))):Option ((Unit)⊕((Bool)))).bind fun
        |.inl _=> some false
        |.inr n=> (bif n then some (!(decide (a.1=(2:Int)))) else some false).bind fun o=>(bif o then some (!(decide (a.1=(8:Int)))) else some false).bind fun p=>bif p then some false else (bif (decide (a.2.2.2.2.2.1=(0:Int))) then some false else some (!j)).bind fun q=>(bif q then some (.inl ()) else bif (decide ((0:Int)<(a.2.2.2.2.2.2.1.length:Int))) then some (.inr (!(decide (a.1=(8:Int))))) else some (.inr false):Option ((Unit)⊕((Bool)))).bind fun
          |.inl _=> some false
          |.inr r=> (bif r then some (.inl ()) else bif a.2.2.2.2.2.2.2.1 then some (.inr (!(decide (a.1=(9:Int))))) else some (.inr false):Option ((Unit)⊕((Bool)))).bind fun
           |.inl _=> some false
           |.inr s=> (bif s then some (.inl ()) else bif (decide ((0:Int)<(a.2.2.2.2.2.2.2.2.1.length:Int))) then some (.inr (!(decide (a.1=(9:Int))))) else some (.inr false):Option ((Unit)⊕((Bool)))).bind fun
            |.inl _=> some false
            |.inr t=> bif t then some false else (bif (decide (a.2.2.2.2.2.2.2.2.2=(0:Int))) then some true else some h).bind fun u=>(bif u then some true else some (decide (a.1=(5:Int)))).bind fun v=>some v else some false:=me 115
theorem Qis a b:Qc6 a b=
 (Qha a b).bind fun c=>some (!(decide (c<(0:Int)))):=me 117
theorem QhZ a b c d e:Qdv a b c d e=
 (Sy.at' b d).bind fun f=>bif (decide (e<(f.2.length:Int))) then (Sy.at' f.2 e).bind fun h=>(Qdw a b c d e (true) h.2 0).bind fun i=>((Sy.at' a (Ev.wr .i64 (d+1))).bind fun j=>bif j then some true else some i).bind fun j=>(Sy.at' a (Ev.wr .i64 (d+1))).bind fun k=>Qdv (List.set a (Ev.wr .i64 (d+1)).toNat j) b c d (Ev.wr .i64 (e+1)) else some a:=me 118
theorem Qq9 a b:QhL a b=
 (bif (decide (b<(0:Int))) then some false else some (!(decide ((a.length:Int)<b)))).bind fun c=>some c:=me 119
theorem Qpd a b:Qnk a b=
 (QhM a b).bind fun c=>some (!c):=me 121
theorem Qra a:Qk5 a=
 (bif (decide (a<(97:Int))) then some false else some (!(decide ((122:Int)<a)))).bind fun b=>(bif b then some (.inl ()) else bif (decide (a<(65:Int))) then some (.inr false) else some (.inr (!(decide ((90:Int)<a)))):Option ((Unit)⊕((Bool)))).bind fun
  |.inl _=> some true
  |.inr c=> (bif c then some (.inl ()) else bif (decide (a<(48:Int))) then some (.inr false) else some (.inr (!(decide ((57:Int)<a)))):Option ((Unit)⊕((Bool)))).bind fun
   |.inl _=> some true
   |.inr d=> (bif d then some true else some (decide (a=95))).bind fun e=>some e:=me 122
theorem QlN a b c d e f h i j k l m n:Qcx a b c d e f h i j k l m n=
 (Sy.at' k n).bind fun o=>(Qfb a b c d e f h i j k l m o).bind fun ⟨p,q⟩=>bif decide (q=0) then (Qf4 o).bind fun r=>(QaN a p c d e f h i j k l m o n r r r.length 0).bind fun
   |.inl s=> some (s,p,c,n,(3:Int))
   |.inr s=> (QbI s p c d e f h i j k l m o r r.length 0).bind fun
    | (.inl ⟨t,u,v⟩)=>some (t,u,v,(0:Int),(0:Int))
    | (.inr ⟨t,u,v,w,x⟩)=>some (t,u,v,w,x) else some (a,p,c,n,q):=me 123
theorem Qt4 a:Qob a=
 (bif (decide (a.1<(0:Int))) then some true else some (decide ((9:Int)<a.1))).bind fun b=>(bif b then some true else some (decide (a.1=(1:Int)))).bind fun c=>bif c then some ([]:List (Int)) else (QdJ ([]:List (Int)) a 0).bind fun d=>(bif (decide (a.1=(8:Int))) then (QdL d a 0).bind fun e=>some e else some d:Option (((List (Int))))).bind fun e=>some e:=me 126
theorem Qkl a b c d e f h i j k l m n:Qg9 a b c d e f h i j k l m n=
 (Qb9 a b c d e f h i j k l m n n.length 0).bind fun
  |.inl _=> some (-1:Int)
  |.inr o=> some o:=me 128
theorem Qj4 a b:QgA a b=
 (QcT a b a.length 0).bind fun
  |.inl c=> some c
  |.inr _=> some (-1:Int):=me 130
theorem Qkm a b:Qha a b=
 (Qca a b b.length 0).bind fun
  |.inl _=> some (-1:Int)
  |.inr c=> some c:=me 133
theorem Qh0 a b c d e f h i:Qdw a b c d e f h i=
 bif (decide (i<(h.length:Int))) then (bif f then (Sy.at' h i).bind fun j=>(Sy.at' a j).bind fun k=>some (true,k) else some (false,false):Option (((Bool)×(Bool)))).bind fun ⟨j,k⟩=>Qdw a b c d e k h (Ev.wr .i64 (i+1)) else some f:=me 134
theorem Qrb a b:QhM a b=
 (bif (decide (b<(0:Int))) then some false else some (!(decide ((a.length:Int)<b)))).bind fun c=>some c:=me 135
theorem Qh1 a b c:Qbb a b c=
 bif (decide (c<(b.2.2.2.1.length:Int))) then (Sy.at' b.2.2.2.1 c).bind fun d=>bif d.2 then (QfM a.1 d.1).bind fun e=>bif e then some (.inr ()) else Qbb a b (Ev.wr .i64 (c+1)) else Qbb a b (Ev.wr .i64 (c+1)) else some (.inl ()):=me 136
theorem Qfx a b c d e f h i j k:QbY a b c d e f h i j k=
 bif (decide (k<(j.length:Int))) then (Sy.at' j k).bind fun l=>(QtW a l).bind fun m=>bif m then QbY a b c d e f h i j (Ev.wr .i64 (k+1)) else some (.inr ()) else some (.inl ()):=me 138
theorem Qk7 a b c d e f h i j k l m n:Qfb a b c d e f h i j k l m n=
 (QqX n).bind fun o=>bif o then (QqY n).bind fun p=>(Qbx a b c d e f h i j k l m n p p.length 0).bind fun
   |.inl _=> some (b,(9:Int))
   |.inr _=> (QeI n).bind fun q=>(Qby a b c d e f h i j k l m n q q q.length 0).bind fun
    |.inl _=> some (b,(2:Int))
    |.inr _=> (Qod).bind fun _=>(Sy.at' (((1:Int),(false,(false,(false,(false,(false,(false,(false,false))))))))::(((0:Int),(true,(false,(true,(false,(false,(false,(true,false))))))))::(((2:Int),(true,(false,(true,(false,(false,(false,(true,false))))))))::(((-1:Int),(true,(true,(false,(false,(false,(false,(true,false))))))))::(((1:Int),(true,(false,(false,(false,(false,(false,(true,false))))))))::(((1:Int),(false,(false,(false,(false,(false,(false,(true,false))))))))::(((-1:Int),(true,(false,(false,(true,(false,(false,(true,false))))))))::(((-1:Int),(false,(false,(false,(true,(false,(false,(false,false))))))))::(((-1:Int),(false,(true,(true,(true,(true,(false,(false,false))))))))::(((1:Int),(false,(false,(false,(false,(false,(true,(false,true))))))))::([]:List (QBS)))))))))))) n.1).bind fun r=>bif r.2.2.2.2.1 then bif (decide (n.2.2.2.2.2.1<(0:Int))) then some (b,(2:Int)) else bif (decide (n.2.2.2.2.2.1<(e.length:Int))) then bif (decide (n.1=(2:Int))) then bif (decide (n.2.2.2.2.1<(0:Int))) then some (b,(2:Int)) else bif (decide (n.2.2.2.2.1<(8:Int))) then (QaD a b c d e f h i j k l m n q q q.length 0).bind fun
               |.inl s=> some (s,(8:Int))
               |.inr s=> (QaW a s c d e f h i j k l m n).bind fun t=>bif t then (Qaq a s c d e f h i j k l m n q q.length 0).bind fun
                 |.inl _=> some (s,(11:Int))
                 |.inr _=> some (s,(0:Int)) else some (s,(10:Int)) else some (b,(2:Int)) else (QaD a b c d e f h i j k l m n q q q.length 0).bind fun
              |.inl s=> some (s,(8:Int))
              |.inr s=> (QaW a s c d e f h i j k l m n).bind fun t=>bif t then (Qaq a s c d e f h i j k l m n q q.length 0).bind fun
                |.inl _=> some (s,(11:Int))
                |.inr _=> some (s,(0:Int)) else some (s,(10:Int)) else some (b,(2:Int)) else bif (decide (n.1=(2:Int))) then bif (decide (n.2.2.2.2.1<(0:Int))) then some (b,(2:Int)) else bif (decide (n.2.2.2.2.1<(8:Int))) then (QaD a b c d e f h i j k l m n q q q.length 0).bind fun
              |.inl s=> some (s,(8:Int))
              |.inr s=> (QaW a s c d e f h i j k l m n).bind fun t=>bif t then (Qaq a s c d e f h i j k l m n q q.length 0).bind fun
                |.inl _=> some (s,(11:Int))
                |.inr _=> some (s,(0:Int)) else some (s,(10:Int)) else some (b,(2:Int)) else (QaD a b c d e f h i j k l m n q q q.length 0).bind fun
          |.inl s=> some (s,(8:Int))
          |.inr s=> (QaW a s c d e f h i j k l m n).bind fun t=>bif t then (Qaq a s c d e f h i j k l m n q q.length 0).bind fun
            |.inl _=> some (s,(11:Int))
            |.inr _=> some (s,(0:Int)) else some (s,(10:Int)) else some (b,(3:Int)):=me 140
theorem Qj5 a b c:QdJ a b c=
 bif (decide (c<(b.2.2.1.length:Int))) then (bif (decide (b.1=(8:Int))) then (Sy.at' b.2.2.1 c).bind fun d=>some (!(decide (d<(0:Int)))) else some true).bind fun d=>bif d then (Sy.at' b.2.2.1 c).bind fun e=>bif (decide (((a.length+(1:Nat)) * (8:Nat))≤(35184372088832:Nat))) then QdJ (a++(e::([]:List (Int)))) b (Ev.wr .i64 (c+1)) else none else QdJ a b (Ev.wr .i64 (c+1)) else some a:=me 142
theorem Qeh a b c d e f h i j k l m n o p:Qb9 a b c d e f h i j k l m n o p=
 bif decide (p<o) then (Sy.at' n p).bind fun q=>(Qf3 a b c d e f h i j k l m q).bind fun r=>bif r then some (.inr p) else Qb9 a b c d e f h i j k l m n o (Ev.wr .i64 (p+1)) else some (.inl ()):=me 143
theorem QcM a b c d:QcT a b c d=
 bif decide (d<c) then (Sy.at' a d).bind fun e=>bif (b==e) then some (.inl d) else QcT a b c (Ev.wr .i64 (d+1)) else some (.inr ()):=me 145
theorem Qei a b c d:Qca a b c d=
 bif decide (d<c) then (Sy.at' b d).bind fun e=>(QlY a e).bind fun f=>bif f then some (.inr d) else Qca a b c (Ev.wr .i64 (d+1)) else some (.inl ()):=me 146
theorem Qt5 a:QdK a=
 bif (decide (a.1=(1:Int))) then some (a.2.2.2.2.2.2.2.2.2::([]:List (Int))) else bif (decide (a.1=(2:Int))) then some (a.2.2.2.2.2.2.2.2.2::([]:List (Int))) else bif (decide (a.1=(3:Int))) then some (a.2.2.2.2.2.2.2.2.2::([]:List (Int))) else bif (decide (a.1=(4:Int))) then some (a.2.2.2.2.2.2.2.2.2::([]:List (Int))) else bif (decide (a.1=(5:Int))) then some (a.2.2.2.2.2.2.2.2.2::([]:List (Int))) else bif (decide (a.1=(6:Int))) then some (a.2.2.2.2.2.2.2.2.2::([]:List (Int))) else bif (decide (a.1=(9:Int))) then (Qfc ([]:List (Int)) a 0).bind fun b=>some b else some ([]:List (Int)):=me 149
theorem Qt6 a b:QfM a b=
 bif decide (b=0) then some true else (QhL a b).bind fun c=>bif c then (QgB a b 0).bind fun
   |.inl _=> some false
   |.inr _=> some true else some false:=me 150
theorem Qw9 a b:QtW a b=
 (QjC a b 0).bind fun
  |.inl _=> some true
  |.inr _=> some false:=me 152
theorem Qvy a:QqX a=
 (Qoc a.1).bind fun ⟨b,c⟩=>(bif c then bif (decide (b.1<(0:Int))) then some (.inl false) else some (.inl (!(decide ((a.2.2.1.length:Int)=b.1)))) else some (.inr ()):Option (((Bool))⊕(Unit))).bind fun
  |.inl d=> bif d then some false else (bif b.2.1 then some true else some (decide (a.2.1=(0:Int)))).bind fun e=>(bif e then bif b.2.2.1 then some (.inl true) else some (.inl (decide (a.2.2.2.1=(0:Int)))) else some (.inr ()):Option (((Bool))⊕(Unit))).bind fun
    |.inl f=> (bif f then bif b.2.2.2.1 then some (.inl true) else some (.inl (decide (a.2.2.2.2.1=(0:Int)))) else some (.inr ()):Option (((Bool))⊕(Unit))).bind fun
     |.inl h=> (bif h then bif b.2.2.2.2.1 then some (.inl true) else some (.inl (decide (a.2.2.2.2.2.1=(0:Int)))) else some (.inr ()):Option (((Bool))⊕(Unit))).bind fun
      |.inl i=> (bif i then bif b.2.2.2.2.2.1 then some (.inl true) else some (.inl (decide ((a.2.2.2.2.2.2.1.length:Int)=(0:Int)))) else some (.inr ()):Option (((Bool))⊕(Unit))).bind fun
       |.inl j=> (bif j then bif b.2.2.2.2.2.2.1 then some (.inl true) else some (.inl (!a.2.2.2.2.2.2.2.1)) else some (.inr ()):Option (((Bool))⊕(Unit))).bind fun
        |.inl k=> (bif k then bif b.2.2.2.2.2.2.2.1 then some (.inl true) else some (.inl (decide (a.2.2.2.2.2.2.2.2.2=(0:Int)))) else some (.inr ()):Option (((Bool))⊕(Unit))).bind fun
         |.inl l=> (bif l then bif b.2.2.2.2.2.2.2.2 then some (.inl true) else some (.inl (decide ((a.2.2.2.2.2.2.2.2.1.length:Int)=(0:Int)))) else some (.inr ()):Option (((Bool))⊕(Unit))).bind fun
          |.inl m=> some m
          |.inr _=> some false
         |.inr _=> some false
        |.inr _=> some false
       |.inr _=> some false
      |.inr _=> some false
     |.inr _=> some false
    |.inr _=> some false
  |.inr _=> some false:=me 153
theorem Qi0 a b c d e f h i j k l m n:Qf3 a b c d e f h i j k l m n=
 (Qew a b c d e f h i j k l m n.1).bind fun o=>some (!o):=me 155
theorem Qok a b:QlY a b=
 (Qc7 a b.2).bind fun c=>some (!c):=me 157
theorem QrU a:Qex a=
 bif (decide (a.1=(1:Int))) then some (a.2.1::([]:List (Int))) else bif (decide (a.1=(2:Int))) then some (a.2.1::([]:List (Int))) else bif (decide (a.1=(3:Int))) then some (a.2.1::([]:List (Int))) else bif (decide (a.1=(4:Int))) then some (a.2.1::([]:List (Int))) else bif (decide (a.1=(6:Int))) then some (a.2.1::([]:List (Int))) else bif (decide (a.1=(9:Int))) then (Qec ([]:List (Int)) a 0).bind fun b=>some b else some ([]:List (Int)):=me 158
theorem Qj6 a b c:QdL a b c=
 bif (decide (c<(b.2.2.2.2.2.2.1.length:Int))) then (Sy.at' b.2.2.2.2.2.2.1 c).bind fun d=>bif (decide (d<(0:Int))) then QdL a b (Ev.wr .i64 (c+1)) else bif (decide (((a.length+(1:Nat)) * (8:Nat))≤(35184372088832:Nat))) then QdL (a++(d::([]:List (Int)))) b (Ev.wr .i64 (c+1)) else none else some a:=me 161
theorem Qvz a:QqY a=
 (Qoc a.1).bind fun ⟨b,c⟩=>(bif c then some (decide (b.1=(0:Int))) else some true).bind fun d=>bif d then some ([]:List (Int)) else bif b.2.2.2.2.2.1 then bif (decide ((a.2.2.1.length * (8:Nat))≤(35184372088832:Nat))) then bif (decide (((a.2.2.1.length+a.2.2.2.2.2.2.1.length) * (8:Nat))≤(35184372088832:Nat))) then (QeJ ([]:List (Int)) (a.2.2.1++a.2.2.2.2.2.2.1) ((a.2.2.1++a.2.2.2.2.2.2.1).length:Int) 0).bind fun e=>some e else none else none else bif (decide ((a.2.2.1.length * (8:Nat))≤(35184372088832:Nat))) then some a.2.2.1 else none:=me 162
theorem Qt7 a:QeI a=
 (Qoc a.1).bind fun ⟨b,c⟩=>(bif b.2.1 then some (a.2.1::([]:List (Int))) else some ([]:List (Int)):Option (((List (Int))))).bind fun d=>(bif b.2.2.2.2.2.2.2.2 then (Qfd d a.2.2.2.2.2.2.2.2.1 a.2.2.2.2.2.2.2.2.1.length 0).bind fun e=>some e else some d:Option (((List (Int))))).bind fun e=>some e:=me 166
theorem Qj7 a b c:Qfc a b c=
 bif (decide (c<(b.2.2.2.2.2.2.2.2.1.length:Int))) then (Sy.at' b.2.2.2.2.2.2.2.2.1 c).bind fun d=>bif (decide (((a.length+(1:Nat)) * (8:Nat))≤(35184372088832:Nat))) then Qfc (a++(d.2::([]:List (Int)))) b (Ev.wr .i64 (c+1)) else none else some a:=me 167
theorem Qj8 a b c:QgB a b c=
 (Sy.at' a (Ev.wr .i64 (b - 1))).bind fun d=>bif (decide (c<(d.2.length:Int))) then (Sy.at' d.2 c).bind fun e=>bif (decide ((0:Int)<(e.2.length:Int))) then some (.inl ()) else QgB a b (Ev.wr .i64 (c+1)) else some (.inr ()):=me 168
theorem Ql0 a b c:QjC a b c=
 bif (decide (c<(a.length:Int))) then (Sy.at' a c).bind fun d=>bif decide (d=b) then some (.inl ()) else QjC a b (Ev.wr .i64 (c+1)) else some (.inr ()):=me 169
theorem Qzs a:Qoc a=
 (bif (decide (a<(0:Int))) then some true else some (!(decide (a<(10:Int))))).bind fun b=>bif b then some (((0:Int),(false,(false,(false,(false,(false,(false,(false,false)))))))),false) else (Qod).bind fun _=>(Sy.at' (((1:Int),(false,(false,(false,(false,(false,(false,(false,false))))))))::(((0:Int),(true,(false,(true,(false,(false,(false,(true,false))))))))::(((2:Int),(true,(false,(true,(false,(false,(false,(true,false))))))))::(((-1:Int),(true,(true,(false,(false,(false,(false,(true,false))))))))::(((1:Int),(true,(false,(false,(false,(false,(false,(true,false))))))))::(((1:Int),(false,(false,(false,(false,(false,(false,(true,false))))))))::(((-1:Int),(true,(false,(false,(true,(false,(false,(true,false))))))))::(((-1:Int),(false,(false,(false,(true,(false,(false,(false,false))))))))::(((-1:Int),(false,(true,(true,(true,(true,(false,(false,false))))))))::(((1:Int),(false,(false,(false,(false,(false,(true,(false,true))))))))::([]:List (QBS)))))))))))) a).bind fun c=>some (c,true):=me 170
theorem Qit a b:Qc7 a b=
 (Qhb a b).bind fun c=>some (!(decide (c<(0:Int)))):=me 172
theorem Qfy a b c d e f h i j k:QbZ a b c d e f h i j k=
 bif (decide (k<(j.length:Int))) then (Sy.at' j k).bind fun l=>bif (decide (l<(0:Int))) then some (.inl ()) else bif (decide (l<(h.2.2.2.1.length:Int))) then QbZ a b c d e f h i j (Ev.wr .i64 (k+1)) else some (.inl ()) else some (.inr ()):=me 173
theorem QeL a b c d e f h i j k l m n o p q:Qbx a b c d e f h i j k l m n o p q=
 bif decide (q<p) then (Sy.at' o q).bind fun r=>(bif (decide (r<(0:Int))) then some true else some (!(decide (r<(c.length:Int))))).bind fun s=>(bif s then some true else (Sy.at' c r).bind fun t=>some (!t)).bind fun t=>bif t then some (.inl ()) else Qbx a b c d e f h i j k l m n o p (Ev.wr .i64 (q+1)) else some (.inr ()):=me 175
theorem QvA a:Qf4 a=
 (Qoc a.1).bind fun ⟨b,c⟩=>(bif b.2.2.2.2.2.2.2.1 then some (a.2.2.2.2.2.2.2.2.2::([]:List (Int))) else some ([]:List (Int)):Option (((List (Int))))).bind fun d=>(bif b.2.2.2.2.2.2.2.2 then (Qf5 d a.2.2.2.2.2.2.2.2.1 a.2.2.2.2.2.2.2.2.1.length 0).bind fun e=>some e else some d:Option (((List (Int))))).bind fun e=>some e:=me 177
theorem Qi1 a b c:Qec a b c=
 bif (decide (c<(b.2.2.2.2.2.2.2.2.1.length:Int))) then (Sy.at' b.2.2.2.2.2.2.2.2.1 c).bind fun d=>bif (decide (((a.length+d.1.length) * (8:Nat))≤(35184372088832:Nat))) then Qec (a++d.1) b (Ev.wr .i64 (c+1)) else none else some a:=me 179
theorem Qk8 a b c d:QeJ a b c d=
 bif decide (d<c) then (Sy.at' b d).bind fun e=>bif (decide (e<(0:Int))) then QeJ a b c (Ev.wr .i64 (d+1)) else bif (decide (((a.length+(1:Nat)) * (8:Nat))≤(35184372088832:Nat))) then QeJ (a++(e::([]:List (Int)))) b c (Ev.wr .i64 (d+1)) else none else some a:=me 182
theorem Qj9 a b c d:Qfd a b c d=
 bif decide (d<c) then (Sy.at' b d).bind fun e=>bif (decide (((a.length+e.1.length) * (8:Nat))≤(35184372088832:Nat))) then Qfd (a++e.1) b c (Ev.wr .i64 (d+1)) else none else some a:=me 186
theorem Qnn:Qod=
 some ():=me 187
theorem Qkn a b:Qhb a b=
 (Qcb a b b.length 0).bind fun
  |.inl _=> some (-1:Int)
  |.inr c=> some c:=me 189
theorem Qiu a b c d e f h i j k l m n:Qc8 a b c d e f h i j k l m n=
 (Qhc a b c d e f h i j k l m n).bind fun o=>some (!(decide (o<(0:Int)))):=me 190
theorem Qgc a b c d e f h i j k:Qcm a b c d e f h i j k=
 bif (decide (k<(j.length:Int))) then (Sy.at' j k).bind fun l=>bif (decide (l<(0:Int))) then some (.inl b) else bif (decide (l<(h.2.2.2.2.1.length:Int))) then (Sy.at' b l).bind fun m=>bif m then some (.inl b) else Qcm a (List.set b l.toNat true) c d e f h i j (Ev.wr .i64 (k+1)) else some (.inl b) else some (.inr b):=me 191
theorem Qk9 a b c d:Qf5 a b c d=
 bif decide (d<c) then (Sy.at' b d).bind fun e=>bif (decide (((a.length+(1:Nat)) * (8:Nat))≤(35184372088832:Nat))) then Qf5 (a++(e.2::([]:List (Int)))) b c (Ev.wr .i64 (d+1)) else none else some a:=me 193
theorem Qej a b c d:Qcb a b c d=
 bif decide (d<c) then (Sy.at' b d).bind fun e=>(QjW a e).bind fun f=>bif f then some (.inr d) else Qcb a b c (Ev.wr .i64 (d+1)) else some (.inl ()):=me 197
theorem Qgl a b c d e f:QdM a b c d e f=
 bif (decide (f<(c.2.2.2.2.1.length:Int))) then (Sy.at' a f).bind fun h=>bif h then QdM a b c d e (Ev.wr .i64 (f+1)) else some (.inl f) else some (.inr ()):=me 198
theorem Qfz a b c d e f h i j k:QaR a b c d e f h i j k=
 bif (decide (k<(j.length:Int))) then (Sy.at' j k).bind fun l=>bif decide (l<h.2.1) then some (.inl c) else (Sy.at' c l).bind fun m=>bif m then some (.inl c) else QaR a b (List.set c l.toNat true) d e f h i j (Ev.wr .i64 (k+1)) else some (.inr c):=me 199
theorem QeM a b c d e f h i j k l m n o p q r:Qby a b c d e f h i j k l m n o p q r=
 bif decide (r<q) then (Sy.at' p r).bind fun s=>(bif (decide (s<(0:Int))) then some true else some (!(decide (s<(j.length:Int))))).bind fun t=>bif t then some (.inl ()) else Qby a b c d e f h i j k l m n o p q (Ev.wr .i64 (r+1)) else some (.inr ()):=me 201
theorem Qko a b c d e f h i j k l m n:Qhc a b c d e f h i j k l m n=
 (Qcc a b c d e f h i j k l m n n.length 0).bind fun
  |.inl _=> some (-1:Int)
  |.inr o=> some o:=me 203
theorem Qmx a b:QjW a b=
 (Sy.at' a b).bind fun c=>some (!c):=me 206
theorem QdD a b c d e f h i j k:Qcn a b c d e f h i j k=
 bif (decide (k<(j.length:Int))) then bif (decide ((a.length * (8:Nat))≤(35184372088832:Nat))) then (bif (decide (i.1=(9:Int))) then (Sy.at' i.2.2.2.2.2.2.2.2.1 k).bind fun l=>bif (decide (((a.length+l.1.length) * (8:Nat))≤(35184372088832:Nat))) then some (a++l.1) else none else (Qex i).bind fun l=>bif (decide (((a.length+l.length) * (8:Nat))≤(35184372088832:Nat))) then some (a++l) else none:Option (((List (Int))))).bind fun l=>(Sy.at' j k).bind fun m=>(Qdq b c l d e f h m).bind fun ⟨n,o,p,q⟩=>bif decide (q=0) then Qcn a n o p q f h i j (Ev.wr .i64 (k+1)) else some (.inl (n,o,p,q)) else none else some (.inr (b,c,d,e)):=me 207
theorem Qfj a b c d e f h i j k l m n o p q r s:QaN a b c d e f h i j k l m n o p q r s=
 bif decide (s<r) then (Sy.at' q s).bind fun t=>(bif (decide (t<(0:Int))) then some true else some (!(decide (t<(k.length:Int))))).bind fun u=>(bif u then some true else (Sy.at' a t).bind fun v=>some v).bind fun v=>bif v then some (.inl a) else (Sy.at' a t).bind fun w=>QaN (List.set a t.toNat true) b c d e f h i j k l m n o p q r (Ev.wr .i64 (s+1)) else some (.inr a):=me 208
theorem Qek a b c d e f h i j k l m n o p:Qcc a b c d e f h i j k l m n o p=
 bif decide (p<o) then (Sy.at' n p).bind fun q=>(Qf6 a b c d e f h i j k l m q).bind fun r=>bif r then some (.inr p) else Qcc a b c d e f h i j k l m n o (Ev.wr .i64 (p+1)) else some (.inl ()):=me 210
theorem Qgm a b c d e f:Qcy a b c d e f=
 bif (decide (f<(c.2.2.2.1.length:Int))) then (Sy.at' b f).bind fun h=>bif h then Qcy a b c d e (Ev.wr .i64 (f+1)) else some (.inl ()) else some (.inr ()):=me 211
theorem QrV a b c:Qey a b c=
 bif (decide (c.1=(0:Int))) then (Sy.at' c.2.2.1 0).bind fun d=>(Qbh b d).bind fun e=>some (decide (e=b.2.2.1)) else bif (decide (c.1=(1:Int))) then (Qbh b c.2.1).bind fun d=>some (decide (d=0)) else bif (decide (c.1=(2:Int))) then (bif (decide (c.2.2.2.2.1<(5:Int))) then some (0:Int) else some (1:Int)).bind fun d=>(Sy.at' c.2.2.1 0).bind fun e=>(Qbh b e).bind fun f=>bif decide (f=0) then (Sy.at' c.2.2.1 1).bind fun h=>(Qbh b h).bind fun i=>bif decide (i=0) then (Qbh b c.2.1).bind fun j=>some (decide (j=d)) else some false else some false else bif (decide (c.1=(3:Int))) then (Qbh b c.2.1).bind fun d=>(Qf8 a b d c.2.2.2.1 c.2.2.1 (-1:Int)).bind fun e=>some e else bif (decide (c.1=(4:Int))) then (Sy.at' c.2.2.1 0).bind fun d=>(Qbh b c.2.1).bind fun e=>(Qbh b d).bind fun f=>bif decide (e=f) then (QfM a.1 e).bind fun h=>some (!h) else some false else bif (decide (c.1=(5:Int))) then (Sy.at' c.2.2.1 0).bind fun d=>(Qbh b d).bind fun e=>(QfM a.1 e).bind fun f=>some (!f) else bif (decide (c.1=(6:Int))) then (Qf7 a b c.2.2.2.2.2.1 c.2.2.1).bind fun d=>bif d then (Sy.at' a.2 c.2.2.2.2.2.1).bind fun e=>(Qbh b c.2.1).bind fun f=>some (decide (f=e.2.2.1)) else some false else bif (decide (c.1=(7:Int))) then (Qf7 a b c.2.2.2.2.2.1 c.2.2.1).bind fun d=>bif d then (Sy.at' a.2 c.2.2.2.2.2.1).bind fun e=>some (decide (b.2.2.1=e.2.2.1)) else some false else bif (decide (c.1=(8:Int))) then (bif (decide (c.2.2.2.2.1<(0:Int))) then some true else some (!(decide (c.2.2.2.2.1<(c.2.2.1.length:Int))))).bind fun d=>(bif d then some true else (Qf8 a b b.2.2.1 c.2.2.2.1 c.2.2.1 c.2.2.2.2.1).bind fun e=>some (!e)).bind fun e=>bif e then some false else (Qf7 a b c.2.2.2.2.2.1 c.2.2.2.2.2.2.1).bind fun f=>bif f then (Sy.at' a.2 c.2.2.2.2.2.1).bind fun h=>(Sy.at' a.1 (Ev.wr .i64 (b.2.2.1 - 1))).bind fun i=>(Sy.at' i.2 c.2.2.2.1).bind fun j=>(Sy.at' j.2 c.2.2.2.2.1).bind fun k=>some (decide (h.2.2.1=k)) else some false else (Sy.at' c.2.2.1 0).bind fun d=>(Qbh b d).bind fun e=>bif (decide (e<(1:Int))) then some false else (Sy.at' a.1 (Ev.wr .i64 (e - 1))).bind fun f=>bif (decide ((c.2.2.2.2.2.2.2.2.1.length:Int)=(f.2.length:Int))) then bif c.2.2.2.2.2.2.2.1 then (QfM a.1 e).bind fun h=>bif h then some false else (QcX a b c e 0).bind fun
   |.inl _=> some false
   |.inr _=> some true else (QcX a b c e 0).bind fun
   |.inl _=> some false
   |.inr _=> some true else some false:=me 212
theorem QcB a b c d e f h i j k l m n o p q r:QaD a b c d e f h i j k l m n o p q r=
 bif decide (r<q) then (Sy.at' p r).bind fun s=>(Sy.at' b s).bind fun t=>bif t then some (.inl b) else QaD a (List.set b s.toNat true) c d e f h i j k l m n o p q (Ev.wr .i64 (r+1)) else some (.inr b):=me 214
theorem Qi2 a b c d e f h i j k l m n:Qf6 a b c d e f h i j k l m n=
 bif n.2 then (QgI d n.1).bind fun o=>some o else some false:=me 216
theorem QrW a b c:Qez a b c=
 (Qex c).bind fun d=>(QcY a b c d 0).bind fun
  |.inl _=> some false
  |.inr _=> some true:=me 217
theorem QcN a b c d e f h i j k l m n o p q:QbI a b c d e f h i j k l m n o p q=
 bif decide (q<p) then (Sy.at' o q).bind fun r=>(QeI n).bind fun s=>(bif (decide (n.1=(9:Int))) then (Sy.at' n.2.2.2.2.2.2.2.2.1 q).bind fun t=>some t.1 else some s:Option (((List (Int))))).bind fun t=>(QbJ a b c d e f h i j k l m n r t o p q t t.length 0).bind fun u=>(Qcx a b u d e f h i j k l m r).bind fun ⟨v,w,x,y,z⟩=>bif decide (z=0) then (QbL v w x d e f h i j k l m n o p q t t.length 0).bind fun A=>QbI v w A d e f h i j k l m n o p (Ev.wr .i64 (q+1)) else some (.inr (v,w,x,y,z)) else some (.inl (a,b,c)):=me 218
theorem Qt8 a b:Qbh a b=
 (Sy.at' a.2.2.2.1 b).bind fun c=>some c.1:=me 219
theorem Qrc a b c d:Qf7 a b c d=
 (Sy.at' a.2 c).bind fun e=>(bif (decide (e.2.1<(0:Int))) then some true else some (decide ((e.2.2.2.1.length:Int)<e.2.1))).bind fun f=>(bif f then some true else some (!(decide ((d.length:Int)=e.2.1)))).bind fun h=>bif h then some false else (Qfe b e d 0).bind fun
   |.inl _=> some false
   |.inr _=> some true:=me 220
theorem Qrd a b c d e f:Qf8 a b c d e f=
 (bif (decide (c<(1:Int))) then some true else some (decide (d<(0:Int)))).bind fun h=>(bif h then some true else (Sy.at' a.1 (Ev.wr .i64 (c - 1))).bind fun i=>some (!(decide (d<(i.2.length:Int))))).bind fun i=>(bif i then some true else (Sy.at' a.1 (Ev.wr .i64 (c - 1))).bind fun j=>(Sy.at' j.2 d).bind fun k=>some (!(decide ((e.length:Int)=(k.2.length:Int))))).bind fun j=>bif j then some false else (Qdx a b c d e f 0).bind fun
   |.inl _=> some false
   |.inr _=> some true:=me 221
theorem Qt9 a b:QgI a b=
 ((QhM a b).bind fun c=>bif c then (Qoe a b).bind fun d=>(Qc9 d).bind fun e=>some (!e) else some false).bind fun c=>some c:=me 222
theorem Qla a b c d e f h i j k l m n:QaW a b c d e f h i j k l m n=
 bif (decide (n.1=(0:Int))) then (Sy.at' n.2.2.1 0).bind fun o=>(Qav a b c d e f h i j k l m o).bind fun p=>some (decide (p=i)) else bif (decide (n.1=(1:Int))) then (Qav a b c d e f h i j k l m n.2.1).bind fun o=>some (decide (o=0)) else bif (decide (n.1=(2:Int))) then (bif (decide (n.2.2.2.2.1<(5:Int))) then some (0:Int) else some (1:Int)).bind fun o=>((Qde a b c ((0:Int)::((0:Int)::([]:List (Int)))) d e f h i j k l m n.2.2.1 (-1:Int)).bind fun p=>bif p then (Qav a b c d e f h i j k l m n.2.1).bind fun q=>some (decide (q=o)) else some false).bind fun p=>some p else bif (decide (n.1=(3:Int))) then (Qav a b c d e f h i j k l m n.2.1).bind fun o=>(QcH a b c d e f h i j k l m o n.2.2.2.1).bind fun
   |.inl _=> some false
   |.inr p=> (QbM a b c d e f h i j k l m n.2.2.1 p (-1:Int)).bind fun q=>some q else bif (decide (n.1=(4:Int))) then (Sy.at' n.2.2.1 0).bind fun o=>(Qav a b c d e f h i j k l m n.2.1).bind fun p=>(Qav a b c d e f h i j k l m o).bind fun q=>bif decide (p=q) then (QbK a b c d e f h i j k l m n.2.1).bind fun r=>some (!r) else some false else bif (decide (n.1=(5:Int))) then (Sy.at' n.2.2.1 0).bind fun o=>(QbK a b c d e f h i j k l m o).bind fun p=>some (!p) else bif (decide (n.1=(6:Int))) then (Qcz a b c d e f h i j k l m n.2.2.2.2.2.1 n.2.2.1).bind fun o=>bif o then (Sy.at' e n.2.2.2.2.2.1).bind fun p=>(Qav a b c d e f h i j k l m n.2.1).bind fun q=>some (decide (q=p.2.2.1)) else some false else bif (decide (n.1=(7:Int))) then (Qcz a b c d e f h i j k l m n.2.2.2.2.2.1 n.2.2.1).bind fun o=>bif o then (Sy.at' e n.2.2.2.2.2.1).bind fun p=>some (decide (i=p.2.2.1)) else some false else bif (decide (n.1=(8:Int))) then (QcH a b c d e f h i j k l m i n.2.2.2.1).bind fun
             |.inl _=> some false
             |.inr o=> (bif (decide (n.2.2.2.2.1<(0:Int))) then some true else some (!(decide (n.2.2.2.2.1<(o.length:Int))))).bind fun p=>(bif p then some true else (QbM a b c d e f h i j k l m n.2.2.1 o n.2.2.2.2.1).bind fun q=>some (!q)).bind fun q=>bif q then some false else (Qcz a b c d e f h i j k l m n.2.2.2.2.2.1 n.2.2.2.2.2.2.1).bind fun r=>bif r then (Sy.at' e n.2.2.2.2.2.1).bind fun s=>(Sy.at' o n.2.2.2.2.1).bind fun t=>some (decide (s.2.2.1=t)) else some false else (Sy.at' n.2.2.1 0).bind fun o=>(Qav a b c d e f h i j k l m o).bind fun p=>bif (decide (p<(1:Int))) then some false else (Sy.at' d (Ev.wr .i64 (p - 1))).bind fun q=>bif (decide ((n.2.2.2.2.2.2.2.2.1.length:Int)=(q.2.length:Int))) then bif n.2.2.2.2.2.2.2.1 then (QbK a b c d e f h i j k l m o).bind fun r=>bif r then some false else (Qa1 a b c d e f h i j k l m p n.2.2.2.2.2.2.2.2.1 n.2.2.2.2.2.2.2.2.1.length 0).bind fun
               |.inl _=> some false
               |.inr _=> some true else (Qa1 a b c d e f h i j k l m p n.2.2.2.2.2.2.2.2.1 n.2.2.2.2.2.2.2.2.1.length 0).bind fun
                   |.inl _=> some false
                   |.inr _=> some true else some false:=me 223
theorem Qi3 a b c d e:QcX a b c d e=
 bif (decide (e<(c.2.2.2.2.2.2.2.2.1.length:Int))) then (Sy.at' c.2.2.2.2.2.2.2.2.1 e).bind fun f=>(Qf8 a b d e f.1 (-1:Int)).bind fun h=>bif h then QcX a b c d (Ev.wr .i64 (e+1)) else some (.inl ()) else some (.inr ()):=me 224
theorem Qi4 a b c d e:QcY a b c d e=
 bif (decide (e<(d.length:Int))) then bif (decide (c.1=(9:Int))) then bif c.2.2.2.2.2.2.2.1 then (Sy.at' d e).bind fun f=>(Sy.at' b.2.2.2.1 f).bind fun h=>bif (!h.2) then QcY a b c d (Ev.wr .i64 (e+1)) else some (.inl ()) else (Sy.at' d e).bind fun f=>(Qbh b f).bind fun h=>(QfM a.1 h).bind fun i=>(Sy.at' b.2.2.2.1 f).bind fun j=>bif (j.2==(!i)) then QcY a b c d (Ev.wr .i64 (e+1)) else some (.inl ()) else (Sy.at' d e).bind fun f=>(Sy.at' b.2.2.2.1 f).bind fun h=>bif (!h.2) then QcY a b c d (Ev.wr .i64 (e+1)) else some (.inl ()) else some (.inr ()):=me 225
theorem Qfk a b c d e f h i j k l m n o p q r s t u v:QbJ a b c d e f h i j k l m n o p q r s t u v=
 bif decide (v<u) then (Sy.at' t v).bind fun w=>(Sy.at' c w).bind fun x=>QbJ a b (List.set c w.toNat true) d e f h i j k l m n o p q r s t u (Ev.wr .i64 (v+1)) else some c:=me 226
theorem Qh2 a b c d:Qfe a b c d=
 bif (decide (d<(c.length:Int))) then (Sy.at' c d).bind fun e=>bif (decide (e<(0:Int))) then some (.inl ()) else (Sy.at' b.2.2.2.1 d).bind fun f=>(Qbh a e).bind fun h=>bif decide (h=f.1) then Qfe a b c (Ev.wr .i64 (d+1)) else some (.inl ()) else some (.inr ()):=me 227
theorem Qh3 a b c d e f h:Qdx a b c d e f h=
 bif (decide (h<(e.length:Int))) then bif decide (h=f) then (Sy.at' e h).bind fun i=>bif (decide (i=(-1:Int))) then Qdx a b c d e f (Ev.wr .i64 (h+1)) else some (.inl ()) else (Sy.at' e h).bind fun i=>bif (decide (i<(0:Int))) then some (.inl ()) else (Sy.at' a.1 (Ev.wr .i64 (c - 1))).bind fun j=>(Sy.at' j.2 d).bind fun k=>(Sy.at' k.2 h).bind fun l=>(Qbh b i).bind fun m=>bif decide (m=l) then Qdx a b c d e f (Ev.wr .i64 (h+1)) else some (.inl ()) else some (.inr ()):=me 228
theorem Qua a b:Qoe a b=
 (bif (decide (b<(1:Int))) then some true else some (decide ((a.length:Int)<b))).bind fun c=>bif c then some ([]:List (GCon)) else (Sy.at' a (Ev.wr .i64 (b - 1))).bind fun d=>some d.2:=me 229
theorem Qiv a:Qc9 a=
 (Qhd a).bind fun b=>some (!(decide (b<(0:Int)))):=me 231
theorem QjF a b c d e f h i j k l m n:Qav a b c d e f h i j k l m n=
 (Sy.at' j n).bind fun o=>some o.1:=me 232
theorem Qlb a b c d e f h i j k l m n o p:Qde a b c d e f h i j k l m n o p=
 bif (decide ((o.length:Int)=(d.length:Int))) then (Qbz a b c d e f h i j k l m n p o o.length 0).bind fun
   |.inl _=> some false
   |.inr _=> some true else some false:=me 233
theorem QjG a b c d e f h i j k l m n:QbK a b c d e f h i j k l m n=
 (Qav a b c d e f h i j k l m n).bind fun o=>(QgI d o).bind fun p=>some p:=me 234
theorem QlO a b c d e f h i j k l m n o:Qcz a b c d e f h i j k l m n o=
 (QeA a b c d e f h i j k l m n).bind fun ⟨p,q⟩=>(bif q then (Qde a b c p d e f h i j k l m o (-1:Int)).bind fun r=>some r else some false).bind fun r=>some r:=me 235
theorem Qkp a b c d e f h i j k l m n o:QcH a b c d e f h i j k l m n o=
 (bif (decide (n<(1:Int))) then some true else some (decide (o<(0:Int)))).bind fun p=>(bif p then some true else (Sy.at' d (Ev.wr .i64 (n - 1))).bind fun q=>some (!(decide (o<(q.2.length:Int))))).bind fun q=>bif q then some (.inl ()) else (Sy.at' d (Ev.wr .i64 (n - 1))).bind fun r=>(Sy.at' r.2 o).bind fun s=>some (.inr s.2):=me 236
theorem Qfl a b c d e f h i j k l m n o p q r s t:QbL a b c d e f h i j k l m n o p q r s t=
 bif decide (t<s) then (Sy.at' r t).bind fun u=>(Sy.at' c u).bind fun v=>QbL a b (List.set c u.toNat false) d e f h i j k l m n o p q r s (Ev.wr .i64 (t+1)) else some c:=me 237
theorem Qkq a:Qhd a=
 (Qcd a a.length 0).bind fun
  |.inl _=> some (-1:Int)
  |.inr b=> some b:=me 239
theorem QeN a b c d e f h i j k l m n o p q r:Qbz a b c d e f h i j k l m n o p q r=
 bif decide (r<q) then (Sy.at' p r).bind fun s=>bif decide (r=o) then bif (decide (s=(-1:Int))) then Qbz a b c d e f h i j k l m n o p q (Ev.wr .i64 (r+1)) else some (.inl ()) else bif (decide (s<(0:Int))) then some (.inl ()) else (Sy.at' k s).bind fun t=>(Sy.at' d r).bind fun u=>bif decide (t.1=u) then Qbz a b c d e f h i j k l m n o p q (Ev.wr .i64 (r+1)) else some (.inl ()) else some (.inr ()):=me 240
theorem Qkr a b c d e f h i j k l m n:QeA a b c d e f h i j k l m n=
 (Sy.at' e n).bind fun o=>(bif (decide (o.2.1<(0:Int))) then some true else some (decide ((o.2.2.2.1.length:Int)<o.2.1))).bind fun p=>bif p then some (([]:List (Int)),false) else bif (decide (o.2.1<(0:Int))) then none else bif (decide ((o.2.2.2.1.length:Int)<o.2.1)) then none else (Qbm a b c ([]:List (Int)) d e f h i j k l m (List.take o.2.1.toNat o.2.2.2.1) ((List.take o.2.1.toNat o.2.2.2.1).length:Int) 0).bind fun q=>some (q,true):=me 241
theorem QjH a b c d e f h i j k l m n o p:QbM a b c d e f h i j k l m n o p=
 bif (decide ((n.length:Int)=(o.length:Int))) then (Qbc a b c d e f h i j k l m o p n n.length 0).bind fun
   |.inl _=> some false
   |.inr _=> some true else some false:=me 242
theorem QeO a b c d e f h i j k l m n o p q:Qa1 a b c d e f h i j k l m n o p q=
 bif decide (q<p) then (Sy.at' o q).bind fun r=>(Sy.at' d (Ev.wr .i64 (n - 1))).bind fun s=>(Sy.at' s.2 q).bind fun t=>(QbM a b c d e f h i j k l m r.1 t.2 (-1:Int)).bind fun u=>bif u then Qa1 a b c d e f h i j k l m n o p (Ev.wr .i64 (q+1)) else some (.inl ()) else some (.inr ()):=me 243
theorem Qel a b c:Qcd a b c=
 bif decide (c<b) then (Sy.at' a c).bind fun d=>(QoY d).bind fun e=>bif e then some (.inr c) else Qcd a b (Ev.wr .i64 (c+1)) else some (.inl ()):=me 244
theorem Qem a b c d e f h i j k l m n o p q:Qbm a b c d e f h i j k l m n o p q=
 bif decide (q<p) then (Sy.at' o q).bind fun r=>bif (decide (((d.length+(1:Nat)) * (8:Nat))≤(35184372088832:Nat))) then Qbm a b c (d++(r.1::([]:List (Int)))) e f h i j k l m n o p (Ev.wr .i64 (q+1)) else none else some d:=me 245
theorem QeP a b c d e f h i j k l m n o p q:Qaq a b c d e f h i j k l m n o p q=
 bif decide (q<p) then (Sy.at' o q).bind fun r=>(Sy.at' j r).bind fun s=>bif (decide (n.1=(9:Int))) then bif n.2.2.2.2.2.2.2.1 then bif (!s.2) then Qaq a b c d e f h i j k l m n o p (Ev.wr .i64 (q+1)) else some (.inl ()) else (QgI d s.1).bind fun t=>bif (s.2==(!t)) then Qaq a b c d e f h i j k l m n o p (Ev.wr .i64 (q+1)) else some (.inl ()) else bif (!s.2) then Qaq a b c d e f h i j k l m n o p (Ev.wr .i64 (q+1)) else some (.inl ()) else some (.inr ()):=me 246
theorem QdQ a b c d e f h i j k l m n o p q r:Qbc a b c d e f h i j k l m n o p q r=
 bif decide (r<q) then (Sy.at' p r).bind fun s=>bif decide (r=o) then bif (decide (s=(-1:Int))) then Qbc a b c d e f h i j k l m n o p q (Ev.wr .i64 (r+1)) else some (.inl ()) else bif (decide (s<(0:Int))) then some (.inl ()) else (Sy.at' j s).bind fun t=>(Sy.at' n r).bind fun u=>bif decide (t.1=u) then Qbc a b c d e f h i j k l m n o p q (Ev.wr .i64 (r+1)) else some (.inl ()) else some (.inr ()):=me 247
theorem Qre a:QoY a=
 some (decide ((0:Int)<(a.2.length:Int))):=me 248
theorem QvB a:QqZ a=
 (Qf9 a 0).bind fun
  |.inl _=> some false
  |.inr _=> (Qga a 0).bind fun
   |.inl _=> some false
   |.inr _=> (bif (decide ((5:Int)<(a.2.length:Int))) then some false else some (!(decide ((10:Int)<(a.1.length:Int))))).bind fun b=>some b:=me 256
theorem Qlc a b:Qf9 a b=
 bif (decide (b<(a.1.length:Int))) then ((Sy.at' a.1 b).bind fun c=>bif (decide ((16:Int)<(c.2.length:Int))) then some true else some (decide ((60:Int)<(c.1.length:Int)))).bind fun c=>bif c then some (.inl ()) else Qf9 a (Ev.wr .i64 (b+1)) else some (.inr ()):=me 258
theorem Qol a b:QfT a b=
 (Sy.at' a.2 b).bind fun c=>(QcA ([]:List (Bool)) ([]:List (Int)) a a.1 a.2 c.1 c.2.1 c.2.2.1 c.2.2.2.1 c.2.2.2.2.1 c.2.2.2.2.2.1 c.2.2.2.2.2.2 c.2.2.2.1 c.2.2.2.1.length 0).bind fun ⟨d,e⟩=>bif c.2.2.2.2.2.2 then some (d,e,a.1,a.2,c.1,c.2.1,c.2.2.1,c.2.2.2.1,c.2.2.2.2.1,c.2.2.2.2.2.1,c.2.2.2.2.2.2) else (Qch d e a.1 a.2 c.1 c.2.1 c.2.2.1 c.2.2.2.1 c.2.2.2.2.1 c.2.2.2.2.2.1 c.2.2.2.2.2.2 c.2.2.2.2.2.1).bind fun f=>some (d,f,a.1,a.2,c.1,c.2.1,c.2.2.1,c.2.2.2.1,c.2.2.2.2.1,c.2.2.2.2.2.1,c.2.2.2.2.2.2):=me 260
theorem Qld a b:Qga a b=
 bif (decide (b<(a.2.length:Int))) then (Sy.at' a.2 b).bind fun c=>(bif (decide ((60:Int)<(c.2.2.2.2.1.length:Int))) then some true else some (decide ((60:Int)<(c.2.2.2.1.length:Int)))).bind fun d=>(bif d then some true else some (decide ((70:Int)<(c.1.length:Int)))).bind fun e=>bif e then some (.inl ()) else (Qgb a c b 0).bind fun
      |.inl _=> some (.inl ())
      |.inr _=> Qga a (Ev.wr .i64 (b+1)) else some (.inr ()):=me 262
theorem Qgn a b c d e f h i j k l m n o p:QcA a b c d e f h i j k l m n o p=
 bif decide (p<o) then (Sy.at' n p).bind fun q=>(QgI c.1 q.1).bind fun r=>bif (decide (((a.length+(1:Nat)) * (1:Nat))≤(35184372088832:Nat))) then (bif r then some (-1:Int) else some p).bind fun s=>bif (decide (((b.length+(1:Nat)) * (8:Nat))≤(35184372088832:Nat))) then QcA (a++(r::([]:List (Bool)))) (b++(s::([]:List (Int)))) c d e f h i j k l m n o (Ev.wr .i64 (p+1)) else none else none else some (a,b):=me 264
theorem Qle a b c d:Qgb a b c d=
 bif (decide (d<(b.2.2.2.2.1.length:Int))) then (Sy.at' b.2.2.2.2.1 d).bind fun e=>(bif (decide ((10:Int)<(e.2.2.1.length:Int))) then some true else some (decide ((10:Int)<(e.2.2.2.2.2.2.1.length:Int)))).bind fun f=>(bif f then some true else some (decide ((16:Int)<(e.2.2.2.2.2.2.2.2.1.length:Int)))).bind fun h=>bif h then some (.inl ()) else Qgb a b c (Ev.wr .i64 (d+1)) else some (.inr ()):=me 267
theorem Qpe a b:QgC a b=
 (QcU ([]:List (Int)) a b 0).bind fun c=>(bif b.2.2.2.2.2.2 then some (.inl ()) else (QfN c a b b.2.2.2.2.2.1).bind fun d=>some (.inr d):Option ((Unit)⊕((List (Int))))).bind fun
  |.inl _=> some c
  |.inr d=> bif decide (c.length≤d.length) then some (List.take c.length d) else none:=me 268
theorem Qmy a b c d e f h i j k l m:Qch a b c d e f h i j k l m=
 (Sy.at' j m).bind fun n=>((bif (decide (n.1=(9:Int))) then some (!n.2.2.2.2.2.2.2.1) else some false).bind fun o=>bif o then (QeI n).bind fun p=>(Qbr a b c d e f h i j k l n p p.length 0).bind fun q=>some q else some b:Option (((List (Int))))).bind fun o=>(Qf4 n).bind fun p=>(Qb0 a o c d e f h i j k l p p.length 0).bind fun q=>some q:=me 269
theorem Qrf a:Qk6 a=
 (Qdy ([]:List (Int)) a 0).bind fun b=>some b:=me 270
theorem Qhi a b c d:QcU a b c d=
 bif (decide (d<(c.2.2.2.1.length:Int))) then ((QgJ b c d).bind fun e=>bif e then some (-1:Int) else some d).bind fun e=>bif (decide (((a.length+(1:Nat)) * (8:Nat))≤(35184372088832:Nat))) then QcU (a++(e::([]:List (Int)))) b c (Ev.wr .i64 (d+1)) else none else some a:=me 273
theorem QrX a b c:Qmu a b c=
 (QcZ ([]:List (Int)) a b c 0).bind fun d=>some d:=me 275
theorem QfA a b c d e f h i j k l m n o p:Qbr a b c d e f h i j k l m n o p=
 bif decide (p<o) then (Sy.at' n p).bind fun q=>(Sy.at' a q).bind fun r=>bif r then Qbr a b c d e f h i j k l m n o (Ev.wr .i64 (p+1)) else (Sy.at' m.2.2.1 0).bind fun s=>(Sy.at' b s).bind fun t=>(Sy.at' b q).bind fun u=>Qbr a (List.set b q.toNat t) c d e f h i j k l m n o (Ev.wr .i64 (p+1)) else some b:=me 276
theorem QfB a b c d e f h i j k l m n o:Qb0 a b c d e f h i j k l m n o=
 bif decide (o<n) then (Sy.at' m o).bind fun p=>(Qch a b c d e f h i j k l p).bind fun q=>Qb0 a q c d e f h i j k l m n (Ev.wr .i64 (o+1)) else some b:=me 277
theorem Qh4 a b c:Qdy a b c=
 bif decide (c<b.2.1) then bif (decide (((a.length+(1:Nat)) * (8:Nat))≤(35184372088832:Nat))) then Qdy (a++(c::([]:List (Int)))) b (Ev.wr .i64 (c+1)) else none else some a:=me 278
theorem Qub a b c:QgJ a b c=
 (Sy.at' b.2.2.2.1 c).bind fun d=>(Qof a.1 d.1).bind fun e=>some e:=me 279
theorem QrY a b c d:QfN a b c d=
 (Sy.at' c.2.2.2.2.1 d).bind fun e=>((bif (decide (e.1=(9:Int))) then some (!e.2.2.2.2.2.2.2.1) else some false).bind fun f=>bif f then (Qed a b c e e.2.2.2.2.2.2.2.2.1 e.2.2.2.2.2.2.2.2.1.length 0).bind fun h=>some h else some a:Option (((List (Int))))).bind fun f=>(QdK e).bind fun h=>(Qim f b c h h.length 0).bind fun i=>some i:=me 281
theorem Qks a b c d e f h i j k l:QeB a b c d e f h i j k l=
 bif (decide ((i.length:Int)<(0:Int))) then none else bif (decide (((i.length:Int).toNat * (1:Nat))≤(140737488355328:Nat))) then (Qfv a b ([]:List (Bool)) ([]:List (Bool)) (List.replicate (i.length:Int).toNat false) (List.replicate (i.length:Int).toNat false) c d e f h i j k l f 0).bind fun
      |.inl _=> some (.inl ((List.replicate (i.length:Int).toNat false),(List.replicate (i.length:Int).toNat false)))
      | (.inr ⟨m,n⟩)=>some (.inr ((List.replicate (i.length:Int).toNat false),m,n)) else none:=me 282
theorem Qi5 a b c d e:QcZ a b c d e=
 bif (decide (e<(d.length:Int))) then (Sy.at' d e).bind fun f=>(Sy.at' c.2.2.2.1 f).bind fun h=>bif h.2 then QcZ a b c d (Ev.wr .i64 (e+1)) else (QgJ b c f).bind fun i=>bif i then QcZ a b c d (Ev.wr .i64 (e+1)) else bif (decide (((a.length+(1:Nat)) * (8:Nat))≤(35184372088832:Nat))) then QcZ (a++(f::([]:List (Int)))) b c d (Ev.wr .i64 (e+1)) else none else some a:=me 283
theorem Quc a b:Qof a b=
 bif decide (b=0) then some true else (Sy.at' a (Ev.wr .i64 (b - 1))).bind fun c=>(QgD c.2 0).bind fun
   |.inl _=> some false
   |.inr _=> some true:=me 284
theorem Qi6 a b c d e f h:Qed a b c d e f h=
 bif decide (h<f) then (Sy.at' e h).bind fun i=>(Qc0 a b c d e f h i.1 i.1.length 0).bind fun j=>Qed j b c d e f (Ev.wr .i64 (h+1)) else some a:=me 286
theorem Qom a b c d e f:Qim a b c d e f=
 bif decide (f<e) then (Sy.at' d f).bind fun h=>(QfN a b c h).bind fun i=>(QbF i b c a.length d e (Ev.wr .i64 (f+1))).bind fun j=>some j else some a:=me 287
theorem Qiw a b c d e f h i j k l m n o p q r:Qfv a b c d e f h i j k l m n o p q r=
 bif decide (r<q) then (Qff a b e f (r::([]:List (Int))) h i j k l m n o p).bind fun s=>(QbD a b c d e s h i j k l m n o p f.length q (Ev.wr .i64 (r+1))).bind fun t=>some (.inr (t,f.length)) else some (.inl ()):=me 288
theorem Qka a b:QgD a b=
 bif (decide (b<(a.length:Int))) then (Sy.at' a b).bind fun c=>bif (decide ((0:Int)<(c.2.length:Int))) then some (.inl ()) else QgD a (Ev.wr .i64 (b+1)) else some (.inr ()):=me 289
theorem Qon a b c:QfU a b c=
 bif (decide (c.1=(0:Int))) then (QcI a b c.2.2.1).bind fun d=>some d else bif (decide (c.1=(5:Int))) then (QcI a b c.2.2.1).bind fun d=>some d else bif (decide (c.1=(3:Int))) then (QcI a b c.2.2.1).bind fun d=>some d else bif (decide (c.1=(9:Int))) then bif c.2.2.2.2.2.2.2.1 then (QcI a b c.2.2.1).bind fun d=>some d else some ([]:List (Int)) else bif (decide (c.1=(6:Int))) then (QcD a b c.2.2.2.2.2.1 c.2.2.1 (false)).bind fun d=>some d else bif (decide (c.1=(7:Int))) then (QcD a b c.2.2.2.2.2.1 c.2.2.1 (false)).bind fun d=>some d else bif (decide (c.1=(8:Int))) then (QcI a b c.2.2.1).bind fun d=>(QcD a b c.2.2.2.2.2.1 c.2.2.2.2.2.2.1 (false)).bind fun e=>bif (decide (((d.length+e.length) * (8:Nat))≤(35184372088832:Nat))) then some (d++e) else none else some ([]:List (Int)):=me 290
theorem Qi7 a b c d e f h i j k:Qc0 a b c d e f h i j k=
 bif decide (k<j) then (Sy.at' i k).bind fun l=>(Sy.at' a l).bind fun m=>bif (decide (m<(0:Int))) then Qc0 a b c d e f h i j (Ev.wr .i64 (k+1)) else (Sy.at' d.2.2.1 0).bind fun n=>(Sy.at' a n).bind fun o=>Qc0 (List.set a l.toNat o) b c d e f h i j (Ev.wr .i64 (k+1)) else some a:=me 291
theorem Qlf a b c d e f h i j k l m n o:Qff a b c d e f h i j k l m n o=
 (QbA a b c d e f h i j k l m n o e.length 0).bind fun p=>some p:=me 292
theorem QrZ a b c:QjD a b c=
 bif (decide (c.1=(4:Int))) then (QcI a b c.2.2.1).bind fun d=>some d else bif (decide (c.1=(9:Int))) then bif c.2.2.2.2.2.2.2.1 then some ([]:List (Int)) else (QcI a b c.2.2.1).bind fun d=>some d else bif (decide (c.1=(6:Int))) then (QcD a b c.2.2.2.2.2.1 c.2.2.1 (true)).bind fun d=>some d else bif (decide (c.1=(7:Int))) then (QcD a b c.2.2.2.2.2.1 c.2.2.1 (true)).bind fun d=>some d else bif (decide (c.1=(8:Int))) then (QcD a b c.2.2.2.2.2.1 c.2.2.2.2.2.2.1 (true)).bind fun d=>some d else some ([]:List (Int)):=me 293
theorem Qr0 a b c:QcI a b c=
 (Qc1 ([]:List (Int)) a b c 0).bind fun d=>some d:=me 294
theorem Qrg a b c d e:QcD a b c d e=
 (Qb1 ([]:List (Int)) a b c d e 0).bind fun f=>some f:=me 295
theorem QeQ a b c d e f h i j k l m n o p q:QbA a b c d e f h i j k l m n o p q=
 bif decide (q<p) then (Sy.at' e q).bind fun r=>(Qb2 a b f h i j k l m n o r).bind fun s=>bif s then (Sy.at' d r).bind fun t=>QbA a b c (List.set d r.toNat true) e f h i j k l m n o p (Ev.wr .i64 (q+1)) else QbA a b c d e f h i j k l m n o p (Ev.wr .i64 (q+1)) else some d:=me 296
theorem Qi8 a b c d e:Qc1 a b c d e=
 bif (decide (e<(d.length:Int))) then (Sy.at' d e).bind fun f=>bif (decide (f<(0:Int))) then Qc1 a b c d (Ev.wr .i64 (e+1)) else (QgJ b c f).bind fun h=>bif h then Qc1 a b c d (Ev.wr .i64 (e+1)) else bif (decide (((a.length+(1:Nat)) * (8:Nat))≤(35184372088832:Nat))) then Qc1 (a++(f::([]:List (Int)))) b c d (Ev.wr .i64 (e+1)) else none else some a:=me 299
theorem Qh5 a b c d e f h:Qb1 a b c d e f h=
 bif (decide (h<(e.length:Int))) then (Sy.at' b.2 d).bind fun i=>(Sy.at' i.2.2.2.1 h).bind fun j=>bif (j.2==f) then (Sy.at' e h).bind fun k=>(QgJ b c k).bind fun l=>bif l then Qb1 a b c d e f (Ev.wr .i64 (h+1)) else bif (decide (((a.length+(1:Nat)) * (8:Nat))≤(35184372088832:Nat))) then Qb1 (a++(k::([]:List (Int)))) b c d e f (Ev.wr .i64 (h+1)) else none else Qb1 a b c d e f (Ev.wr .i64 (h+1)) else some a:=me 300
theorem Qkt a b c d e f h i j k l m:Qb2 a b c d e f h i j k l m=
 ((Sy.at' a m).bind fun n=>bif n then some false else (Sy.at' i m).bind fun o=>some (!o.2)).bind fun n=>some n:=me 301
theorem QeC a b c d e f h:QbF a b c d e f h=
 bif decide (h<f) then (Sy.at' e h).bind fun i=>(QgE a b c i d).bind fun j=>QbF j b c d e f (Ev.wr .i64 (h+1)) else some a:=me 304
theorem Qi9 a b c d e f h i j k l m:Qa2 a b c d e f h i j k l m=
 bif (decide (m.1=(0:Int))) then (QaJ a b c d e f h i j k l m.2.2.1).bind fun n=>some (n,([]:List (Int))) else bif (decide (m.1=(5:Int))) then (QaJ a b c d e f h i j k l m.2.2.1).bind fun n=>some (n,([]:List (Int))) else bif (decide (m.1=(3:Int))) then (QaJ a b c d e f h i j k l m.2.2.1).bind fun n=>some (n,([]:List (Int))) else bif (decide (m.1=(4:Int))) then (QaJ a b c d e f h i j k l m.2.2.1).bind fun n=>some (([]:List (Int)),n) else bif (decide (m.1=(6:Int))) then (QbQ a b ([]:List (Int)) ([]:List (Int)) c d e f h i j k l m m.2.2.1).bind fun ⟨n,o⟩=>some (o,n) else bif (decide (m.1=(7:Int))) then (QbQ a b ([]:List (Int)) ([]:List (Int)) c d e f h i j k l m m.2.2.1).bind fun ⟨n,o⟩=>some (o,n) else bif (decide (m.1=(8:Int))) then (QaJ a b c d e f h i j k l m.2.2.1).bind fun n=>(QbQ a b ([]:List (Int)) n c d e f h i j k l m m.2.2.2.2.2.2.1).bind fun ⟨o,p⟩=>some (p,o) else bif (decide (m.1=(9:Int))) then bif m.2.2.2.2.2.2.2.1 then (QaJ a b c d e f h i j k l m.2.2.1).bind fun n=>some (n,([]:List (Int))) else (QaJ a b c d e f h i j k l m.2.2.1).bind fun n=>some (([]:List (Int)),n) else some (([]:List (Int)),([]:List (Int))):=me 305
theorem QvC a b:Qnl a b=
 (QhN a b 0).bind fun
  |.inl _=> some true
  |.inr _=> some false:=me 306
theorem Qpf a b c d e:QgE a b c d e=
 (Sy.at' c.2.2.2.2.1 d).bind fun f=>((bif (decide (f.1=(9:Int))) then some (!f.2.2.2.2.2.2.2.1) else some false).bind fun h=>bif h then (QcV a b c f e f.2.2.2.2.2.2.2.2.1 f.2.2.2.2.2.2.2.2.1.length 0).bind fun i=>some i else some a:Option (((List (Int))))).bind fun h=>(QdK f).bind fun i=>(QbF h b c e i i.length 0).bind fun j=>some j:=me 307
theorem Qku a b c d e f h i j k l m:QaJ a b c d e f h i j k l m=
 (Qbn a b ([]:List (Int)) c d e f h i j k l m m.length 0).bind fun n=>some n:=me 308
theorem Qcf a b c d e f h i j k l m n o p:QbQ a b c d e f h i j k l m n o p=
 (Qas a b c d e f h i j k l m n o p p.length 0).bind fun ⟨q,r⟩=>some (q,r):=me 309
theorem QdE a b c d e f h i j k l m n o p q r s:QbD a b c d e f h i j k l m n o p q r s=
 bif decide (s<r) then (QdY a b e f (s::([]:List (Int))) h i j k l m n o p q).bind fun t=>QbD a b c d e t h i j k l m n o p q r (Ev.wr .i64 (s+1)) else some f:=me 311
theorem Qlg a b c:QhN a b c=
 bif (decide (c<(a.length:Int))) then (Sy.at' a c).bind fun d=>bif decide (d=b) then some (.inl ()) else QhN a b (Ev.wr .i64 (c+1)) else some (.inr ()):=me 313
theorem Qhj a b c d e f h i:QcV a b c d e f h i=
 bif decide (i<h) then (Sy.at' f i).bind fun j=>(Qci a b c d e f h i j.1 j.1.length 0).bind fun k=>QcV k b c d e f h (Ev.wr .i64 (i+1)) else some a:=me 314
theorem Qen a b c d e f h i j k l m n o p:Qbn a b c d e f h i j k l m n o p=
 bif decide (p<o) then (Sy.at' n p).bind fun q=>(bif (decide (q<(0:Int))) then some false else (Sy.at' a q).bind fun r=>some (!r)).bind fun r=>bif r then bif (decide (((c.length+(1:Nat)) * (8:Nat))≤(35184372088832:Nat))) then Qbn a b (c++(q::([]:List (Int)))) d e f h i j k l m n o (Ev.wr .i64 (p+1)) else none else Qbn a b c d e f h i j k l m n o (Ev.wr .i64 (p+1)) else some c:=me 315
theorem QcW a b c d e f h i j k l m n o p q r:Qas a b c d e f h i j k l m n o p q r=
 bif decide (r<q) then (Sy.at' p r).bind fun s=>(Sy.at' a s).bind fun t=>bif t then Qas a b c d e f h i j k l m n o p q (Ev.wr .i64 (r+1)) else (Sy.at' f o.2.2.2.2.2.1).bind fun u=>(Sy.at' u.2.2.2.1 r).bind fun v=>bif v.2 then bif (decide (((c.length+(1:Nat)) * (8:Nat))≤(35184372088832:Nat))) then Qas a b (c++(s::([]:List (Int)))) d e f h i j k l m n o p q (Ev.wr .i64 (r+1)) else none else bif (decide (((d.length+(1:Nat)) * (8:Nat))≤(35184372088832:Nat))) then Qas a b c (d++(s::([]:List (Int)))) e f h i j k l m n o p q (Ev.wr .i64 (r+1)) else none else some (c,d):=me 316
theorem QjI a b c d e f h i j k l m n o p:QdY a b c d e f h i j k l m n o p=
 (Qbd a b c d e f h i j k l m n o p e.length 0).bind fun q=>some q:=me 318
theorem Qhk a b c d e f h i j k l:Qci a b c d e f h i j k l=
 bif decide (l<k) then (Sy.at' j l).bind fun m=>bif (decide (m<(0:Int))) then none else bif (decide (m<(e:Int))) then (Sy.at' a m).bind fun n=>bif (decide (n<(0:Int))) then Qci a b c d e f h i j k (Ev.wr .i64 (l+1)) else (Sy.at' d.2.2.1 0).bind fun o=>bif (decide (o<(0:Int))) then none else bif (decide (o<(e:Int))) then (Sy.at' a o).bind fun p=>Qci (List.set a m.toNat p) b c d e f h i j k (Ev.wr .i64 (l+1)) else none else none else some a:=me 319
theorem Qoo a:Qin a=
 (QdN a 0 a a.length 0).bind fun b=>(QoZ b).bind fun
  | (.inl ⟨c,d⟩)=>(QiP c d a a.length 0).bind fun
   |.inl _=> bif decide (d≤c.length) then some (List.take d c) else none
   |.inr e=> some e
  |.inr _=> (Qbs ([]:List (Int)) a a.length 0).bind fun c=>some c:=me 324
theorem QdR a b c d e f h i j k l m n o p q r:Qbd a b c d e f h i j k l m n o p q r=
 bif decide (r<q) then (Sy.at' e r).bind fun s=>(Qb2 a b f h i j k l m n o s).bind fun t=>bif t then bif (decide (s<(0:Int))) then none else bif (decide (s<(p:Int))) then (Sy.at' d s).bind fun u=>Qbd a b c (List.set d s.toNat true) e f h i j k l m n o p q (Ev.wr .i64 (r+1)) else none else Qbd a b c d e f h i j k l m n o p q (Ev.wr .i64 (r+1)) else some d:=me 325
theorem Qd1 a b c d e:QdN a b c d e=
 bif decide (e<d) then (Sy.at' c e).bind fun f=>bif (decide ((Ev.wr .i64 (b+(f.length:Int)))<(0:Int))) then none else QdN a (Ev.wr .i64 (b+(f.length:Int))) c d (Ev.wr .i64 (e+1)) else some b:=me 328
theorem Qrh a:QoZ a=
 bif (decide (a<(0:Int))) then none else (bif (decide ((0:Int)<(Ev.wr .i64 (a - 0)))) then bif (decide ((Ev.wr .i64 (a - 0))<(1:Int))) then none else bif (decide (((Ev.wr .i64 (a - 0)).toNat * (8:Nat))≤(140737488355328:Nat))) then bif (decide (((List.replicate (Ev.wr .i64 (a - 0)).toNat (0:Int)).length:Int)<(0:Int))) then none else some (.inl ()) else none else some (.inr ()):Option ((Unit)⊕(Unit))).bind fun
   |.inl _=> some (.inl ((List.replicate (Ev.wr .i64 (a - 0)).toNat (0:Int)),(0:Nat)))
   |.inr _=> some (.inr ()):=me 332
theorem QlP a b c d e:QiP a b c d e=
 bif decide (e<d) then (Sy.at' c e).bind fun f=>bif (decide (((b+f.length) * (8:Nat))≤(35184372088832:Nat))) then bif decide (b≤a.length) then (Qbs ((List.take b a)++f) c d (Ev.wr .i64 (e+1))).bind fun h=>some (.inr h) else none else none else some (.inl ()):=me 339
theorem Qdc a b c d:Qbs a b c d=
 bif decide (d<c) then (Sy.at' b d).bind fun e=>bif (decide (((a.length+e.length) * (8:Nat))≤(35184372088832:Nat))) then Qbs (a++e) b c (Ev.wr .i64 (d+1)) else none else some a:=me 340
theorem QjJ a b c d e f h i j k l m n o p:QdZ a b c d e f h i j k l m n o p=
 (Qdz c d).bind fun ⟨q,r,s,t⟩=>(Qa2 a b e f h i j k l m n o).bind fun ⟨u,v⟩=>(QaK c d a b ([]:List (Bool)) ([]:List (Bool)) q r u e f h i j k l m n o s t p u.length 0).bind fun w=>(bif (decide (o.1=(9:Int))) then (Sy.at' o.2.2.2.2.2.2.2.2.1 p).bind fun x=>(QaO a b w r e f h i j k l m n s t x.1).bind fun y=>some y else (QeI o).bind fun x=>(QaO a b w r e f h i j k l m n s t x).bind fun y=>some y:Option (((List (Bool))))).bind fun x=>some (w,x,s,t):=me 343
theorem Qja a b:Qdz a b=
 bif (decide ((a.length:Int)<(0:Int))) then none else bif (decide (((a.length:Int).toNat * (1:Nat))≤(140737488355328:Nat))) then bif (decide ((b.length:Int)<(0:Int))) then none else bif (decide (((b.length:Int).toNat * (1:Nat))≤(140737488355328:Nat))) then some (((List.take (0:Nat) (List.replicate (a.length:Int).toNat false))++((List.take (List.replicate (a.length:Int).toNat false).length a)++(List.drop (List.take (List.replicate (a.length:Int).toNat false).length a).length (List.replicate (a.length:Int).toNat false)))),((List.take (0:Nat) (List.replicate (b.length:Int).toNat false))++((List.take (List.replicate (b.length:Int).toNat false).length b)++(List.drop (List.take (List.replicate (b.length:Int).toNat false).length b).length (List.replicate (b.length:Int).toNat false)))),(List.replicate (a.length:Int).toNat false).length,(List.replicate (b.length:Int).toNat false).length) else none else none:=me 348
theorem QdS a b c d e f h i j k l m n o p q r s t u v w x y:QaK a b c d e f h i j k l m n o p q r s t u v w x y=
 bif decide (y<x) then (Sy.at' j y).bind fun z=>bif (decide (z<(0:Int))) then none else bif (decide (z<(u:Int))) then (Sy.at' h z).bind fun A=>QaK a b c d e f (List.set h z.toNat true) i j k l m n o p q r s t u v w x (Ev.wr .i64 (y+1)) else none else some h:=me 354
theorem QjK a b c d e f h i j k l m n o p q:QaO a b c d e f h i j k l m n o p q=
 (Qbe a b c d e f h i j k l m n o p q q.length 0).bind fun r=>some r:=me 362
theorem Qix a b c d e f h i j k l m n o p q:Qda a b c d e f h i j k l m n o p q=
 (QcJ c d q).bind fun ⟨r,s,t,u⟩=>(Qa2 a b e f h i j k l m n o).bind fun ⟨v,w⟩=>(QaK c d a b ([]:List (Bool)) ([]:List (Bool)) r s v e f h i j k l m n o t u p v.length 0).bind fun x=>(bif (decide (o.1=(9:Int))) then (Sy.at' o.2.2.2.2.2.2.2.2.1 p).bind fun y=>(QaO a b x s e f h i j k l m n t u y.1).bind fun z=>some z else (QeI o).bind fun y=>(QaO a b x s e f h i j k l m n t u y).bind fun z=>some z:Option (((List (Bool))))).bind fun y=>some (x,y,t,u):=me 363
theorem QdT a b c d e f h i j k l m n o p q r s:Qbe a b c d e f h i j k l m n o p q r s=
 bif decide (s<r) then (Sy.at' q s).bind fun t=>(Qb2 a b e f h i j k l m n t).bind fun u=>bif u then bif (decide (t<(0:Int))) then none else bif (decide (t<(p:Int))) then (Sy.at' d t).bind fun v=>Qbe a b c (List.set d t.toNat true) e f h i j k l m n o p q r (Ev.wr .i64 (s+1)) else none else Qbe a b c d e f h i j k l m n o p q r (Ev.wr .i64 (s+1)) else some d:=me 364
theorem Qhs a b c:QcJ a b c=
 bif (decide ((a.length:Int)<(0:Int))) then none else bif (decide (((a.length:Int).toNat * (1:Nat))≤(140737488355328:Nat))) then bif (decide ((c:Int)<(0:Int))) then none else bif (decide (((c:Int).toNat * (1:Nat))≤(140737488355328:Nat))) then bif decide (c≤b.length) then some (((List.take (0:Nat) (List.replicate (a.length:Int).toNat false))++((List.take (List.replicate (a.length:Int).toNat false).length a)++(List.drop (List.take (List.replicate (a.length:Int).toNat false).length a).length (List.replicate (a.length:Int).toNat false)))),((List.take (0:Nat) (List.replicate (c:Int).toNat false))++((List.take (List.replicate (c:Int).toNat false).length (List.take c b))++(List.drop (List.take (List.replicate (c:Int).toNat false).length (List.take c b)).length (List.replicate (c:Int).toNat false)))),(List.replicate (a.length:Int).toNat false).length,(List.replicate (c:Int).toNat false).length) else none else none else none:=me 365
theorem Qiy a b c d e f h i j k l m n o p q r:Qdb a b c d e f h i j k l m n o p q r=
 (QcK c d q r).bind fun ⟨s,t,u,v⟩=>(Qa2 a b e f h i j k l m n o).bind fun ⟨w,x⟩=>(QaK c d a b ([]:List (Bool)) ([]:List (Bool)) s t w e f h i j k l m n o u v p w.length 0).bind fun y=>(bif (decide (o.1=(9:Int))) then (Sy.at' o.2.2.2.2.2.2.2.2.1 p).bind fun z=>(QaO a b y t e f h i j k l m n u v z.1).bind fun A=>some A else (QeI o).bind fun z=>(QaO a b y t e f h i j k l m n u v z).bind fun A=>some A:Option (((List (Bool))))).bind fun z=>some (y,z,u,v):=me 375
theorem Qht a b c d:QcK a b c d=
 bif (decide ((c:Int)<(0:Int))) then none else bif (decide (((c:Int).toNat * (1:Nat))≤(140737488355328:Nat))) then bif (decide ((d:Int)<(0:Int))) then none else bif (decide (((d:Int).toNat * (1:Nat))≤(140737488355328:Nat))) then bif decide (c≤a.length) then bif decide (d≤b.length) then some (((List.take (0:Nat) (List.replicate (c:Int).toNat false))++((List.take (List.replicate (c:Int).toNat false).length (List.take c a))++(List.drop (List.take (List.replicate (c:Int).toNat false).length (List.take c a)).length (List.replicate (c:Int).toNat false)))),((List.take (0:Nat) (List.replicate (d:Int).toNat false))++((List.take (List.replicate (d:Int).toNat false).length (List.take d b))++(List.drop (List.take (List.replicate (d:Int).toNat false).length (List.take d b)).length (List.replicate (d:Int).toNat false)))),(List.replicate (c:Int).toNat false).length,(List.replicate (d:Int).toNat false).length) else none else none else none else none:=me 376
theorem QjL a b c:Qd0 a b c=
 (Qmt).bind fun d=>bif d then (QqZ a).bind fun e=>bif e then (Qhe a b).bind fun ⟨f,h⟩=>(Qmv a b).bind fun ⟨i,j⟩=>(Qio a b c).bind fun ⟨k,l⟩=>(Qog a b c).bind fun ⟨m,n⟩=>((QlH f i).bind fun o=>bif o then some (decide (h=j)) else some false).bind fun o=>(bif o then (QlH k m).bind fun p=>some p else some false).bind fun p=>(bif p then some (decide (l=n)) else some false).bind fun q=>some q else some true else some false:=me 384
theorem Qno a b:Qhe a b=
 (QlF a).bind fun c=>bif decide (c=0) then (bif (decide (b<(0:Int))) then some true else some (!(decide (b<(a.2.length:Int))))).bind fun d=>bif d then some (([]:List (Int)),(2:Int)) else (QfT a b).bind fun ⟨e,f,h,i,j,k,l,m,n,o,p⟩=>some (f,(0:Int)) else some (([]:List (Int)),(3:Int)):=me 385
theorem Qr1 a b:Qmv a b=
 (Qjz a).bind fun c=>bif decide (c=0) then (bif (decide (b<(0:Int))) then some true else some (!(decide (b<(a.2.length:Int))))).bind fun d=>bif d then some (([]:List (Int)),(2:Int)) else (Sy.at' a.2 b).bind fun e=>(QgC a e).bind fun f=>some (f,(0:Int)) else some (([]:List (Int)),(3:Int)):=me 386
theorem Qop a b c:Qio a b c=
 (QlF a).bind fun d=>bif decide (d=0) then bif (decide (b<(0:Int))) then some (([]:List (Int)),(2:Int)) else bif (decide (b<(a.2.length:Int))) then bif (decide (c<(0:Int))) then some (([]:List (Int)),(2:Int)) else (Sy.at' a.2 b).bind fun e=>bif (decide (c<(e.2.2.2.2.1.length:Int))) then (QfT a b).bind fun ⟨f,h,i,j,k,l,m,n,o,p,q⟩=>(QeB f h i j k l m n o p q).bind fun
   | (.inl ⟨r,s⟩)=>(Qep r s ([]:List (Bool)) ([]:List (Bool)) f h c i j k l m n o p q p).bind fun
    |.inl _=> (QaX f h i j k l m n o p q c).bind fun t=>(Qa3 r s ([]:List (Int)) t t.length 0).bind fun u=>some (u,(0:Int))
    | (.inr (.inl _))=>(QaX f h i j k l m n o p q c).bind fun t=>(Qa3 ([]:List (Bool)) ([]:List (Bool)) ([]:List (Int)) t t.length 0).bind fun u=>some (u,(0:Int))
    | (.inr (.inr ⟨t,u,v,w⟩))=>(QaX f h i j k l m n o p q c).bind fun x=>(QaS t u ([]:List (Int)) x v w x.length 0).bind fun y=>some (y,(0:Int))
   | (.inr ⟨r,s,t⟩)=>(Qdf r s ([]:List (Bool)) ([]:List (Bool)) f h c i j k l m n o p q p t).bind fun
    |.inl _=> (QaX f h i j k l m n o p q c).bind fun u=>(Qbt r s ([]:List (Int)) u t u.length 0).bind fun v=>some (v,(0:Int))
    | (.inr (.inl _))=>(QaX f h i j k l m n o p q c).bind fun u=>(Qa3 ([]:List (Bool)) ([]:List (Bool)) ([]:List (Int)) u u.length 0).bind fun v=>some (v,(0:Int))
    | (.inr (.inr ⟨u,v,w,x⟩))=>(QaX f h i j k l m n o p q c).bind fun y=>(QaS u v ([]:List (Int)) y w x y.length 0).bind fun z=>some (z,(0:Int)) else some (([]:List (Int)),(2:Int)) else some (([]:List (Int)),(2:Int)) else some (([]:List (Int)),(3:Int)):=me 387
theorem Qud a b c:Qog a b c=
 (Qjz a).bind fun d=>bif decide (d=0) then (bif (decide (b<(0:Int))) then some true else some (!(decide (b<(a.2.length:Int))))).bind fun e=>(bif e then some true else some (decide (c<(0:Int)))).bind fun f=>(bif f then some true else (Sy.at' a.2 b).bind fun h=>some (!(decide (c<(h.2.2.2.2.1.length:Int))))).bind fun h=>bif h then some (([]:List (Int)),(2:Int)) else (Sy.at' a.2 b).bind fun i=>(Qk6 i).bind fun j=>(Qco i i.2.2.2.2.2.1 c j).bind fun ⟨k,l⟩=>(QgC a i).bind fun m=>(Qoh a i m c).bind fun n=>(QcL n ([]:List (Int)) a i k 0).bind fun o=>some (o,(0:Int)) else some (([]:List (Int)),(3:Int)):=me 388
theorem Qmz a b c d e f h i j k l m n o p q r:Qep a b c d e f h i j k l m n o p q r=
 bif decide (r=h) then some (.inl ()) else (Sy.at' o r).bind fun s=>(Qf4 s).bind fun t=>(Qb3 a b c d e f h i j k l m n o p q r t t.length 0).bind fun
   |.inl _=> some (.inr (.inl ()))
   | (.inr ⟨u,v,w,x⟩)=>some (.inr (.inr (u,v,w,x))):=me 389
theorem Qlh a b c d e f h i j k l m n o p q r s:Qdf a b c d e f h i j k l m n o p q r s=
 bif decide (r=h) then some (.inl ()) else (Sy.at' o r).bind fun t=>(Qf4 t).bind fun u=>(QbB a b c d e f h i j k l m n o p q s r u u.length 0).bind fun
   |.inl _=> some (.inr (.inl ()))
   | (.inr ⟨v,w,x,y⟩)=>some (.inr (.inr (v,w,x,y))):=me 390
theorem Que a b:QlH a b=
 bif (decide ((a.length:Int)=(b.length:Int))) then (QgF a b 0).bind fun
   |.inl _=> some false
   |.inr _=> some true else some false:=me 391
theorem Qri a b c d:Qco a b c d=
 bif decide (b=c) then some (d,true) else (Sy.at' a.2.2.2.2.1 b).bind fun e=>bif (decide (e.1=(9:Int))) then (QdA a c d e.2.2.2.2.2.2.2.2.1 e.2.2.2.2.2.2.2.2.1.length 0).bind fun
   |.inl f=> some (f,true)
   |.inr _=> some (([]:List (Int)),false) else (QdK e).bind fun f=>(QdB a e c d f f.length 0).bind fun
   |.inl h=> some (h,true)
   |.inr _=> some (([]:List (Int)),false):=me 392
theorem QfC a b c d e f h i j k l m n o p q r s t u:Qb3 a b c d e f h i j k l m n o p q r s t u=
 bif decide (u<t) then (Sy.at' s u).bind fun v=>(Sy.at' o r).bind fun w=>(QdZ e f a b i j k l m n o p q w u).bind fun ⟨x,y,z,A⟩=>(Qay x y c d e f h i j k l m n o p q v z A).bind fun
   |.inl _=> some (.inr (x,y,z,A))
   | (.inr (.inl ⟨C,D,E,F⟩))=>some (.inr (C,D,E,F))
   | (.inr (.inr _))=>Qb3 a b c d e f h i j k l m n o p q r s t (Ev.wr .i64 (u+1)) else some (.inl ()):=me 393
theorem QeR a b c d e f h i j k l m n o p q r s t u v:QbB a b c d e f h i j k l m n o p q r s t u v=
 bif decide (v<u) then (Sy.at' t v).bind fun w=>(Sy.at' o s).bind fun x=>(Qda e f a b i j k l m n o p q x v r).bind fun ⟨y,z,A,C⟩=>(Qay y z c d e f h i j k l m n o p q w A C).bind fun
   |.inl _=> some (.inr (y,z,A,C))
   | (.inr (.inl ⟨D,E,F,H⟩))=>some (.inr (D,E,F,H))
   | (.inr (.inr _))=>QbB a b c d e f h i j k l m n o p q r s t u (Ev.wr .i64 (v+1)) else some (.inl ()):=me 394
theorem Qli a b c d e f h i j k l m:QaX a b c d e f h i j k l m=
 bif (decide ((i.length:Int)<(0:Int))) then none else bif (decide (((i.length:Int).toNat * (1:Nat))≤(140737488355328:Nat))) then (Qbi a b (List.replicate (i.length:Int).toNat false) c d e f h i j k l m).bind fun n=>some n else none:=me 395
theorem Quf a b c d:Qoh a b c d=
 (Sy.at' b.2.2.2.2.1 d).bind fun e=>(QfU a b e).bind fun f=>bif (decide ((f.length * (8:Nat))≤(35184372088832:Nat))) then (QjD a b e).bind fun h=>bif (decide (((f.length+h.length) * (8:Nat))≤(35184372088832:Nat))) then (Qfg ([]:List (Int)) (f++h) a b e c 0).bind fun i=>(QdK e).bind fun j=>(QdO i a b c j j.length 0).bind fun k=>some k else none else none:=me 396
theorem Qkb a b c:QgF a b c=
 bif (decide (c<(a.length:Int))) then (Sy.at' a c).bind fun d=>(Sy.at' b c).bind fun e=>bif decide (d=e) then QgF a b (Ev.wr .i64 (c+1)) else some (.inl ()) else some (.inr ()):=me 397
theorem Qh6 a b c d e f:QdA a b c d e f=
 bif decide (f<e) then (Sy.at' d f).bind fun h=>bif (decide ((c.length * (8:Nat))≤(35184372088832:Nat))) then bif (decide (((c.length+h.1.length) * (8:Nat))≤(35184372088832:Nat))) then (Qco a h.2 b (c++h.1)).bind fun ⟨i,j⟩=>bif j then some (.inl i) else QdA a b c d e (Ev.wr .i64 (f+1)) else none else none else some (.inr ()):=me 398
theorem Qh7 a b c d e f h:QdB a b c d e f h=
 bif decide (h<f) then (Sy.at' e h).bind fun i=>bif (decide ((d.length * (8:Nat))≤(35184372088832:Nat))) then (Qex b).bind fun j=>bif (decide (((d.length+j.length) * (8:Nat))≤(35184372088832:Nat))) then (Qco a i c (d++j)).bind fun ⟨k,l⟩=>bif l then some (.inl k) else QdB a b c d e f (Ev.wr .i64 (h+1)) else none else none else some (.inr ()):=me 399
theorem Qlj a b c d e f h i j k l m n o p q r s t:Qay a b c d e f h i j k l m n o p q r s t=
 bif decide (r=h) then some (.inl ()) else (Sy.at' o r).bind fun u=>(Qf4 u).bind fun v=>(QbC a b c d e f h i j k l m n o p q s t r v v.length 0).bind fun
   | (.inl ⟨w,x,y,z⟩)=>some (.inr (.inl (w,x,y,z)))
   |.inr _=> some (.inr (.inr ())):=me 400
theorem QjM a b c d e f h i j k l m n:Qbi a b c d e f h i j k l m n=
 (Sy.at' k n).bind fun o=>(Qa2 a b d e f h i j k l m o).bind fun ⟨p,q⟩=>(Qin (p::(q::([]:List (List (Int)))))).bind fun r=>(Qbf a b c d e f h i j k l m o r r.length 0).bind fun s=>(Qf4 o).bind fun t=>(Qbg a b s d e f h i j k l m t t.length 0).bind fun u=>some u:=me 401
theorem Qkc a b c d e f h:Qfg a b c d e f h=
 bif (decide (h<(b.length:Int))) then (Sy.at' b h).bind fun i=>(Sy.at' f i).bind fun j=>bif (decide (((a.length+(1:Nat)) * (8:Nat))≤(35184372088832:Nat))) then Qfg (a++(j::([]:List (Int)))) b c d e f (Ev.wr .i64 (h+1)) else none else some a:=me 402
theorem QeS a b c d e f h i j k l m n o p q r s t u v w:QbC a b c d e f h i j k l m n o p q r s t u v w=
 bif decide (w<v) then (Sy.at' u w).bind fun x=>(Sy.at' o t).bind fun y=>(Qdb e f a b i j k l m n o p q y w r s).bind fun ⟨z,A,C,D⟩=>(Qay z A c d e f h i j k l m n o p q x C D).bind fun
   |.inl _=> some (.inl (z,A,C,D))
   | (.inr (.inl ⟨E,F,H,I⟩))=>some (.inl (E,F,H,I))
   | (.inr (.inr _))=>QbC a b c d e f h i j k l m n o p q r s t u v (Ev.wr .i64 (w+1)) else some (.inr ()):=me 403
theorem QdU a b c d e f h i j k l m n o p q:Qbf a b c d e f h i j k l m n o p q=
 bif decide (q<p) then (Sy.at' o q).bind fun r=>(Sy.at' b r).bind fun s=>(Sy.at' c s).bind fun t=>Qbf a b (List.set c s.toNat true) d e f h i j k l m n o p (Ev.wr .i64 (q+1)) else some c:=me 404
theorem Qkd a b c d e f h:QdO a b c d e f h=
 bif decide (h<f) then (Sy.at' e h).bind fun i=>(QeK a b c d i).bind fun
   |.inl _=> QdO a b c d e f (Ev.wr .i64 (h+1))
   |.inr j=> QdO j b c d e f (Ev.wr .i64 (h+1)) else some a:=me 405
theorem QdV a b c d e f h i j k l m n o p:Qbg a b c d e f h i j k l m n o p=
 bif decide (p<o) then (Sy.at' n p).bind fun q=>(Qbi a b c d e f h i j k l m q).bind fun r=>Qbg a b r d e f h i j k l m n o (Ev.wr .i64 (p+1)) else some c:=me 406
theorem Qrj a b c d e:QeK a b c d e=
 (Sy.at' c.2.2.2.2.1 e).bind fun f=>(QfU b c f).bind fun h=>bif (decide ((h.length * (8:Nat))≤(35184372088832:Nat))) then (QjD b c f).bind fun i=>bif (decide (((h.length+i.length) * (8:Nat))≤(35184372088832:Nat))) then (Qhf a (h++i) b c f d 0).bind fun
   |.inl _=> (QdK f).bind fun j=>(QdC a b c d j j.length 0).bind fun
    |.inl _=> some (.inl ())
    |.inr k=> some (.inr k)
   |.inr j=> (QdK f).bind fun k=>(Qb4 j b c d k k.length 0).bind fun l=>some (.inr l) else none else none:=me 407
theorem Qh8 a b c d e f h:Qhf a b c d e f h=
 bif (decide (h<(b.length:Int))) then (Sy.at' b h).bind fun i=>(Sy.at' f i).bind fun j=>bif (decide (((a.length+(1:Nat)) * (8:Nat))≤(35184372088832:Nat))) then (Qfh (a++(j::([]:List (Int)))) b c d e f (Ev.wr .i64 (h+1))).bind fun k=>some (.inr k) else none else some (.inl ()):=me 408
theorem Qke a b c d e f:QcL a b c d e f=
 bif (decide (f<(d.2.2.2.1.length:Int))) then ((Qnl a f).bind fun h=>bif h then (Qmu c d e).bind fun i=>(Qnl i f).bind fun j=>some j else some false).bind fun h=>bif h then bif (decide (((b.length+(1:Nat)) * (8:Nat))≤(35184372088832:Nat))) then QcL a (b++(f::([]:List (Int)))) c d e (Ev.wr .i64 (f+1)) else none else QcL a b c d e (Ev.wr .i64 (f+1)) else some b:=me 409
theorem Qh9 a b c d e f h:Qfh a b c d e f h=
 bif (decide (h<(b.length:Int))) then (Sy.at' b h).bind fun i=>(Sy.at' f i).bind fun j=>bif (decide (((a.length+(1:Nat)) * (8:Nat))≤(35184372088832:Nat))) then Qfh (a++(j::([]:List (Int)))) b c d e f (Ev.wr .i64 (h+1)) else none else some a:=me 410
theorem Qia a b c d e f h:QdC a b c d e f h=
 bif decide (h<f) then (Sy.at' e h).bind fun i=>(QeK a b c d i).bind fun
   |.inl _=> QdC a b c d e f (Ev.wr .i64 (h+1))
   |.inr j=> (Qb4 j b c d e f (Ev.wr .i64 (h+1))).bind fun k=>some (.inr k) else some (.inl ()):=me 411
theorem Qgo a b c d e f:Qa3 a b c d e f=
 bif decide (f<e) then (Sy.at' d f).bind fun h=>(bif h then (Sy.at' b f).bind fun i=>some i else some false).bind fun i=>bif i then bif (decide (((c.length+(1:Nat)) * (8:Nat))≤(35184372088832:Nat))) then Qa3 a b (c++(f::([]:List (Int)))) d e (Ev.wr .i64 (f+1)) else none else Qa3 a b c d e (Ev.wr .i64 (f+1)) else some c:=me 412
theorem QfD a b c d e f h i:QaS a b c d e f h i=
 bif decide (i<h) then (Sy.at' d i).bind fun j=>(bif j then bif (decide (i<(0:Int))) then none else bif (decide (i<(f:Int))) then (Sy.at' b i).bind fun k=>some k else none else some false).bind fun k=>bif k then bif (decide (((c.length+(1:Nat)) * (8:Nat))≤(35184372088832:Nat))) then QaS a b (c++(i::([]:List (Int)))) d e f h (Ev.wr .i64 (i+1)) else none else QaS a b c d e f h (Ev.wr .i64 (i+1)) else some c:=me 413
theorem QfE a b c d e f h:Qbt a b c d e f h=
 bif decide (h<f) then (Sy.at' d h).bind fun i=>(bif i then bif (decide (h<(0:Int))) then none else bif (decide (h<(e:Int))) then (Sy.at' b h).bind fun j=>some j else none else some false).bind fun j=>bif j then bif (decide (((c.length+(1:Nat)) * (8:Nat))≤(35184372088832:Nat))) then Qbt a b (c++(h::([]:List (Int)))) d e f (Ev.wr .i64 (h+1)) else none else Qbt a b c d e f (Ev.wr .i64 (h+1)) else some c:=me 414
theorem Qib a b c d e f h:Qb4 a b c d e f h=
 bif decide (h<f) then (Sy.at' e h).bind fun i=>(QeK a b c d i).bind fun
   |.inl _=> Qb4 a b c d e f (Ev.wr .i64 (h+1))
   |.inr j=> Qb4 j b c d e f (Ev.wr .i64 (h+1)) else some a:=me 415
theorem Qr2 (s sep:List UInt8):strings_Cut s sep=cutM s sep:=QE5 ctx tb G 2 (by kernel_rfl) (s,sep)
theorem Qrk (s cs:List UInt8):QoW s cs=Qw6 s cs:=QE5 ctx tb G 3 (by kernel_rfl) (s,cs)
end
end Go.Proofs.YtkecfadnfnnfaaaGreatDoor.LabB
