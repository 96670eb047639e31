/- The models of this program's functions and loops, and their equations. -/
import Derived.Test.YtkecfadnfnnfaaaGreatDoorFamB
import Derived.Test.YtkecfadnfnnfaaaGreatDoorSyW
import Derived.KernelRfl
set_option maxRecDepth 100000
set_option linter.all false
namespace Go.Proofs.YtkecfadnfnnfaaaGreatDoor.LabB
open Go Go.Ev Go.Sy
abbrev Qx2:Type:=(List UInt8)×(Int)
abbrev GVar:Type:=(Int)×(Bool)
abbrev QFn:Type:=(Int)×(Int)
abbrev QbB:Type:=(List (Int))×(Int)
abbrev GCon:Type:=(List UInt8)×(List (Int))
abbrev QIu:Type:=(List (Bool))×(List (Bool))
abbrev QFo:Type:=(Int)×((Int)×((Bool)×(Int)))
abbrev Qaj:Type:=(List UInt8)×(List (GCon))
abbrev QIa:Type:=(List (Bool))×((List (Bool))×((Int)×(Int)))
abbrev QCO:Type:=(Int)×((Bool)×((Bool)×((Bool)×((Bool)×((Bool)×((Bool)×((Bool)×(Bool))))))))
abbrev Qag:Type:=(Int)×((Int)×((List (Int))×((Int)×((Int)×((Int)×((List (Int))×((Bool)×((List (QbB))×(Int)))))))))
abbrev GFun:Type:=(List UInt8)×((Int)×((Int)×((List (GVar))×((List (Qag))×(GVar)))))
abbrev QIv:Type:=(GFun)×((List (Int))×(Bool))
abbrev Qad:Type:=(List (Qaj))×(List (GFun))
abbrev QIb:Type:=(GFun)×((List (Int))×((List (Int))×((List (Int))×(GVar))))
abbrev Gfun:Type:=(Qad)×((GFun)×((List (Bool))×(List (Int))))
abbrev Qg3:Type:=(Qad)×((GFun)×((List (Int))×((Bool)×((Int)×(Int)))))
abbrev QIc:Type:=(Qad)×((GFun)×((List (Bool))×(QIu)))
abbrev QIw:Type:=(Qad)×((GFun)×((List (Int))×(List (Qag))))
theorem P2:tb.P 2=[.str,.str]:=by kernel_rfl
theorem O2':tb.O 2=[[.str,.str,.bool]]:=by kernel_rfl
theorem P3:tb.P 3=[.str,.str]:=by kernel_rfl
theorem O3':tb.O 3=[[.str]]:=by kernel_rfl
theorem QIx:tb.O 254=[[.bool]]:=by kernel_rfl
def G2:Pr (tb.P 2)→Option (Sm (tb.O 2)):=fun x=>O2'▸(let y:List UInt8×List UInt8:=(P2▸x:Pr [.str,.str]); (cutM y.1 y.2:Option (Sm [[.str,.str,.bool]])))
def G3:Pr (tb.P 3)→Option (Sm (tb.O 3)):=fun x=>O3'▸(let y:List UInt8×List UInt8:=(P3▸x:Pr [.str,.str]); (Qx1 y.1 y.2:Option (Sm [[.str]])))
def G254:Pr (tb.P 254)→Option (Sm (tb.O 254)):=fun _=>QIx▸(some true:Option (Sm [[.bool]]))
noncomputable section
noncomputable def G:Mod tb:=fun i=>match i with |2=>G2 |3=>G3 |254=>G254 |_=>fun _=>none
theorem me (i:Nat){x:Pr (tb.P i)}{r:Option (Sm (tb.O i))}(h:(tb.fam i).ext=false:=by kernel_rfl)(e:(body ctx tb i).den tb.P tb.O (M ctx tb G) (tb.O i) (env0 (tb.P i) x)=r:=by kernel_rfl):M ctx tb G i x=r:=(M_eq ctx tb G i h x).trans e
def strings_Cut (a b:List UInt8):Option (List UInt8×List UInt8×Bool):=M ctx tb G 2 (a,b)
def QpY (a b:List UInt8):Option (List UInt8):=M ctx tb G 3 (a,b)
def QmI (a:Qad):Option Int:=M ctx tb G 8 a
def QkC (a:Qad):Option Int:=M ctx tb G 12 a
def Qnq (a:List Qaj):Option Int:=M ctx tb G 13 a
def Qf3 (a:Qad)(b c:Int):Option (Unit⊕Int):=M ctx tb G 15 (a,b,c)
def Qnr (a:List Qaj):Option Int:=M ctx tb G 18 a
def Qpb (a:List Qaj):Option Bool:=M ctx tb G 19 a
def QeR (a:Qad)(b:Int):Option (Unit⊕Int):=M ctx tb G 21 (a,b)
def QlZ (a:List Qaj):Option Bool:=M ctx tb G 22 a
def QkD (a:Qad)(b:Int):Option (Int×Int):=M ctx tb G 24 (a,b)
def Qpc (a:List Qaj):Option Bool:=M ctx tb G 27 a
def QhB (a:List Qaj)(b c:Int):Option (Unit⊕Unit):=M ctx tb G 28 (a,b,c)
def Qns (a:List Qaj):Option Bool:=M ctx tb G 29 a
def Ql0 (a:List Qaj):Option Bool:=M ctx tb G 30 a
def Qjm (a:Qad)(b:Int):Option (Int×Int):=M ctx tb G 32 (a,b)
def QdZ (a:List Qaj)(b c:Int):Option (Unit⊕Unit):=M ctx tb G 33 (a,b,c)
def Qfp (a b c:List Bool)(d:List Qaj)(e:List GFun)(f:List UInt8)(h i:Int)(j:List GVar)(k:List Qag)(l:Int)(m:Bool)(n:Int):Option Int:=M ctx tb G 35 (a,b,c,d,e,f,h,i,j,k,l,m,n)
def QhC (a:List Qaj)(b:Int):Option (Unit⊕Unit):=M ctx tb G 37 (a,b)
def QeJ (a:List GCon):Option Bool:=M ctx tb G 38 a
def QeS (a b:List Qaj)(c d:Int):Option (Unit⊕Unit):=M ctx tb G 40 (a,b,c,d)
def Qnt (a:List Qaj):Option Bool:=M ctx tb G 41 a
def QeT (a b:List (List UInt8×Bool))(c:List Qaj)(d e:Int):Option (Unit⊕Unit):=M ctx tb G 43 (a,b,c,d,e)
def Qd0 (a:List Qaj)(b:Int):Option (Unit⊕Unit):=M ctx tb G 44 (a,b)
def Ql1 (a:Qad)(b:Int):Option Int:=M ctx tb G 46 (a,b)
def QmJ (a:List UInt8):Option Bool:=M ctx tb G 47 a
def QrZ (a:List UInt8):Option Bool:=M ctx tb G 49 a
def Qf4 (a:List Qaj)(b c:Int):Option (Unit⊕Unit):=M ctx tb G 51 (a,b,c)
def QjN (a:List GCon):Option Int:=M ctx tb G 52 a
def Qnu (a:List Qaj):Option Bool:=M ctx tb G 53 a
def Qc4 (a b:List Bool)(c:List Int)(d:Qad)(e:GFun)(f h i:Int):Option (List Int):=M ctx tb G 54 (a,b,c,d,e,f,h,i)
def QdG (a:List GCon):Option Bool:=M ctx tb G 55 a
def QbD (a b c:List Bool)(d:List Qaj)(e:List GFun)(f:List UInt8)(h i:Int)(j:List GVar)(k:List Qag)(l:Int)(m:Bool)(n:GFun)(o:List GFun)(p q:Int):Option (Unit⊕Unit):=M ctx tb G 56 (a,b,c,d,e,f,h,i,j,k,l,m,n,o,p,q)
def QgP (a b:List Qaj)(c d:Int)(e:List GCon)(f h:Int):Option (Unit⊕Unit):=M ctx tb G 58 (a,b,c,d,e,f,h)
def QeU (a b:List (List UInt8))(c:List Qaj)(d:Int):Option (Unit⊕Unit):=M ctx tb G 59 (a,b,c,d)
def QeV (a b:List (List UInt8×Bool))(c:List Qaj)(d e:Int)(f:List GCon)(h i:Int):Option (Unit⊕List (List UInt8×Bool)):=M ctx tb G 61 (a,b,c,d,e,f,h,i)
def QiN (a:List UInt8):Option Bool:=M ctx tb G 62 a
def Qpd (a:List UInt8):Option Bool:=M ctx tb G 64 a
def Qde (a:List UInt8)(b c:Int):Option (Unit⊕Unit):=M ctx tb G 65 (a,b,c)
def QiO (a:List UInt8)(b c:Int):Option Bool:=M ctx tb G 66 (a,b,c)
def Qc1 (a:List GCon)(b c:Int):Option (Unit⊕Int):=M ctx tb G 68 (a,b,c)
def Ql2 (a:List Qaj):Option Bool:=M ctx tb G 69 a
def Ql3 (a:List Qaj):Option Bool:=M ctx tb G 70 a
def Qd1 (a:List Qaj)(b c:Int):Option (Unit⊕Unit):=M ctx tb G 71 (a,b,c)
def Qd2 (a:Qad)(b:GFun)(c d:Int):Option (Unit⊕Unit):=M ctx tb G 72 (a,b,c,d)
def QgQ (a:List Qaj)(b:Int):Option (Unit⊕Unit):=M ctx tb G 73 (a,b)
def Qh7 (a:List GCon):Option Int:=M ctx tb G 74 a
def QdH (a:List Qaj)(b:List Int):Option Bool:=M ctx tb G 76 (a,b)
def QqB (a:List (List UInt8))(b:List UInt8):Option Bool:=M ctx tb G 77 (a,b)
def Qct (a:List UInt8)(b:Int):Option (Unit⊕Unit):=M ctx tb G 78 (a,b)
def Qf5 (a:List UInt8)(b:Int):Option (Unit⊕Bool):=M ctx tb G 79 (a,b)
def QpZ (a:GCon):Option Bool:=M ctx tb G 81 a
def Qd3 (a b:List Bool)(c:List Int)(d e:Int)(f:Qad)(h:GFun)(i:Int):Option (List Bool×List Bool×Int×Int):=M ctx tb G 82 (a,b,c,d,e,f,h,i)
def Qfq (a b c:List Bool)(d:List Qaj)(e:List GFun)(f:List UInt8)(h i:Int)(j:List GVar)(k:List Qag)(l:Int)(m:Bool)(n:Int):Option Bool:=M ctx tb G 83 (a,b,c,d,e,f,h,i,j,k,l,m,n)
def QeW (a b:List (List UInt8))(c:List Qaj)(d e:Int):Option (Unit⊕List (List UInt8)):=M ctx tb G 86 (a,b,c,d,e)
def Qf6 (a:List Bool)(b:List Qaj)(c:Bool):Option (List Bool):=M ctx tb G 87 (a,b,c)
def Qd4 (a:List Bool)(b:List Qaj)(c:Int):Option (List Bool):=M ctx tb G 88 (a,b,c)
def QgR (a:List Qaj)(b c:Int):Option (Unit⊕Unit):=M ctx tb G 89 (a,b,c)
def QcG (a:List GCon)(b c:Int):Option (Unit⊕Int):=M ctx tb G 90 (a,b,c)
def Qh8 (a:List Qaj)(b:List Int):Option Int:=M ctx tb G 92 (a,b)
def QkE (a:List (List UInt8))(b:List UInt8)(c:Int):Option (Unit⊕Unit):=M ctx tb G 93 (a,b,c)
def QjO (a:List UInt8)(b c:Int):Option Bool:=M ctx tb G 94 (a,b,c)
def Qdq (a b c:List Bool)(d:GFun)(e:List Qaj)(f:List GFun)(h:List UInt8)(i j:Int)(k:List GVar)(l:List Qag)(m:Int)(n:Bool)(o p:Int):Option (List Bool×List Bool):=M ctx tb G 96 (a,b,c,d,e,f,h,i,j,k,l,m,n,o,p)
def Qd5 (a:Qad)(b:Int):Option Bool:=M ctx tb G 97 (a,b)
def Qhj (a b:List Bool)(c:List Int)(d e:Int)(f:Qad)(h:GFun)(i:Qag):Option (List Bool×Int):=M ctx tb G 99 (a,b,c,d,e,f,h,i)
def Qc5 (a:List Bool)(b:List Qaj)(c:Bool)(d e:Int):Option (List Bool×Bool):=M ctx tb G 101 (a,b,c,d,e)
def Qd6 (a:List Bool)(b:List Qaj)(c d:Int):Option (List Bool):=M ctx tb G 102 (a,b,c,d)
def QgS (a:List Qaj)(b c:Int)(d:List Int)(e:Int):Option (Unit⊕Unit):=M ctx tb G 103 (a,b,c,d,e)
def QmZ (a:GCon):Option Bool:=M ctx tb G 104 a
def QcH (a:List Qaj)(b:List Int)(c d:Int):Option (Unit⊕Int):=M ctx tb G 106 (a,b,c,d)
def Qf7 (a:List UInt8)(b:Int):Option (Unit⊕Unit):=M ctx tb G 107 (a,b)
def QdI (a b c:List Bool)(d:List Qaj)(e:List GFun)(f:List UInt8)(h i:Int)(j:List GVar)(k:List Qag)(l:Int)(m:Bool)(n:List GVar):Option Bool:=M ctx tb G 108 (a,b,c,d,e,f,h,i,j,k,l,m,n)
def QbV (a:Qad)(b:GFun)(c:Int):Option (Unit⊕Unit):=M ctx tb G 110 (a,b,c)
def Qdr (a:List Bool)(b:Bool):Option Bool:=M ctx tb G 111 (a,b)
def Qd7 (a:List Bool)(b:Int):Option (Unit⊕Unit):=M ctx tb G 112 (a,b)
def Qpe (a:Qag):Option Bool:=M ctx tb G 115 a
def QdJ (a:List Bool)(b:List GCon):Option Bool:=M ctx tb G 117 (a,b)
def Qd8 (a:List Bool)(b:List Qaj)(c d e:Int):Option (List Bool):=M ctx tb G 118 (a,b,c,d,e)
def QiP (a:List Qaj)(b:Int):Option Bool:=M ctx tb G 119 (a,b)
def Qom (a:List Qaj)(b:Int):Option Bool:=M ctx tb G 121 (a,b)
def Ql4 (a:Int):Option Bool:=M ctx tb G 122 a
def Qc6 (a b c:List Bool)(d:List Qaj)(e:List GFun)(f:List UInt8)(h i:Int)(j:List GVar)(k:List Qag)(l:Int)(m:Bool)(n:Int):Option (List Bool×List Bool×List Bool×Int×Int):=M ctx tb G 123 (a,b,c,d,e,f,h,i,j,k,l,m,n)
def Qpf (a:Qag):Option (List Int):=M ctx tb G 126 a
def Qh9 (a b c:List Bool)(d:List Qaj)(e:List GFun)(f:List UInt8)(h i:Int)(j:List GVar)(k:List Qag)(l:Int)(m:Bool)(n:List GVar):Option Int:=M ctx tb G 128 (a,b,c,d,e,f,h,i,j,k,l,m,n)
def QhD (a:List Bool)(b:Bool):Option Int:=M ctx tb G 130 (a,b)
def Qia (a:List Bool)(b:List GCon):Option Int:=M ctx tb G 133 (a,b)
def Qd9 (a:List Bool)(b:List Qaj)(c d e:Int)(f:Bool)(h:List Int)(i:Int):Option Bool:=M ctx tb G 134 (a,b,c,d,e,f,h,i)
def QiQ (a:List Qaj)(b:Int):Option Bool:=M ctx tb G 135 (a,b)
def Qbq (a:Qad)(b:GFun)(c:Int):Option (Unit⊕Unit):=M ctx tb G 136 (a,b,c)
def Qcu (a:List Int)(b c:List Bool)(d e:Int)(f:Qad)(h:GFun)(i:Qag)(j:List Int)(k:Int):Option (Unit⊕Unit):=M ctx tb G 138 (a,b,c,d,e,f,h,i,j,k)
def Qf8 (a b c:List Bool)(d:List Qaj)(e:List GFun)(f:List UInt8)(h i:Int)(j:List GVar)(k:List Qag)(l:Int)(m:Bool)(n:Qag):Option (List Bool×Int):=M ctx tb G 140 (a,b,c,d,e,f,h,i,j,k,l,m,n)
def Qey (a:List Int)(b:Qag)(c:Int):Option (List Int):=M ctx tb G 142 (a,b,c)
def QcI (a b c:List Bool)(d:List Qaj)(e:List GFun)(f:List UInt8)(h i:Int)(j:List GVar)(k:List Qag)(l:Int)(m:Bool)(n:List GVar)(o p:Int):Option (Unit⊕Int):=M ctx tb G 143 (a,b,c,d,e,f,h,i,j,k,l,m,n,o,p)
def Qds (a:List Bool)(b:Bool)(c d:Int):Option (Int⊕Unit):=M ctx tb G 145 (a,b,c,d)
def QcJ (a:List Bool)(b:List GCon)(c d:Int):Option (Unit⊕Int):=M ctx tb G 146 (a,b,c,d)
def QgK (a:Qag):Option (List Int):=M ctx tb G 149 a
def QgL (a:List Qaj)(b:Int):Option Bool:=M ctx tb G 150 (a,b)
def QuZ (a:List Int)(b:Int):Option Bool:=M ctx tb G 152 (a,b)
def Qr0 (a:Qag):Option Bool:=M ctx tb G 153 a
def Qg4 (a b c:List Bool)(d:List Qaj)(e:List GFun)(f:List UInt8)(h i:Int)(j:List GVar)(k:List Qag)(l:Int)(m:Bool)(n:GVar):Option Bool:=M ctx tb G 155 (a,b,c,d,e,f,h,i,j,k,l,m,n)
def Qm0 (a:List Bool)(b:GCon):Option Bool:=M ctx tb G 157 (a,b)
def Qea (a:Qag):Option (List Int):=M ctx tb G 158 a
def Qez (a:List Int)(b:Qag)(c:Int):Option (List Int):=M ctx tb G 161 (a,b,c)
def Qr1 (a:Qag):Option (List Int):=M ctx tb G 162 a
def QfD (a:Qag):Option (List Int):=M ctx tb G 166 a
def Qf9 (a:List Int)(b:Qag)(c:Int):Option (List Int):=M ctx tb G 167 (a,b,c)
def QhE (a:List Qaj)(b c:Int):Option (Unit⊕Unit):=M ctx tb G 168 (a,b,c)
def QkF (a:List Int)(b c:Int):Option (Unit⊕Unit):=M ctx tb G 169 (a,b,c)
def Qpg (a:Int):Option (QCO×Bool):=M ctx tb G 170 a
def QdK (a:List Bool)(b:List Int):Option Bool:=M ctx tb G 172 (a,b)
def Qcv (a:List Int)(b c:List Bool)(d e:Int)(f:Qad)(h:GFun)(i:Qag)(j:List Int)(k:Int):Option (Unit⊕Unit):=M ctx tb G 173 (a,b,c,d,e,f,h,i,j,k)
def QbW (a b c:List Bool)(d:List Qaj)(e:List GFun)(f:List UInt8)(h i:Int)(j:List GVar)(k:List Qag)(l:Int)(m:Bool)(n:Qag)(o:List Int)(p q:Int):Option (Unit⊕Unit):=M ctx tb G 175 (a,b,c,d,e,f,h,i,j,k,l,m,n,o,p,q)
def Qib (a:Qag):Option (List Int):=M ctx tb G 177 a
def QeX (a:List Int)(b:Qag)(c:Int):Option (List Int):=M ctx tb G 179 (a,b,c)
def QfE (a b:List Int)(c d:Int):Option (List Int):=M ctx tb G 182 (a,b,c,d)
def Qga (a:List Int)(b:List QbB)(c d:Int):Option (List Int):=M ctx tb G 186 (a,b,c,d)
def Qph:Option Unit:=M ctx tb G 187 ()
def Qic (a:List Bool)(b:List Int):Option Int:=M ctx tb G 189 (a,b)
def QdL (a b c:List Bool)(d:List Qaj)(e:List GFun)(f:List UInt8)(h i:Int)(j:List GVar)(k:List Qag)(l:Int)(m:Bool)(n:List GVar):Option Bool:=M ctx tb G 190 (a,b,c,d,e,f,h,i,j,k,l,m,n)
def QcW (a:List Int)(b c:List Bool)(d e:Int)(f:Qad)(h:GFun)(i:Qag)(j:List Int)(k:Int):Option (List Bool⊕List Bool):=M ctx tb G 191 (a,b,c,d,e,f,h,i,j,k)
def Qg5 (a:List Int)(b:List QbB)(c d:Int):Option (List Int):=M ctx tb G 193 (a,b,c,d)
def QcK (a:List Bool)(b:List Int)(c d:Int):Option (Unit⊕Int):=M ctx tb G 197 (a,b,c,d)
def QeA (a b:List Bool)(c:GFun)(d e f:Int):Option (Int⊕Unit):=M ctx tb G 198 (a,b,c,d,e,f)
def QaV (a:List Int)(b c:List Bool)(d e:Int)(f:Qad)(h:GFun)(i:Qag)(j:List Int)(k:Int):Option (List Bool⊕List Bool):=M ctx tb G 199 (a,b,c,d,e,f,h,i,j,k)
def QbX (a b c:List Bool)(d:List Qaj)(e:List GFun)(f:List UInt8)(h i:Int)(j:List GVar)(k:List Qag)(l:Int)(m:Bool)(n:Qag)(o p:List Int)(q r:Int):Option (Unit⊕Unit):=M ctx tb G 201 (a,b,c,d,e,f,h,i,j,k,l,m,n,o,p,q,r)
def Qid (a b c:List Bool)(d:List Qaj)(e:List GFun)(f:List UInt8)(h i:Int)(j:List GVar)(k:List Qag)(l:Int)(m:Bool)(n:List GVar):Option Int:=M ctx tb G 203 (a,b,c,d,e,f,h,i,j,k,l,m,n)
def QkW (a:List Bool)(b:Int):Option Bool:=M ctx tb G 206 (a,b)
def QcX (a:List Int)(b c:List Bool)(d e:Int)(f:Qad)(h:GFun)(i:Qag)(j:List Int)(k:Int):Option (List Bool×List Bool×Int×Int⊕List Bool×List Bool×Int×Int):=M ctx tb G 207 (a,b,c,d,e,f,h,i,j,k)
def QaR (a b c:List Bool)(d:List Qaj)(e:List GFun)(f:List UInt8)(h i:Int)(j:List GVar)(k:List Qag)(l:Int)(m:Bool)(n:Qag)(o:Int)(p q:List Int)(r s:Int):Option (List Bool⊕List Bool):=M ctx tb G 208 (a,b,c,d,e,f,h,i,j,k,l,m,n,o,p,q,r,s)
def QcL (a b c:List Bool)(d:List Qaj)(e:List GFun)(f:List UInt8)(h i:Int)(j:List GVar)(k:List Qag)(l:Int)(m:Bool)(n:List GVar)(o p:Int):Option (Unit⊕Int):=M ctx tb G 210 (a,b,c,d,e,f,h,i,j,k,l,m,n,o,p)
def Qc7 (a b:List Bool)(c:GFun)(d e f:Int):Option (Unit⊕Unit):=M ctx tb G 211 (a,b,c,d,e,f)
def Qfr (a:Qad)(b:GFun)(c:Qag):Option Bool:=M ctx tb G 212 (a,b,c)
def QaG (a b c:List Bool)(d:List Qaj)(e:List GFun)(f:List UInt8)(h i:Int)(j:List GVar)(k:List Qag)(l:Int)(m:Bool)(n:Qag)(o p:List Int)(q r:Int):Option (List Bool⊕List Bool):=M ctx tb G 214 (a,b,c,d,e,f,h,i,j,k,l,m,n,o,p,q,r)
def Qg6 (a b c:List Bool)(d:List Qaj)(e:List GFun)(f:List UInt8)(h i:Int)(j:List GVar)(k:List Qag)(l:Int)(m:Bool)(n:GVar):Option Bool:=M ctx tb G 216 (a,b,c,d,e,f,h,i,j,k,l,m,n)
def Qfs (a:Qad)(b:GFun)(c:Qag):Option Bool:=M ctx tb G 217 (a,b,c)
def Qcc (a b c:List Bool)(d:List Qaj)(e:List GFun)(f:List UInt8)(h i:Int)(j:List GVar)(k:List Qag)(l:Int)(m:Bool)(n:Qag)(o:List Int)(p q:Int):Option (List Bool×List Bool×List Bool⊕List Bool×List Bool×List Bool×Int×Int):=M ctx tb G 218 (a,b,c,d,e,f,h,i,j,k,l,m,n,o,p,q)
def Qbx (a:GFun)(b:Int):Option Int:=M ctx tb G 219 (a,b)
def Qg7 (a:Qad)(b:GFun)(c:Int)(d:List Int):Option Bool:=M ctx tb G 220 (a,b,c,d)
def Qg8 (a:Qad)(b:GFun)(c d:Int)(e:List Int)(f:Int):Option Bool:=M ctx tb G 221 (a,b,c,d,e,f)
def QhK (a:List Qaj)(b:Int):Option Bool:=M ctx tb G 222 (a,b)
def Qa0 (a b c:List Bool)(d:List Qaj)(e:List GFun)(f:List UInt8)(h i:Int)(j:List GVar)(k:List Qag)(l:Int)(m:Bool)(n:Qag):Option Bool:=M ctx tb G 223 (a,b,c,d,e,f,h,i,j,k,l,m,n)
def Qdz (a:Qad)(b:GFun)(c:Qag)(d e:Int):Option (Unit⊕Unit):=M ctx tb G 224 (a,b,c,d,e)
def QdA (a:Qad)(b:GFun)(c:Qag)(d:List Int)(e:Int):Option (Unit⊕Unit):=M ctx tb G 225 (a,b,c,d,e)
def Qcd (a b c:List Bool)(d:List Qaj)(e:List GFun)(f:List UInt8)(h i:Int)(j:List GVar)(k:List Qag)(l:Int)(m:Bool)(n:Qag)(o:Int)(p q:List Int)(r s:Int)(t:List Int)(u v:Int):Option (List Bool):=M ctx tb G 226 (a,b,c,d,e,f,h,i,j,k,l,m,n,o,p,q,r,s,t,u,v)
def Qgb (a b:GFun)(c:List Int)(d:Int):Option (Unit⊕Unit):=M ctx tb G 227 (a,b,c,d)
def Qeb (a:Qad)(b:GFun)(c d:Int)(e:List Int)(f h:Int):Option (Unit⊕Unit):=M ctx tb G 228 (a,b,c,d,e,f,h)
def Qpi (a:List Qaj)(b:Int):Option (List GCon):=M ctx tb G 229 (a,b)
def QdM (a:List GCon):Option Bool:=M ctx tb G 231 a
def Qay (a b c:List Bool)(d:List Qaj)(e:List GFun)(f:List UInt8)(h i:Int)(j:List GVar)(k:List Qag)(l:Int)(m:Bool)(n:Int):Option Int:=M ctx tb G 232 (a,b,c,d,e,f,h,i,j,k,l,m,n)
def QdR (a b c:List Bool)(d:List Int)(e:List Qaj)(f:List GFun)(h:List UInt8)(i j:Int)(k:List GVar)(l:List Qag)(m:Int)(n:Bool)(o:List Int)(p:Int):Option Bool:=M ctx tb G 233 (a,b,c,d,e,f,h,i,j,k,l,m,n,o,p)
def Qce (a b c:List Bool)(d:List Qaj)(e:List GFun)(f:List UInt8)(h i:Int)(j:List GVar)(k:List Qag)(l:Int)(m:Bool)(n:Int):Option Bool:=M ctx tb G 234 (a,b,c,d,e,f,h,i,j,k,l,m,n)
def Qc8 (a b c:List Bool)(d:List Qaj)(e:List GFun)(f:List UInt8)(h i:Int)(j:List GVar)(k:List Qag)(l:Int)(m:Bool)(n:Int)(o:List Int):Option Bool:=M ctx tb G 235 (a,b,c,d,e,f,h,i,j,k,l,m,n,o)
def Qdf (a b c:List Bool)(d:List Qaj)(e:List GFun)(f:List UInt8)(h i:Int)(j:List GVar)(k:List Qag)(l:Int)(m:Bool)(n o:Int):Option (Unit⊕List Int):=M ctx tb G 236 (a,b,c,d,e,f,h,i,j,k,l,m,n,o)
def Qcf (a b c:List Bool)(d:List Qaj)(e:List GFun)(f:List UInt8)(h i:Int)(j:List GVar)(k:List Qag)(l:Int)(m:Bool)(n:Qag)(o:List Int)(p q:Int)(r:List Int)(s t:Int):Option (List Bool):=M ctx tb G 237 (a,b,c,d,e,f,h,i,j,k,l,m,n,o,p,q,r,s,t)
def Qie (a:List GCon):Option Int:=M ctx tb G 239 a
def QbY (a b c:List Bool)(d:List Int)(e:List Qaj)(f:List GFun)(h:List UInt8)(i j:Int)(k:List GVar)(l:List Qag)(m:Int)(n:Bool)(o:Int)(p:List Int)(q r:Int):Option (Unit⊕Unit):=M ctx tb G 240 (a,b,c,d,e,f,h,i,j,k,l,m,n,o,p,q,r)
def Qft (a b c:List Bool)(d:List Qaj)(e:List GFun)(f:List UInt8)(h i:Int)(j:List GVar)(k:List Qag)(l:Int)(m:Bool)(n:Int):Option (List Int×Bool):=M ctx tb G 241 (a,b,c,d,e,f,h,i,j,k,l,m,n)
def Qcg (a b c:List Bool)(d:List Qaj)(e:List GFun)(f:List UInt8)(h i:Int)(j:List GVar)(k:List Qag)(l:Int)(m:Bool)(n o:List Int)(p:Int):Option Bool:=M ctx tb G 242 (a,b,c,d,e,f,h,i,j,k,l,m,n,o,p)
def Qa5 (a b c:List Bool)(d:List Qaj)(e:List GFun)(f:List UInt8)(h i:Int)(j:List GVar)(k:List Qag)(l:Int)(m:Bool)(n:Int)(o:List QbB)(p q:Int):Option (Unit⊕Unit):=M ctx tb G 243 (a,b,c,d,e,f,h,i,j,k,l,m,n,o,p,q)
def QcM (a:List GCon)(b c:Int):Option (Unit⊕Int):=M ctx tb G 244 (a,b,c)
def QbE (a b c:List Bool)(d:List Int)(e:List Qaj)(f:List GFun)(h:List UInt8)(i j:Int)(k:List GVar)(l:List Qag)(m:Int)(n:Bool)(o:List GVar)(p q:Int):Option (List Int):=M ctx tb G 245 (a,b,c,d,e,f,h,i,j,k,l,m,n,o,p,q)
def Qas (a b c:List Bool)(d:List Qaj)(e:List GFun)(f:List UInt8)(h i:Int)(j:List GVar)(k:List Qag)(l:Int)(m:Bool)(n:Qag)(o:List Int)(p q:Int):Option (Unit⊕Unit):=M ctx tb G 246 (a,b,c,d,e,f,h,i,j,k,l,m,n,o,p,q)
def Qbr (a b c:List Bool)(d:List Qaj)(e:List GFun)(f:List UInt8)(h i:Int)(j:List GVar)(k:List Qag)(l:Int)(m:Bool)(n:List Int)(o:Int)(p:List Int)(q r:Int):Option (Unit⊕Unit):=M ctx tb G 247 (a,b,c,d,e,f,h,i,j,k,l,m,n,o,p,q,r)
def Qp0 (a:GCon):Option Bool:=M ctx tb G 248 a
def Qnv:Option Bool:=M ctx tb G 254 ()
def Qec (a:Qad)(b:Int):Option Bool:=M ctx tb G 255 (a,b)
def Qr2 (a:Qad):Option Bool:=M ctx tb G 256 a
def Qif (a:Qad)(b:Int):Option (Int×Int):=M ctx tb G 257 (a,b)
def Qg9 (a:Qad)(b:Int):Option (Unit⊕Unit):=M ctx tb G 258 (a,b)
def Qnw (a:Qad)(b:Int):Option (Int×Int):=M ctx tb G 259 (a,b)
def QeY (a:Qad)(b:Int):Option (List Bool×List Int×List Qaj×List GFun×List UInt8×Int×Int×List GVar×List Qag×Int×Bool):=M ctx tb G 260 (a,b)
def Qgc (a:Qad):Option (Int×Int×Int):=M ctx tb G 261 a
def Qha (a:Qad)(b:Int):Option (Unit⊕Unit):=M ctx tb G 262 (a,b)
def QkG (a:Qad)(b:Int)(c:Bool):Option (Int×Int):=M ctx tb G 263 (a,b,c)
def Qc9 (a:List Bool)(b:List Int)(c:Qad)(d:List Qaj)(e:List GFun)(f:List UInt8)(h i:Int)(j:List GVar)(k:List Qag)(l:Int)(m:Bool)(n:List GVar)(o p:Int):Option (List Bool×List Int):=M ctx tb G 264 (a,b,c,d,e,f,h,i,j,k,l,m,n,o,p)
def Qjn (a:Qad):Option (Int×Int×Int):=M ctx tb G 265 a
def Qon (a:Qad)(b:Bool):Option (Int×Int×Int):=M ctx tb G 266 (a,b)
def Qhb (a:Qad)(b:GFun)(c d:Int):Option (Unit⊕Unit):=M ctx tb G 267 (a,b,c,d)
def QhF (a:Qad)(b:GFun):Option (List Int):=M ctx tb G 268 (a,b)
def QcR (a:List Bool)(b:List Int)(c:List Qaj)(d:List GFun)(e:List UInt8)(f h:Int)(i:List GVar)(j:List Qag)(k:Int)(l:Bool)(m:Int):Option (List Int):=M ctx tb G 269 (a,b,c,d,e,f,h,i,j,k,l,m)
def Ql5 (a:GFun):Option (List Int):=M ctx tb G 270 a
def QbP (a:Qad)(b:Int):Option (Int×Int×Int⊕Unit):=M ctx tb G 271 (a,b)
def Qdt (a:Qad)(b:Bool)(c d:Int):Option (Unit⊕Int×Int×Int):=M ctx tb G 272 (a,b,c,d)
def Qdu (a:List Int)(b:Qad)(c:GFun)(d:Int):Option (List Int):=M ctx tb G 273 (a,b,c,d)
def Qdg (a:List Bool)(b:List Int)(c:List Qaj)(d:List GFun)(e:List UInt8)(f h:Int)(i:List GVar)(j:List Qag)(k:Int)(l m:Bool):Option (Int×Int):=M ctx tb G 274 (a,b,c,d,e,f,h,i,j,k,l,m)
def Qfu (a:Qad)(b:GFun)(c:List Int):Option (List Int):=M ctx tb G 275 (a,b,c)
def QbQ (a:List Bool)(b:List Int)(c:List Qaj)(d:List GFun)(e:List UInt8)(f h:Int)(i:List GVar)(j:List Qag)(k:Int)(l:Bool)(m:Qag)(n:List Int)(o p:Int):Option (List Int):=M ctx tb G 276 (a,b,c,d,e,f,h,i,j,k,l,m,n,o,p)
def Qcw (a:List Bool)(b:List Int)(c:List Qaj)(d:List GFun)(e:List UInt8)(f h:Int)(i:List GVar)(j:List Qag)(k:Int)(l:Bool)(m:List Int)(n o:Int):Option (List Int):=M ctx tb G 277 (a,b,c,d,e,f,h,i,j,k,l,m,n,o)
def Qed (a:List Int)(b:GFun)(c:Int):Option (List Int):=M ctx tb G 278 (a,b,c)
def QhL (a:Qad)(b:GFun)(c:Int):Option Bool:=M ctx tb G 279 (a,b,c)
def Qfk (a:Qg3)(b:Int)(c:List Int):Option Qg3:=M ctx tb G 280 (a,b,c)
def QgM (a:List Int)(b:Qad)(c:GFun)(d:Int):Option (List Int):=M ctx tb G 281 (a,b,c,d)
def Qfv (a:List Bool)(b:List Int)(c:List Qaj)(d:List GFun)(e:List UInt8)(f h:Int)(i:List GVar)(j:List Qag)(k:Int)(l:Bool):Option (List Bool×List Bool⊕List Bool×List Bool×Nat):=M ctx tb G 282 (a,b,c,d,e,f,h,i,j,k,l)
def QdB (a:List Int)(b:Qad)(c:GFun)(d:List Int)(e:Int):Option (List Int):=M ctx tb G 283 (a,b,c,d,e)
def Qpj (a:List Qaj)(b:Int):Option Bool:=M ctx tb G 284 (a,b)
def Qhk (a:Qg3)(b:Qag)(c:List Int):Option Int:=M ctx tb G 285 (a,b,c)
def QeZ (a:List Int)(b:Qad)(c:GFun)(d:Qag)(e:List QbB)(f h:Int):Option (List Int):=M ctx tb G 286 (a,b,c,d,e,f,h)
def Qjo (a:List Int)(b:Qad)(c:GFun)(d:List Int)(e f:Int):Option (List Int):=M ctx tb G 287 (a,b,c,d,e,f)
def Qgq (a:List Bool)(b:List Int)(c d e f:List Bool)(h:List Qaj)(i:List GFun)(j:List UInt8)(k l:Int)(m:List GVar)(n:List Qag)(o:Int)(p:Bool)(q r:Int):Option (Unit⊕List Bool×Nat):=M ctx tb G 288 (a,b,c,d,e,f,h,i,j,k,l,m,n,o,p,q,r)
def QhG (a:List GCon)(b:Int):Option (Unit⊕Unit):=M ctx tb G 289 (a,b)
def QdC (a:Qad)(b:GFun)(c:Qag):Option (List Int):=M ctx tb G 290 (a,b,c)
def QdD (a:List Int)(b:Qad)(c:GFun)(d:Qag)(e:List QbB)(f h:Int)(i:List Int)(j k:Int):Option (List Int):=M ctx tb G 291 (a,b,c,d,e,f,h,i,j,k)
def Qgd (a:List Bool)(b:List Int)(c d:List Bool)(e:List Int)(f:List Qaj)(h:List GFun)(i:List UInt8)(j k:Int)(l:List GVar)(m:List Qag)(n:Int)(o:Bool):Option (List Bool):=M ctx tb G 292 (a,b,c,d,e,f,h,i,j,k,l,m,n,o)
def QkH (a:Qad)(b:GFun)(c:Qag):Option (List Int):=M ctx tb G 293 (a,b,c)
def Qdh (a:Qad)(b:GFun)(c:List Int):Option (List Int):=M ctx tb G 294 (a,b,c)
def Qdc (a:Qad)(b:GFun)(c:Int)(d:List Int)(e:Bool):Option (List Int):=M ctx tb G 295 (a,b,c,d,e)
def QbZ (a:List Bool)(b:List Int)(c d:List Bool)(e:List Int)(f:List Qaj)(h:List GFun)(i:List UInt8)(j k:Int)(l:List GVar)(m:List Qag)(n:Int)(o:Bool)(p q:Int):Option (List Bool):=M ctx tb G 296 (a,b,c,d,e,f,h,i,j,k,l,m,n,o,p,q)
def QcY (a b c:List Bool)(d:List Int)(e:List Qaj)(f:List GFun)(h:List UInt8)(i j:Int)(k:List GVar)(l:List Qag)(m:Int)(n o:Bool)(p:Int):Option (Int×Int):=M ctx tb G 297 (a,b,c,d,e,f,h,i,j,k,l,m,n,o,p)
def Qcx (a:List Int)(b:Qg3)(c:Qag)(d e f:List Int)(h:Int):Option (Unit⊕Unit):=M ctx tb G 298 (a,b,c,d,e,f,h)
def QdE (a:List Int)(b:Qad)(c:GFun)(d:List Int)(e:Int):Option (List Int):=M ctx tb G 299 (a,b,c,d,e)
def Qcy (a:List Int)(b:Qad)(c:GFun)(d:Int)(e:List Int)(f:Bool)(h:Int):Option (List Int):=M ctx tb G 300 (a,b,c,d,e,f,h)
def Qcz (a:List Bool)(b:List Int)(c:List Qaj)(d:List GFun)(e:List UInt8)(f h:Int)(i:List GVar)(j:List Qag)(k:Int)(l:Bool)(m:Int):Option Bool:=M ctx tb G 301 (a,b,c,d,e,f,h,i,j,k,l,m)
def Qfw (a:List Bool)(b:List Int)(c d:List Bool)(e:List Qaj)(f:List GFun)(h:List UInt8)(i j:Int)(k:List GVar)(l:List Qag)(m:Int)(n:Bool)(o:Qag)(p:Bool):Option Int:=M ctx tb G 302 (a,b,c,d,e,f,h,i,j,k,l,m,n,o,p)
def QcA (a b:List Int)(c:Qg3)(d:Qag)(e f h:List Int)(i:Int):Option (Unit⊕Unit):=M ctx tb G 303 (a,b,c,d,e,f,h,i)
def Qb9 (a:List Int)(b:Qad)(c:GFun)(d:Nat)(e:List Int)(f h:Int):Option (List Int):=M ctx tb G 304 (a,b,c,d,e,f,h)
def QaL (a:List Bool)(b:List Int)(c:List Qaj)(d:List GFun)(e:List UInt8)(f h:Int)(i:List GVar)(j:List Qag)(k:Int)(l:Bool)(m:Qag):Option (List Int×List Int):=M ctx tb G 305 (a,b,c,d,e,f,h,i,j,k,l,m)
def Qe0 (a:List Int)(b:Int):Option Bool:=M ctx tb G 306 (a,b)
def QhH (a:List Int)(b:Qad)(c:GFun)(d:Int)(e:Nat):Option (List Int):=M ctx tb G 307 (a,b,c,d,e)
def QaN (a:List Bool)(b:List Int)(c:List Qaj)(d:List GFun)(e:List UInt8)(f h:Int)(i:List GVar)(j:List Qag)(k:Int)(l:Bool)(m:List Int):Option (List Int):=M ctx tb G 308 (a,b,c,d,e,f,h,i,j,k,l,m)
def Qck (a:List Bool)(b c d:List Int)(e:List Qaj)(f:List GFun)(h:List UInt8)(i j:Int)(k:List GVar)(l:List Qag)(m:Int)(n:Bool)(o:Qag)(p:List Int):Option (List Int×List Int):=M ctx tb G 309 (a,b,c,d,e,f,h,i,j,k,l,m,n,o,p)
def QcB (a:List Int)(b:Qg3)(c:Qag)(d e f:List Int)(h:Int):Option (Unit⊕Unit):=M ctx tb G 310 (a,b,c,d,e,f,h)
def Qb5 (a:List Bool)(b:List Int)(c d e f:List Bool)(h:List Qaj)(i:List GFun)(j:List UInt8)(k l:Int)(m:List GVar)(n:List Qag)(o:Int)(p:Bool)(q:Nat)(r s:Int):Option (List Bool):=M ctx tb G 311 (a,b,c,d,e,f,h,i,j,k,l,m,n,o,p,q,r,s)
def QbF (a b c:List Bool)(d e f:List Int)(h:List Qaj)(i:List GFun)(j:List UInt8)(k l:Int)(m:List GVar)(n:List Qag)(o:Int)(p:Bool)(q:Qag)(r:Bool)(s t:Int):Option (Unit⊕Unit):=M ctx tb G 312 (a,b,c,d,e,f,h,i,j,k,l,m,n,o,p,q,r,s,t)
def QiR (a:List Int)(b c:Int):Option (Unit⊕Unit):=M ctx tb G 313 (a,b,c)
def Qdv (a:List Int)(b:Qad)(c:GFun)(d:Qag)(e:Nat)(f:List QbB)(h i:Int):Option (List Int):=M ctx tb G 314 (a,b,c,d,e,f,h,i)
def QbG (a:List Bool)(b c:List Int)(d:List Qaj)(e:List GFun)(f:List UInt8)(h i:Int)(j:List GVar)(k:List Qag)(l:Int)(m:Bool)(n:List Int)(o p:Int):Option (List Int):=M ctx tb G 315 (a,b,c,d,e,f,h,i,j,k,l,m,n,o,p)
def Qat (a:List Bool)(b c d:List Int)(e:List Qaj)(f:List GFun)(h:List UInt8)(i j:Int)(k:List GVar)(l:List Qag)(m:Int)(n:Bool)(o:Qag)(p:List Int)(q r:Int):Option (List Int×List Int):=M ctx tb G 316 (a,b,c,d,e,f,h,i,j,k,l,m,n,o,p,q,r)
def QcC (a:List Int)(b:Qg3)(c:Qag)(d e f:List Int)(h i:Int):Option (Unit⊕Unit):=M ctx tb G 317 (a,b,c,d,e,f,h,i)
def QeK (a:List Bool)(b:List Int)(c d:List Bool)(e:List Int)(f:List Qaj)(h:List GFun)(i:List UInt8)(j k:Int)(l:List GVar)(m:List Qag)(n:Int)(o:Bool)(p:Nat):Option (List Bool):=M ctx tb G 318 (a,b,c,d,e,f,h,i,j,k,l,m,n,o,p)
def QcS (a:List Int)(b:Qad)(c:GFun)(d:Qag)(e:Nat)(f:List QbB)(h i:Int)(j:List Int)(k l:Int):Option (List Int):=M ctx tb G 319 (a,b,c,d,e,f,h,i,j,k,l)
def QbR (a:List Int)(b:Qg3)(c:List Int)(d:List QbB)(e f:Int):Option Qg3:=M ctx tb G 320 (a,b,c,d,e,f)
def QbS (a b:List Int)(c:Qg3)(d:List Int)(e f:Int):Option Qg3:=M ctx tb G 321 (a,b,c,d,e,f)
def QcD (a:List Int)(b:Qg3)(c:Qag)(d e f:List Int)(h:Int):Option (Unit⊕Unit):=M ctx tb G 322 (a,b,c,d,e,f,h)
def Qch (a:List Int)(b:Qg3)(c d:List Int)(e:Int):Option (Unit⊕Unit):=M ctx tb G 323 (a,b,c,d,e)
def Qe1 (a:List (List Int)):Option (List Int):=M ctx tb G 324 a
def Qbs (a:List Bool)(b:List Int)(c d:List Bool)(e:List Int)(f:List Qaj)(h:List GFun)(i:List UInt8)(j k:Int)(l:List GVar)(m:List Qag)(n:Int)(o:Bool)(p:Nat)(q r:Int):Option (List Bool):=M ctx tb G 325 (a,b,c,d,e,f,h,i,j,k,l,m,n,o,p,q,r)
def QbH (a b c:List Bool)(d e f:List Int)(h:List Qaj)(i:List GFun)(j:List UInt8)(k l:Int)(m:List GVar)(n:List Qag)(o:Int)(p:Bool)(q:Qag)(r:Bool)(s:List Int)(t u:Int):Option (Unit⊕Unit):=M ctx tb G 326 (a,b,c,d,e,f,h,i,j,k,l,m,n,o,p,q,r,s,t,u)
def Qau (a b:List Int)(c:Qg3)(d:Int):Option Qg3:=M ctx tb G 327 (a,b,c,d)
def QeB (a:List (List Int))(b:Int)(c:List (List Int))(d e:Int):Option Int:=M ctx tb G 328 (a,b,c,d,e)
def Qcl (a b c:List Bool)(d:List Int)(e:List Qaj)(f:List GFun)(h:List UInt8)(i j:Int)(k:List GVar)(l:List Qag)(m:Int)(n o:Bool)(p:Int)(q:Nat):Option (Int×Int):=M ctx tb G 329 (a,b,c,d,e,f,h,i,j,k,l,m,n,o,p,q)
def Qge (a b:List Int)(c:Qg3)(d:Qag):Option Int:=M ctx tb G 330 (a,b,c,d)
def QbI (a b c:List Bool)(d e f:List Int)(h:List Qaj)(i:List GFun)(j:List UInt8)(k l:Int)(m:List GVar)(n:List Qag)(o:Int)(p:Bool)(q:Qag)(r:Bool)(s t:Int):Option (Unit⊕Unit):=M ctx tb G 331 (a,b,c,d,e,f,h,i,j,k,l,m,n,o,p,q,r,s,t)
def Qp1 (a:Int):Option (List Int×Nat⊕Unit):=M ctx tb G 332 a
def Qee (a:List Bool)(b:List Int)(c d:List Bool)(e:List Qaj)(f:List GFun)(h:List UInt8)(i j:Int)(k:List GVar)(l:List Qag)(m:Int)(n:Bool)(o:Qag)(p:Nat)(q:Bool):Option Int:=M ctx tb G 333 (a,b,c,d,e,f,h,i,j,k,l,m,n,o,p,q)
def Qb0 (a b:List Int)(c:Qg3)(d:Qag)(e f:List Int)(h:Int):Option (Unit⊕Unit):=M ctx tb G 334 (a,b,c,d,e,f,h)
def Qa6 (a b c:List Bool)(d:List Int)(e:List Qaj)(f:List GFun)(h:List UInt8)(i j:Int)(k:List GVar)(l:List Qag)(m:Int)(n o:Bool)(p:Qag)(q:List Int)(r s:Int):Option (Unit⊕Int×Int):=M ctx tb G 335 (a,b,c,d,e,f,h,i,j,k,l,m,n,o,p,q,r,s)
def Qa1 (a:List Int)(b:Int):Option Bool:=M ctx tb G 336 (a,b)
def Qa7 (a b c:List Bool)(d e f:List Int)(h:List Qaj)(i:List GFun)(j:List UInt8)(k l:Int)(m:List GVar)(n:List Qag)(o:Int)(p:Bool)(q:Qag)(r:Nat)(s:Bool)(t u:Int):Option (Unit⊕Unit):=M ctx tb G 337 (a,b,c,d,e,f,h,i,j,k,l,m,n,o,p,q,r,s,t,u)
def Qe2 (a:Qag):Option Bool:=M ctx tb G 338 a
def QjP (a:List Int)(b:Nat)(c:List (List Int))(d e:Int):Option (Unit⊕List Int):=M ctx tb G 339 (a,b,c,d,e)
def QbT (a:List Int)(b:List (List Int))(c d:Int):Option (List Int):=M ctx tb G 340 (a,b,c,d)
def Qb1 (a b c:List Int)(d:Qg3)(e:Qag)(f h:List Int)(i:Int):Option (Unit⊕Unit):=M ctx tb G 341 (a,b,c,d,e,f,h,i)
def QbJ (a b c:List Bool)(d e f:List Int)(h:List Qaj)(i:List GFun)(j:List UInt8)(k l:Int)(m:List GVar)(n:List Qag)(o:Int)(p:Bool)(q:Qag)(r:Bool)(s t u v w:Int):Option (Unit⊕Unit):=M ctx tb G 342 (a,b,c,d,e,f,h,i,j,k,l,m,n,o,p,q,r,s,t,u,v,w)
def QeL (a:List Bool)(b:List Int)(c d:List Bool)(e:List Qaj)(f:List GFun)(h:List UInt8)(i j:Int)(k:List GVar)(l:List Qag)(m:Int)(n:Bool)(o:Qag)(p:Int):Option (List Bool×List Bool×Nat×Nat):=M ctx tb G 343 (a,b,c,d,e,f,h,i,j,k,l,m,n,o,p)
def Ql6 (a:List Int)(b:Int):Option Int:=M ctx tb G 344 (a,b)
def Qbt (a b c:List Bool)(d e:List Int)(f:List Qaj)(h:List GFun)(i:List UInt8)(j k:Int)(l:List GVar)(m:List Qag)(n:Int)(o:Bool)(p q:Int):Option (Unit⊕Unit):=M ctx tb G 345 (a,b,c,d,e,f,h,i,j,k,l,m,n,o,p,q)
def QbK (a b c:List Bool)(d e f:List Int)(h:List Qaj)(i:List GFun)(j:List UInt8)(k l:Int)(m:List GVar)(n:List Qag)(o:Int)(p q:Bool)(r s:Int):Option (Unit⊕Unit):=M ctx tb G 346 (a,b,c,d,e,f,h,i,j,k,l,m,n,o,p,q,r,s)
def Qa8 (a b c:List Bool)(d e f:List Int)(h:List Qaj)(i:List GFun)(j:List UInt8)(k l:Int)(m:List GVar)(n:List Qag)(o:Int)(p:Bool)(q:Qag)(r:Nat)(s:Bool)(t:List Int)(u v:Int):Option (Unit⊕Unit):=M ctx tb G 347 (a,b,c,d,e,f,h,i,j,k,l,m,n,o,p,q,r,s,t,u,v)
def Qef (a b:List Bool):Option (List Bool×List Bool×Nat×Nat):=M ctx tb G 348 (a,b)
def QdS (a:List Int)(b c d:Int):Option (Int⊕Unit):=M ctx tb G 349 (a,b,c,d)
def Qb2 (a b:List Int)(c:Qg3)(d:Qag)(e f:List Int)(h:Int):Option (Unit⊕Unit):=M ctx tb G 350 (a,b,c,d,e,f,h)
def Qa9 (a b c:List Int)(d:Qg3)(e:List QbB)(f h:Int):Option Qg3:=M ctx tb G 351 (a,b,c,d,e,f,h)
def Qba (a b c d:List Int)(e:Qg3)(f:List Int)(h i:Int):Option Qg3:=M ctx tb G 352 (a,b,c,d,e,f,h,i)
def Qbb (a b c:List Bool)(d e f:List Int)(h:List Qaj)(i:List GFun)(j:List UInt8)(k l:Int)(m:List GVar)(n:List Qag)(o:Int)(p:Bool)(q:Qag)(r:Nat)(s:Bool)(t u:Int):Option (Unit⊕Unit):=M ctx tb G 353 (a,b,c,d,e,f,h,i,j,k,l,m,n,o,p,q,r,s,t,u)
def QaO (a b c:List Bool)(d:List Int)(e f h i:List Bool)(j:List Int)(k:List Qaj)(l:List GFun)(m:List UInt8)(n o:Int)(p:List GVar)(q:List Qag)(r:Int)(s:Bool)(t:Qag)(u v:Nat)(w x y:Int):Option (List Bool):=M ctx tb G 354 (a,b,c,d,e,f,h,i,j,k,l,m,n,o,p,q,r,s,t,u,v,w,x,y)
def Qb3 (a b:List Int)(c:Qg3)(d:Qag)(e f:List Int)(h i:Int):Option (Unit⊕Unit):=M ctx tb G 355 (a,b,c,d,e,f,h,i)
def QaX (a b c:List Bool)(d:List Int)(e:List Qaj)(f:List GFun)(h:List UInt8)(i j:Int)(k:List GVar)(l:List Qag)(m:Int)(n o:Bool)(p:Nat)(q:Qag)(r:List Int)(s t:Int):Option (Unit⊕Int×Int):=M ctx tb G 356 (a,b,c,d,e,f,h,i,j,k,l,m,n,o,p,q,r,s,t)
def Qb4 (a b:List Int)(c:Qg3)(d:Qag)(e f:List Int)(h:Int):Option (Unit⊕Unit):=M ctx tb G 357 (a,b,c,d,e,f,h)
def QbL (a b:List Int)(c:Qg3)(d:List Int)(e:Int):Option (Unit⊕Unit):=M ctx tb G 358 (a,b,c,d,e)
def Qbc (a b c:List Bool)(d e f:List Int)(h:List Qaj)(i:List GFun)(j:List UInt8)(k l:Int)(m:List GVar)(n:List Qag)(o:Int)(p:Bool)(q:Qag)(r:Nat)(s:Bool)(t u v w x:Int):Option (Unit⊕Unit):=M ctx tb G 359 (a,b,c,d,e,f,h,i,j,k,l,m,n,o,p,q,r,s,t,u,v,w,x)
def Qa3 (a b c:List Bool)(d e:List Int)(f:List Qaj)(h:List GFun)(i:List UInt8)(j k:Int)(l:List GVar)(m:List Qag)(n:Int)(o:Bool)(p q:Nat)(r s:Int):Option (Unit⊕Unit):=M ctx tb G 360 (a,b,c,d,e,f,h,i,j,k,l,m,n,o,p,q,r,s)
def Qbd (a b c:List Bool)(d e f:List Int)(h:List Qaj)(i:List GFun)(j:List UInt8)(k l:Int)(m:List GVar)(n:List Qag)(o:Int)(p:Bool)(q:Nat)(r:Bool)(s t:Int):Option (Unit⊕Unit):=M ctx tb G 361 (a,b,c,d,e,f,h,i,j,k,l,m,n,o,p,q,r,s,t)
def QaS (a:List Bool)(b:List Int)(c d:List Bool)(e:List Qaj)(f:List GFun)(h:List UInt8)(i j:Int)(k:List GVar)(l:List Qag)(m:Int)(n:Bool)(o p:Nat)(q:List Int):Option (List Bool):=M ctx tb G 362 (a,b,c,d,e,f,h,i,j,k,l,m,n,o,p,q)
def QdN (a:List Bool)(b:List Int)(c d:List Bool)(e:List Qaj)(f:List GFun)(h:List UInt8)(i j:Int)(k:List GVar)(l:List Qag)(m:Int)(n:Bool)(o:Qag)(p:Int)(q:Nat):Option (List Bool×List Bool×Nat×Nat):=M ctx tb G 363 (a,b,c,d,e,f,h,i,j,k,l,m,n,o,p,q)
def Qbu (a:List Bool)(b:List Int)(c d:List Bool)(e:List Qaj)(f:List GFun)(h:List UInt8)(i j:Int)(k:List GVar)(l:List Qag)(m:Int)(n:Bool)(o p:Nat)(q:List Int)(r s:Int):Option (List Bool):=M ctx tb G 364 (a,b,c,d,e,f,h,i,j,k,l,m,n,o,p,q,r,s)
def Qdi (a b:List Bool)(c:Nat):Option (List Bool×List Bool×Nat×Nat):=M ctx tb G 365 (a,b,c)
def Qar (a b c:List Bool)(d:List Int)(e:List Qaj)(f:List GFun)(h:List UInt8)(i j:Int)(k:List GVar)(l:List Qag)(m:Int)(n o:Bool)(p:Int)(q r:Nat):Option (Int×Int):=M ctx tb G 366 (a,b,c,d,e,f,h,i,j,k,l,m,n,o,p,q,r)
def Qeg (a:List Bool)(b:List Int)(c d:List Bool)(e:List Qaj)(f:List GFun)(h:List UInt8)(i j:Int)(k:List GVar)(l:List Qag)(m:Int)(n:Bool)(o:Qag)(p q:Nat)(r:Bool):Option Int:=M ctx tb G 367 (a,b,c,d,e,f,h,i,j,k,l,m,n,o,p,q,r)
def Qbe (a b c:List Bool)(d e f:List Int)(h:List Qaj)(i:List GFun)(j:List UInt8)(k l:Int)(m:List GVar)(n:List Qag)(o:Int)(p:Bool)(q:Qag)(r s:Nat)(t:Bool)(u v:Int):Option (Unit⊕Unit):=M ctx tb G 368 (a,b,c,d,e,f,h,i,j,k,l,m,n,o,p,q,r,s,t,u,v)
def Qbf (a b c:List Bool)(d e f:List Int)(h:List Qaj)(i:List GFun)(j:List UInt8)(k l:Int)(m:List GVar)(n:List Qag)(o:Int)(p:Bool)(q:Qag)(r s:Nat)(t:Bool)(u:List Int)(v w:Int):Option (Unit⊕Unit):=M ctx tb G 369 (a,b,c,d,e,f,h,i,j,k,l,m,n,o,p,q,r,s,t,u,v,w)
def Qbg (a b c:List Bool)(d e f:List Int)(h:List Qaj)(i:List GFun)(j:List UInt8)(k l:Int)(m:List GVar)(n:List Qag)(o:Int)(p:Bool)(q:Qag)(r s:Nat)(t:Bool)(u v:Int):Option (Unit⊕Unit):=M ctx tb G 370 (a,b,c,d,e,f,h,i,j,k,l,m,n,o,p,q,r,s,t,u,v)
def QaY (a b c:List Bool)(d:List Int)(e:List Qaj)(f:List GFun)(h:List UInt8)(i j:Int)(k:List GVar)(l:List Qag)(m:Int)(n o:Bool)(p q:Nat)(r:Qag)(s:List Int)(t u:Int):Option (Unit⊕Int×Int):=M ctx tb G 371 (a,b,c,d,e,f,h,i,j,k,l,m,n,o,p,q,r,s,t,u)
def Qbh (a b c:List Bool)(d e f:List Int)(h:List Qaj)(i:List GFun)(j:List UInt8)(k l:Int)(m:List GVar)(n:List Qag)(o:Int)(p:Bool)(q:Qag)(r s:Nat)(t:Bool)(u v w x y:Int):Option (Unit⊕Unit):=M ctx tb G 372 (a,b,c,d,e,f,h,i,j,k,l,m,n,o,p,q,r,s,t,u,v,w,x,y)
def Qa4 (a b c:List Bool)(d e:List Int)(f:List Qaj)(h:List GFun)(i:List UInt8)(j k:Int)(l:List GVar)(m:List Qag)(n:Int)(o:Bool)(p q r:Nat)(s t:Int):Option (Unit⊕Unit):=M ctx tb G 373 (a,b,c,d,e,f,h,i,j,k,l,m,n,o,p,q,r,s,t)
def Qbi (a b c:List Bool)(d e f:List Int)(h:List Qaj)(i:List GFun)(j:List UInt8)(k l:Int)(m:List GVar)(n:List Qag)(o:Int)(p:Bool)(q r:Nat)(s:Bool)(t u:Int):Option (Unit⊕Unit):=M ctx tb G 374 (a,b,c,d,e,f,h,i,j,k,l,m,n,o,p,q,r,s,t,u)
def QdO (a:List Bool)(b:List Int)(c d:List Bool)(e:List Qaj)(f:List GFun)(h:List UInt8)(i j:Int)(k:List GVar)(l:List Qag)(m:Int)(n:Bool)(o:Qag)(p:Int)(q r:Nat):Option (List Bool×List Bool×Nat×Nat):=M ctx tb G 375 (a,b,c,d,e,f,h,i,j,k,l,m,n,o,p,q,r)
def Qdj (a b:List Bool)(c d:Nat):Option (List Bool×List Bool×Nat×Nat):=M ctx tb G 376 (a,b,c,d)
theorem Qu0 a:QmI a=
 (Qnq a.1).bind fun b=>bif decide (b=0) then bif (decide ((128:Int)<(a.2.length:Int))) then some (6:Int) else (Qf3 a a.2.length 0).bind fun
   |.inl _=> some (0:Int)
   |.inr c=> some c else some b:=me 8
theorem QsS a:QkC a=
 (Qnr a.1).bind fun b=>bif decide (b=0) then bif (decide ((128:Int)<(a.2.length:Int))) then some (6:Int) else (QeR a 0).bind fun
   |.inl _=> some (0:Int)
   |.inr c=> some c else some b:=me 12
theorem QsT a:Qnq a=
 (Qpb a).bind fun b=>bif b then some (6:Int) else (QlZ a).bind fun c=>bif c then (Qns a).bind fun d=>bif d then some (8:Int) else (QeS a a a.length 0).bind fun
   |.inl _=> (Ql2 a).bind fun e=>bif e then some (0:Int) else some (7:Int)
   |.inr _=> some (10:Int) else some (3:Int):=me 13
theorem QkX a b c:Qf3 a b c=
 bif decide (c<b) then (QkD a c).bind fun ⟨d,e⟩=>bif decide (e=0) then Qf3 a b (Ev.wr .i64 (c+1)) else some (.inr e) else some (.inl ()):=me 15
theorem QsU a:Qnr a=
 (Qpc a).bind fun b=>bif b then some (6:Int) else (Ql0 a).bind fun c=>bif c then (Qnt a).bind fun d=>bif d then some (8:Int) else (Qnu a).bind fun e=>bif e then (Ql3 a).bind fun f=>bif f then some (0:Int) else some (7:Int) else some (10:Int) else some (3:Int):=me 18
theorem Qu1 a:Qpb a=
 bif (decide ((64:Int)<(a.length:Int))) then some true else (QhB a a.length 0).bind fun
   |.inl _=> some true
   |.inr _=> some false:=me 19
theorem QjQ a b:QeR a b=
 bif (decide (b<(a.2.length:Int))) then (Qjm a b).bind fun ⟨c,d⟩=>bif decide (d=0) then QeR a (Ev.wr .i64 (b+1)) else some (.inr d) else some (.inl ()):=me 21
theorem Qr3 a:QlZ a=
 (bif (decide ((a.length:Int)=(0:Int))) then some true else (Sy.at' a 0).bind fun b=>some (!(decide (b.1=([66,111,111,108]:List UInt8))))).bind fun b=>(bif b then some true else (Sy.at' a 0).bind fun c=>some (!(decide ((c.2.length:Int)=(2:Int))))).bind fun c=>bif c then some false else (Sy.at' a 0).bind fun d=>(Sy.at' d.2 0).bind fun e=>(Sy.at' d.2 1).bind fun f=>(bif (decide (e.1=([70,97,108,115,101]:List UInt8))) then some (!(decide (f.1=([84,114,117,101]:List UInt8)))) else some true).bind fun h=>(bif h then some true else some (decide ((0:Int)<(Ev.wr .i64 ((e.2.length:Int)+(f.2.length:Int)))))).bind fun i=>bif i then some false else (QdZ a a.length 0).bind fun
      |.inl _=> some true
      |.inr _=> some false:=me 22
theorem Qqc a b:QkD a b=
 (bif (decide (b<(0:Int))) then some true else some (!(decide (b<(a.2.length:Int))))).bind fun c=>bif c then some ((0:Int),(2:Int)) else (Sy.at' a.2 b).bind fun d=>(Qfp ([]:List (Bool)) ([]:List (Bool)) ([]:List (Bool)) a.1 a.2 d.1 d.2.1 d.2.2.1 d.2.2.2.1 d.2.2.2.2.1 d.2.2.2.2.2.1 d.2.2.2.2.2.2 b).bind fun e=>bif decide (e=0) then bif d.2.2.2.2.2.2 then some ((0:Int),(0:Int)) else bif (decide ((d.2.2.2.2.1.length:Int)<(0:Int))) then none else bif (decide (((d.2.2.2.2.1.length:Int).toNat * (1:Nat))≤(140737488355328:Nat))) then bif (decide ((d.2.2.2.1.length:Int)<(0:Int))) then none else bif (decide (((d.2.2.2.1.length:Int).toNat * (1:Nat))≤(140737488355328:Nat))) then (Qdq (List.replicate (d.2.2.2.2.1.length:Int).toNat false) (List.replicate (d.2.2.2.1.length:Int).toNat false) (List.replicate (d.2.2.2.1.length:Int).toNat false) d a.1 a.2 d.1 d.2.1 d.2.2.1 d.2.2.2.1 d.2.2.2.2.1 d.2.2.2.2.2.1 d.2.2.2.2.2.2 d.2.1 0).bind fun ⟨f,h⟩=>(Sy.at' (List.replicate (d.2.2.2.2.1.length:Int).toNat false) d.2.2.2.2.2.1).bind fun i=>(Qc6 (List.set (List.replicate (d.2.2.2.2.1.length:Int).toNat false) d.2.2.2.2.2.1.toNat true) f h a.1 a.2 d.1 d.2.1 d.2.2.1 d.2.2.2.1 d.2.2.2.2.1 d.2.2.2.2.2.1 d.2.2.2.2.2.2 d.2.2.2.2.2.1).bind fun ⟨j,k,l,m,n⟩=>bif decide (n=0) then (QhD j (false)).bind fun o=>bif (decide (o<(0:Int))) then (Qdr k (false)).bind fun p=>bif p then some ((-1:Int),(3:Int)) else some ((0:Int),(0:Int)) else some (o,(3:Int)) else some (m,n) else none else none else some ((-1:Int),e):=me 24
theorem Qu2 a:Qpc a=
 bif (decide ((64:Int)<(a.length:Int))) then some true else (QhC a 0).bind fun
   |.inl _=> some true
   |.inr _=> some false:=me 27
theorem QkY a b c:QhB a b c=
 bif decide (c<b) then (Sy.at' a c).bind fun d=>(bif (decide ((16:Int)<(d.2.length:Int))) then some true else (QeJ d.2).bind fun e=>some e).bind fun e=>bif e then some (.inl ()) else QhB a b (Ev.wr .i64 (c+1)) else some (.inr ()):=me 28
theorem QsV a:Qns a=
 (QeT (Sy.putD .str .bool ([]:List ((List UInt8)×(Bool))) ([73,110,116]:List UInt8) true) ([]:List ((List UInt8)×(Bool))) a a.length 0).bind fun
  |.inl _=> some true
  |.inr _=> some false:=me 29
theorem Qr4 a:Ql0 a=
 (bif (decide ((a.length:Int)=(0:Int))) then some true else (Sy.at' a 0).bind fun b=>some (!(decide (b.1=([66,111,111,108]:List UInt8))))).bind fun b=>(bif b then some true else (Sy.at' a 0).bind fun c=>some (!(decide ((c.2.length:Int)=(2:Int))))).bind fun c=>bif c then some false else (Sy.at' a 0).bind fun d=>(Sy.at' d.2 0).bind fun e=>(Sy.at' d.2 1).bind fun f=>(bif (decide (e.1=([70,97,108,115,101]:List UInt8))) then some (!(decide (f.1=([84,114,117,101]:List UInt8)))) else some true).bind fun h=>(bif h then some true else some (decide ((0:Int)<(e.2.length:Int)))).bind fun i=>(bif i then some true else some (decide ((0:Int)<(f.2.length:Int)))).bind fun j=>bif j then some false else (Qd0 a 0).bind fun
      |.inl _=> some true
      |.inr _=> some false:=me 30
theorem Qpk a b:Qjm a b=
 (bif (decide (b<(0:Int))) then some true else some (!(decide (b<(a.2.length:Int))))).bind fun c=>bif c then some ((0:Int),(2:Int)) else (Ql1 a b).bind fun d=>bif decide (d=0) then (Sy.at' a.2 b).bind fun e=>bif e.2.2.2.2.2.2 then some ((0:Int),(0:Int)) else bif (decide ((e.2.2.2.2.1.length:Int)<(0:Int))) then none else bif (decide (((e.2.2.2.2.1.length:Int).toNat * (1:Nat))≤(140737488355328:Nat))) then bif (decide ((e.2.2.2.1.length:Int)<(0:Int))) then none else bif (decide (((e.2.2.2.1.length:Int).toNat * (1:Nat))≤(140737488355328:Nat))) then (Qc4 (List.replicate (e.2.2.2.2.1.length:Int).toNat false) (List.replicate (e.2.2.2.1.length:Int).toNat false) ([]:List (Int)) a e 0 0 0).bind fun f=>(Sy.at' (List.replicate (e.2.2.2.2.1.length:Int).toNat false) e.2.2.2.2.2.1).bind fun h=>(Qd3 (List.set (List.replicate (e.2.2.2.2.1.length:Int).toNat false) e.2.2.2.2.2.1.toNat true) (List.replicate (e.2.2.2.1.length:Int).toNat false) f 0 0 a e e.2.2.2.2.2.1).bind fun ⟨i,j,k,l⟩=>bif decide (l=0) then (QeA i j e k l 0).bind fun
   |.inl m=> some (m,(3:Int))
   |.inr _=> (Qc7 i j e k l e.2.1).bind fun
    |.inl _=> some ((-1:Int),(3:Int))
    |.inr _=> some ((0:Int),(0:Int)) else some (k,l) else none else none else some ((-1:Int),d):=me 32
theorem QiS a b c:QdZ a b c=
 bif decide (c<b) then (Sy.at' a c).bind fun d=>((QmJ d.1).bind fun e=>bif e then some (decide ((d.2.length:Int)=(0:Int))) else some true).bind fun e=>(bif e then some true else (QdG d.2).bind fun f=>some f).bind fun f=>bif f then some (.inr ()) else QdZ a b (Ev.wr .i64 (c+1)) else some (.inl ()):=me 33
theorem Qlf a b c d e f h i j k l m n:Qfp a b c d e f h i j k l m n=
 (QrZ f).bind fun o=>bif o then bif (decide (n<(0:Int))) then none else bif (decide ((e.length:Int)<n)) then none else (QbD a b c d e f h i j k l m (f,(h,(i,(j,(k,(l,m)))))) (List.take n.toNat e) ((List.take n.toNat e).length:Int) 0).bind fun
   |.inl _=> some (8:Int)
   |.inr _=> (bif (decide ((6:Int)<h)) then some true else some (decide ((512:Int)<(j.length:Int)))).bind fun p=>(bif p then some true else some (decide ((4096:Int)<(k.length:Int)))).bind fun q=>bif q then some (6:Int) else (bif (decide (h<(0:Int))) then some true else some (decide ((j.length:Int)<h))).bind fun r=>bif r then some (3:Int) else (bif m then (bif (decide (h<(j.length:Int))) then some true else some (decide ((0:Int)<(k.length:Int)))).bind fun s=>(bif s then some true else some (!(decide (l=0)))).bind fun t=>bif t then some (.inl ()) else some (.inr ()) else (bif (decide (l<(0:Int))) then some true else some (!(decide (l<(k.length:Int))))).bind fun s=>bif s then some (.inl ()) else some (.inr ()):Option ((Unit)⊕(Unit))).bind fun
         |.inl _=> some (3:Int)
         |.inr _=> ((Qfq a b c d e f h i j k l m i).bind fun s=>bif s then (QdI a b c d e f h i j k l m j).bind fun t=>some (.inl t) else some (.inr ()):Option (((Bool))⊕(Unit))).bind fun
          |.inl s=> bif s then some (10:Int) else (QdL a b c d e f h i j k l m j).bind fun t=>bif t then some (11:Int) else some (0:Int)
          |.inr _=> some (10:Int) else some (3:Int):=me 35
theorem QkZ a b:QhC a b=
 bif (decide (b<(a.length:Int))) then (Sy.at' a b).bind fun c=>bif (decide ((16:Int)<(c.2.length:Int))) then some (.inl ()) else (Qf4 a b 0).bind fun
      |.inl _=> some (.inl ())
      |.inr _=> QhC a (Ev.wr .i64 (b+1)) else some (.inr ()):=me 37
theorem QkI a:QeJ a=
 (QjN a).bind fun b=>some (!(decide (b<(0:Int)))):=me 38
theorem QjR a b c d:QeS a b c d=
 bif decide (d<c) then (Sy.at' b d).bind fun e=>(QgP a b c d e.2 e.2.length 0).bind fun
   |.inl _=> QeS a b c (Ev.wr .i64 (d+1))
   |.inr _=> some (.inr ()) else some (.inl ()):=me 40
theorem QsW a:Qnt a=
 (QeU (([73,110,116]:List UInt8)::([]:List (List UInt8))) ([]:List (List UInt8)) a 0).bind fun
  |.inl _=> some false
  |.inr _=> some true:=me 41
theorem QjS a b c d e:QeT a b c d e=
 bif decide (e<d) then (Sy.at' c e).bind fun f=>bif (Sy.findD .str .bool a f.1 false) then some (.inl ()) else (QeV (Sy.putD .str .bool a f.1 true) b c d e f.2 f.2.length 0).bind fun
   |.inl _=> some (.inl ())
   |.inr h=> QeT (Sy.putD .str .bool a f.1 true) h c d (Ev.wr .i64 (e+1)) else some (.inr ()):=me 43
theorem QiT a b:Qd0 a b=
 bif (decide (b<(a.length:Int))) then ((Sy.at' a b).bind fun c=>(QiN c.1).bind fun d=>bif d then some (decide ((c.2.length:Int)=(0:Int))) else some true).bind fun c=>bif c then some (.inr ()) else (Qd1 a b 0).bind fun
      |.inl _=> some (.inr ())
      |.inr _=> Qd0 a (Ev.wr .i64 (b+1)) else some (.inl ()):=me 44
theorem Qr5 a b:Ql1 a b=
 (Sy.at' a.2 b).bind fun c=>(Qpd c.1).bind fun d=>bif d then (Qd2 a c b 0).bind fun
   |.inl _=> some (8:Int)
   |.inr _=> (bif (decide ((6:Int)<c.2.1)) then some true else some (decide ((512:Int)<(c.2.2.2.1.length:Int)))).bind fun e=>(bif e then some true else some (decide ((4096:Int)<(c.2.2.2.2.1.length:Int)))).bind fun f=>bif f then some (6:Int) else (bif (decide (c.2.1<(0:Int))) then some true else some (decide ((c.2.2.2.1.length:Int)<c.2.1))).bind fun h=>bif h then some (3:Int) else (bif c.2.2.2.2.2.2 then bif (decide ((c.2.2.2.1.length:Int)=c.2.1)) then some (.inl (decide ((0:Int)<(c.2.2.2.2.1.length:Int)))) else some (.inl true) else some (.inr ()):Option (((Bool))⊕(Unit))).bind fun
         |.inl i=> (bif i then some true else some (!(decide (c.2.2.2.2.2.1=(0:Int))))).bind fun j=>(bif j then some (.inl ()) else bif c.2.2.2.2.2.2 then some (.inr (.inl ())) else bif (decide (c.2.2.2.2.2.1<(0:Int))) then some (.inr (.inr true)) else some (.inr (.inr (!(decide (c.2.2.2.2.2.1<(c.2.2.2.2.1.length:Int)))))):Option ((Unit)⊕(Unit)⊕((Bool)))).bind fun
          |.inl _=> some (3:Int)
          | (.inr (.inl _))=>(Qd5 a c.2.2.1).bind fun k=>bif k then (QbV a c 0).bind fun
            |.inl _=> some (10:Int)
            |.inr _=> (Qbq a c 0).bind fun
             |.inl _=> some (0:Int)
             |.inr _=> some (11:Int) else some (10:Int)
          | (.inr (.inr k))=>bif k then some (3:Int) else (Qd5 a c.2.2.1).bind fun l=>bif l then (QbV a c 0).bind fun
            |.inl _=> some (10:Int)
            |.inr _=> (Qbq a c 0).bind fun
             |.inl _=> some (0:Int)
             |.inr _=> some (11:Int) else some (10:Int)
         |.inr _=> (bif c.2.2.2.2.2.2 then some (.inl ()) else bif (decide (c.2.2.2.2.2.1<(0:Int))) then some (.inr true) else some (.inr (!(decide (c.2.2.2.2.2.1<(c.2.2.2.2.1.length:Int))))):Option ((Unit)⊕((Bool)))).bind fun
          |.inl _=> (Qd5 a c.2.2.1).bind fun i=>bif i then (QbV a c 0).bind fun
            |.inl _=> some (10:Int)
            |.inr _=> (Qbq a c 0).bind fun
             |.inl _=> some (0:Int)
             |.inr _=> some (11:Int) else some (10:Int)
          |.inr i=> bif i then some (3:Int) else (Qd5 a c.2.2.1).bind fun j=>bif j then (QbV a c 0).bind fun
                |.inl _=> some (10:Int)
                |.inr _=> (Qbq a c 0).bind fun
                 |.inl _=> some (0:Int)
                 |.inr _=> some (11:Int) else some (10:Int) else some (3:Int):=me 46
theorem Qu3 a:QmJ a=
 (bif (decide (a=([]:List UInt8))) then some true else some (decide ((32:Int)<(a.length:Int)))).bind fun c=>(bif c then some true else (Sy.at' (List.map (fun (b:UInt8)=>(b.toNat:Int)) a) 0).bind fun d=>some (decide (d<(65:Int)))).bind fun d=>(bif d then some true else (Sy.at' (List.map (fun (b:UInt8)=>(b.toNat:Int)) a) 0).bind fun e=>some (decide ((90:Int)<e))).bind fun e=>bif e then some false else (Qde a a.length 0).bind fun
   |.inl _=> some false
   |.inr _=> some true:=me 47
theorem Qwt a:QrZ a=
 (strings_Cut a ([46]:List UInt8)).bind fun ⟨b,c,d⟩=>((QiO b 97 122).bind fun e=>bif e then bif d then (QiO c 97 122).bind fun f=>some (.inl f) else some (.inl true) else some (.inr ()):Option (((Bool))⊕(Unit))).bind fun
  |.inl e=> some e
  |.inr _=> some false:=me 49
theorem Qk0 a b c:Qf4 a b c=
 (Sy.at' a b).bind fun d=>bif (decide (c<(d.2.length:Int))) then (Sy.at' d.2 c).bind fun e=>bif (decide ((6:Int)<(e.2.length:Int))) then some (.inl ()) else Qf4 a b (Ev.wr .i64 (c+1)) else some (.inr ()):=me 51
theorem QmN a:QjN a=
 (Qc1 a a.length 0).bind fun
  |.inl _=> some (-1:Int)
  |.inr b=> some b:=me 52
theorem QsX a:Qnu a=
 (QgQ a 0).bind fun
  |.inl _=> some true
  |.inr _=> some false:=me 53
theorem Qho a b c d e f h i:Qc4 a b c d e f h i=
 bif decide (i<e.2.1) then bif (decide (((c.length+(1:Nat)) * (8:Nat))≤(35184372088832:Nat))) then Qc4 a b (c++(i::([]:List (Int)))) d e f h (Ev.wr .i64 (i+1)) else none else some c:=me 54
theorem Qjp a:QdG a=
 (Qh7 a).bind fun b=>some (!(decide (b<(0:Int)))):=me 55
theorem Qe3 a b c d e f h i j k l m n o p q:QbD a b c d e f h i j k l m n o p q=
 bif decide (q<p) then (Sy.at' o q).bind fun r=>bif decide (r.1=n.1) then some (.inl ()) else QbD a b c d e f h i j k l m n o p (Ev.wr .i64 (q+1)) else some (.inr ()):=me 56
theorem QjT a b c d e f h:QgP a b c d e f h=
 bif decide (h<f) then (Sy.at' e h).bind fun i=>(QdH a i.2).bind fun j=>bif j then some (.inr ()) else QgP a b c d e f (Ev.wr .i64 (h+1)) else some (.inl ()):=me 58
theorem QjU a b c d:QeU a b c d=
 bif (decide (d<(c.length:Int))) then (Sy.at' c d).bind fun e=>(QqB a e.1).bind fun f=>bif f then some (.inr ()) else bif (decide (((a.length+(1:Nat)) * (16:Nat))≤(35184372088832:Nat))) then (QeW (a++(e.1::([]:List (List UInt8)))) b c d 0).bind fun
   |.inl _=> some (.inr ())
   |.inr h=> QeU (a++(e.1::([]:List (List UInt8)))) h c (Ev.wr .i64 (d+1)) else none else some (.inl ()):=me 59
theorem QjV a b c d e f h i:QeV a b c d e f h i=
 bif decide (i<h) then (Sy.at' f i).bind fun j=>bif (Sy.findD .str .bool b j.1 false) then some (.inl ()) else QeV a (Sy.putD .str .bool b j.1 true) c d e f h (Ev.wr .i64 (i+1)) else some (.inr b):=me 61
theorem Qr6 a:QiN a=
 (Qct a 0).bind fun
  |.inl _=> some false
  |.inr _=> (bif (decide ((a.length:Int)<(1:Int))) then some false else some (!(decide ((32:Int)<(a.length:Int))))).bind fun b=>some b:=me 62
theorem Qu4 a:Qpd a=
 (Qf5 a 0).bind fun
  |.inl _=> (QjO a 97 122).bind fun b=>some b
  |.inr b=> some b:=me 64
theorem Qk1 a c d:Qde a c d=
 bif decide (d<c) then (Sy.at' (List.map (fun (b:UInt8)=>(b.toNat:Int)) a) d).bind fun e=>(bif (decide (e<(97:Int))) then some false else some (!(decide ((122:Int)<e)))).bind fun f=>(bif f then some (.inl ()) else bif (decide (e<(65:Int))) then some (.inr false) else some (.inr (!(decide ((90:Int)<e)))):Option ((Unit)⊕((Bool)))).bind fun
   |.inl _=> Qde a c (Ev.wr .i64 (d+1))
   |.inr h=> (bif h then some (.inl ()) else bif (decide (e<(48:Int))) then some (.inr false) else some (.inr (!(decide ((57:Int)<e)))):Option ((Unit)⊕((Bool)))).bind fun
    |.inl _=> Qde a c (Ev.wr .i64 (d+1))
    |.inr i=> (bif i then some true else some (decide (e=95))).bind fun j=>bif j then Qde a c (Ev.wr .i64 (d+1)) else some (.inl ()) else some (.inr ()):=me 65
theorem Qr7 a c d:QiO a c d=
 (bif (decide ((a.length:Int)=(0:Int))) then some true else some (decide ((32:Int)<(a.length:Int)))).bind fun e=>(bif e then some true else (Sy.at' (List.map (fun (b:UInt8)=>(b.toNat:Int)) a) 0).bind fun f=>some (decide (f<c))).bind fun f=>(bif f then some true else (Sy.at' (List.map (fun (b:UInt8)=>(b.toNat:Int)) a) 0).bind fun h=>some (decide (d<h))).bind fun h=>bif h then some false else (QpY a ([97,98,99,100,101,102,103,104,105,106,107,108,109,110,111,112,113,114,115,116,117,118,119,120,121,122,65,66,67,68,69,70,71,72,73,74,75,76,77,78,79,80,81,82,83,84,85,86,87,88,89,90,48,49,50,51,52,53,54,55,56,57,95]:List UInt8)).bind fun i=>some (decide (i=([]:List UInt8))):=me 66
theorem Qgf a b c:Qc1 a b c=
 bif decide (c<b) then (Sy.at' a c).bind fun d=>(QpZ d).bind fun e=>bif e then some (.inr c) else Qc1 a b (Ev.wr .i64 (c+1)) else some (.inl ()):=me 68
theorem Qr8 a:Ql2 a=
 bif (decide ((Ev.wr .i64 ((a.length:Int)+1))<(0:Int))) then none else bif (decide (((Ev.wr .i64 ((a.length:Int)+1)).toNat * (1:Nat))≤(140737488355328:Nat))) then (Sy.at' (List.replicate (Ev.wr .i64 ((a.length:Int)+1)).toNat false) 0).bind fun b=>(Qf6 (List.set (List.replicate (Ev.wr .i64 ((a.length:Int)+1)).toNat false) (0:Nat) true) a (true)).bind fun c=>(Qdr c (false)).bind fun d=>some (!d) else none:=me 69
theorem Qr9 a:Ql3 a=
 bif (decide ((Ev.wr .i64 ((a.length:Int)+1))<(0:Int))) then none else bif (decide (((Ev.wr .i64 ((a.length:Int)+1)).toNat * (1:Nat))≤(140737488355328:Nat))) then (Sy.at' (List.replicate (Ev.wr .i64 ((a.length:Int)+1)).toNat false) 0).bind fun b=>(Qd4 (List.set (List.replicate (Ev.wr .i64 ((a.length:Int)+1)).toNat false) (0:Nat) true) a 0).bind fun c=>(Qd7 c 0).bind fun
      |.inl _=> some false
      |.inr _=> some true else none:=me 70
theorem QiU a b c:Qd1 a b c=
 (Sy.at' a b).bind fun d=>bif (decide (c<(d.2.length:Int))) then (Sy.at' d.2 c).bind fun e=>(QiN e.1).bind fun f=>bif f then Qd1 a b (Ev.wr .i64 (c+1)) else some (.inl ()) else some (.inr ()):=me 71
theorem QiV a b c d:Qd2 a b c d=
 bif decide (d<c) then (Sy.at' a.2 d).bind fun e=>bif decide (e.1=b.1) then some (.inl ()) else Qd2 a b c (Ev.wr .i64 (d+1)) else some (.inr ()):=me 72
theorem QjW a b:QgQ a b=
 bif (decide (b<(a.length:Int))) then (QgR a b 0).bind fun
   |.inl _=> QgQ a (Ev.wr .i64 (b+1))
   |.inr _=> some (.inr ()) else some (.inl ()):=me 73
theorem Qlg a:Qh7 a=
 (QcG a a.length 0).bind fun
  |.inl _=> some (-1:Int)
  |.inr b=> some b:=me 74
theorem Qjq a b:QdH a b=
 (Qh8 a b).bind fun c=>some (!(decide (c<(0:Int)))):=me 76
theorem Qx3 a b:QqB a b=
 (QkE a b 0).bind fun
  |.inl _=> some true
  |.inr _=> some false:=me 77
theorem QiW a c:Qct a c=
 bif (decide (c<(a.length:Int))) then (Sy.at' (List.map (fun (b:UInt8)=>(b.toNat:Int)) a) c).bind fun d=>(bif (decide (d<(65:Int))) then some false else some (!(decide ((90:Int)<d)))).bind fun e=>(bif e then some (.inl ()) else bif decide (c=0) then some (.inr (.inl ())) else bif (decide (d<(97:Int))) then some (.inr (.inr false)) else some (.inr (.inr (!(decide ((122:Int)<d))))):Option ((Unit)⊕(Unit)⊕((Bool)))).bind fun
   |.inl _=> Qct a (Ev.wr .i64 (c+1))
   | (.inr (.inl _))=>some (.inl ())
   | (.inr (.inr f))=>(bif f then some (.inl ()) else bif (decide (d<(48:Int))) then some (.inr false) else some (.inr (!(decide ((57:Int)<d)))):Option ((Unit)⊕((Bool)))).bind fun
    |.inl _=> Qct a (Ev.wr .i64 (c+1))
    |.inr h=> (bif h then some true else some (decide (d=95))).bind fun i=>bif i then Qct a (Ev.wr .i64 (c+1)) else some (.inl ()) else some (.inr ()):=me 78
theorem Qk2 a c:Qf5 a c=
 bif (decide (c<(a.length:Int))) then (Sy.at' (List.map (fun (b:UInt8)=>(b.toNat:Int)) a) c).bind fun d=>bif decide (d=46) then (bif (decide (c<(0:Int))) then none else bif (decide ((a.length:Int)<c)) then none else (QjO (List.take (c.toNat - (0:Nat)) (List.drop (0:Nat) a)) 97 122).bind fun e=>bif e then bif (decide ((Ev.wr .i64 (c+1))<(0:Int))) then none else bif (decide ((a.length:Int)<(Ev.wr .i64 (c+1)))) then none else (QjO (List.take (a.length - (Ev.wr .i64 (c+1)).toNat) (List.drop (Ev.wr .i64 (c+1)).toNat a)) 97 122).bind fun f=>some f else some false).bind fun e=>some (.inr e) else Qf5 a (Ev.wr .i64 (c+1)) else some (.inl ()):=me 79
theorem Qsa a:QpZ a=
 some (decide ((6:Int)<(a.2.length:Int))):=me 81
theorem Qoo a b c d e f h i:Qd3 a b c d e f h i=
 (Sy.at' h.2.2.2.2.1 i).bind fun j=>(Qhj a b c i e f h j).bind fun ⟨k,l⟩=>bif decide (l=0) then (QgK j).bind fun m=>(QcW c a k i l f h j m 0).bind fun
   |.inl n=> some (n,k,i,(3:Int))
   |.inr n=> (QcX c n k i l f h j m 0).bind fun
    | (.inl ⟨o,p,q,r⟩)=>some (o,p,q,r)
    | (.inr ⟨o,p,q,r⟩)=>some (o,p,q,r) else some (a,k,i,l):=me 82
theorem Qgr a b c d e f h i j k l m n:Qfq a b c d e f h i j k l m n=
 (bif (decide (n<(0:Int))) then some false else some (!(decide ((d.length:Int)<n)))).bind fun o=>some o:=me 83
theorem QjX a b c d e:QeW a b c d e=
 (Sy.at' c d).bind fun f=>bif (decide (e<(f.2.length:Int))) then (Sy.at' f.2 e).bind fun h=>(QqB b h.1).bind fun i=>bif i then some (.inl ()) else bif (decide (((b.length+(1:Nat)) * (16:Nat))≤(35184372088832:Nat))) then QeW a (b++(h.1::([]:List (List UInt8)))) c d (Ev.wr .i64 (e+1)) else none else some (.inr b):=me 86
theorem QiX a b c:Qf6 a b c=
 bif c then (Qc5 a b (false) b.length 0).bind fun ⟨d,e⟩=>Qf6 d b e else some a:=me 87
theorem QiY a b c:Qd4 a b c=
 bif (decide ((b.length:Int)<c)) then some a else (Qd6 a b c 0).bind fun d=>Qd4 d b (Ev.wr .i64 (c+1)):=me 88
theorem QjY a b c:QgR a b c=
 (Sy.at' a b).bind fun d=>bif (decide (c<(d.2.length:Int))) then (Sy.at' d.2 c).bind fun e=>(QgS a b c e.2 0).bind fun
   |.inl _=> QgR a b (Ev.wr .i64 (c+1))
   |.inr _=> some (.inr ()) else some (.inl ()):=me 89
theorem Qe4 a b c:QcG a b c=
 bif decide (c<b) then (Sy.at' a c).bind fun d=>(QmZ d).bind fun e=>bif e then some (.inr c) else QcG a b (Ev.wr .i64 (c+1)) else some (.inl ()):=me 90
theorem Qlh a b:Qh8 a b=
 (QcH a b b.length 0).bind fun
  |.inl _=> some (-1:Int)
  |.inr c=> some c:=me 92
theorem Qm1 a b c:QkE a b c=
 bif (decide (c<(a.length:Int))) then (Sy.at' a c).bind fun d=>bif decide (d=b) then some (.inl ()) else QkE a b (Ev.wr .i64 (c+1)) else some (.inr ()):=me 93
theorem Qu5 a c d:QjO a c d=
 (bif (decide ((a.length:Int)<(1:Int))) then some true else some (decide ((32:Int)<(a.length:Int)))).bind fun e=>(bif e then some true else (Sy.at' (List.map (fun (b:UInt8)=>(b.toNat:Int)) a) 0).bind fun f=>some (decide (f<c))).bind fun f=>(bif f then some true else (Sy.at' (List.map (fun (b:UInt8)=>(b.toNat:Int)) a) 0).bind fun h=>some (decide (d<h))).bind fun h=>bif h then some false else (Qf7 a 0).bind fun
   |.inl _=> some true
   |.inr _=> some false:=me 94
theorem Qig a b c d e f h i j k l m n o p:Qdq a b c d e f h i j k l m n o p=
 bif decide (p<o) then (Sy.at' b p).bind fun q=>(Sy.at' c p).bind fun r=>Qdq a (List.set b p.toNat true) (List.set c p.toNat true) d e f h i j k l m n o (Ev.wr .i64 (p+1)) else some (b,c):=me 96
theorem Qsb a b:Qd5 a b=
 (bif (decide (b<(0:Int))) then some false else some (!(decide ((a.1.length:Int)<b)))).bind fun c=>some c:=me 97
theorem Qnx a b c d e f h i:Qhj a b c d e f h i=
 (Qpe i).bind fun j=>bif j then (Qpf i).bind fun k=>(Qcu c a b d e f h i k 0).bind fun
   |.inl _=> (Qea i).bind fun l=>(Qcv c a b d e f h i l 0).bind fun
    |.inl _=> some (b,(2:Int))
    |.inr _=> (bif (decide (i.1=(6:Int))) then some true else some (decide (i.1=(7:Int)))).bind fun m=>(bif m then some true else some (decide (i.1=(8:Int)))).bind fun n=>(bif n then bif (decide (i.2.2.2.2.2.1<(0:Int))) then some (.inl true) else some (.inl (!(decide (i.2.2.2.2.2.1<(f.2.length:Int))))) else some (.inr ()):Option (((Bool))⊕(Unit))).bind fun
     |.inl o=> (bif o then some (.inl ()) else bif (decide (i.1=(2:Int))) then bif (decide (i.2.2.2.2.1<(0:Int))) then some (.inr (.inl true)) else some (.inr (.inl (decide ((7:Int)<i.2.2.2.2.1)))) else some (.inr (.inr ())):Option ((Unit)⊕((Bool))⊕(Unit))).bind fun
      |.inl _=> some (b,(2:Int))
      | (.inr (.inl p))=>bif p then some (b,(2:Int)) else (QaV c a b d e f h i l 0).bind fun
        |.inl q=> some (q,(8:Int))
        |.inr q=> (Qfr f h i).bind fun r=>bif r then (Qfs f h i).bind fun s=>bif s then some (q,(0:Int)) else some (q,(11:Int)) else some (q,(10:Int))
      | (.inr (.inr _))=>(QaV c a b d e f h i l 0).bind fun
       |.inl p=> some (p,(8:Int))
       |.inr p=> (Qfr f h i).bind fun q=>bif q then (Qfs f h i).bind fun r=>bif r then some (p,(0:Int)) else some (p,(11:Int)) else some (p,(10:Int))
     |.inr _=> (bif (decide (i.1=(2:Int))) then bif (decide (i.2.2.2.2.1<(0:Int))) then some (.inl true) else some (.inl (decide ((7:Int)<i.2.2.2.2.1))) else some (.inr ()):Option (((Bool))⊕(Unit))).bind fun
      |.inl o=> bif o then some (b,(2:Int)) else (QaV c a b d e f h i l 0).bind fun
        |.inl p=> some (p,(8:Int))
        |.inr p=> (Qfr f h i).bind fun q=>bif q then (Qfs f h i).bind fun r=>bif r then some (p,(0:Int)) else some (p,(11:Int)) else some (p,(10:Int))
      |.inr _=> (QaV c a b d e f h i l 0).bind fun
       |.inl o=> some (o,(8:Int))
       |.inr o=> (Qfr f h i).bind fun p=>bif p then (Qfs f h i).bind fun q=>bif q then some (o,(0:Int)) else some (o,(11:Int)) else some (o,(10:Int))
   |.inr _=> some (b,(9:Int)) else some (b,(3:Int)):=me 99
theorem QiZ a b c d e:Qc5 a b c d e=
 bif decide (e<d) then (Sy.at' b e).bind fun f=>(QdJ a f.2).bind fun h=>(bif h then (Sy.at' a (Ev.wr .i64 (e+1))).bind fun i=>some (!i) else some false).bind fun i=>bif i then (Sy.at' a (Ev.wr .i64 (e+1))).bind fun j=>Qc5 (List.set a (Ev.wr .i64 (e+1)).toNat true) b (true) d (Ev.wr .i64 (e+1)) else Qc5 a b c d (Ev.wr .i64 (e+1)) else some (a,c):=me 101
theorem Qi0 a b c d:Qd6 a b c d=
 bif (decide (d<(b.length:Int))) then (Qd8 a b c d 0).bind fun e=>Qd6 e b c (Ev.wr .i64 (d+1)) else some a:=me 102
theorem QjZ a b c d e:QgS a b c d e=
 bif (decide (e<(d.length:Int))) then (Sy.at' d e).bind fun f=>(QiP a f).bind fun h=>bif h then QgS a b c d (Ev.wr .i64 (e+1)) else some (.inr ()) else some (.inl ()):=me 103
theorem Qpl a:QmZ a=
 (QmJ a.1).bind fun b=>some (!b):=me 104
theorem Qe5 a b c d:QcH a b c d=
 bif decide (d<c) then (Sy.at' b d).bind fun e=>(Qom a e).bind fun f=>bif f then some (.inr d) else QcH a b c (Ev.wr .i64 (d+1)) else some (.inl ()):=me 106
theorem Qk3 a c:Qf7 a c=
 bif (decide (c<(a.length:Int))) then (Sy.at' (List.map (fun (b:UInt8)=>(b.toNat:Int)) a) c).bind fun d=>(Ql4 d).bind fun e=>bif e then Qf7 a (Ev.wr .i64 (c+1)) else some (.inr ()) else some (.inl ()):=me 107
theorem Qjr a b c d e f h i j k l m n:QdI a b c d e f h i j k l m n=
 (Qh9 a b c d e f h i j k l m n).bind fun o=>some (!(decide (o<(0:Int)))):=me 108
theorem Qi1 a b c:QbV a b c=
 bif (decide (c<(b.2.2.2.1.length:Int))) then (Sy.at' b.2.2.2.1 c).bind fun d=>(Qd5 a d.1).bind fun e=>bif e then QbV a b (Ev.wr .i64 (c+1)) else some (.inl ()) else some (.inr ()):=me 110
theorem Qih a b:Qdr a b=
 (QhD a b).bind fun c=>some (!(decide (c<(0:Int)))):=me 111
theorem Qi2 a b:Qd7 a b=
 bif (decide (b<(a.length:Int))) then (Sy.at' a b).bind fun c=>bif c then Qd7 a (Ev.wr .i64 (b+1)) else some (.inl ()) else some (.inr ()):=me 112
theorem Qu6 a:Qpe a=
 (bif (decide (a.1<(0:Int))) then some true else some (decide ((9:Int)<a.1))).bind fun b=>bif b then some false else (Sy.at' ((1:Int)::((0:Int)::((2:Int)::((-1:Int)::((1:Int)::((1:Int)::((-1:Int)::((-1:Int)::((-1:Int)::((1:Int)::([]:List (Int)))))))))))) a.1).bind fun c=>bif (decide (c<(0:Int))) then (bif (decide (a.1=(1:Int))) then some true else some (decide (a.1=(2:Int)))).bind fun d=>(bif d then some true else some (decide (a.1=(3:Int)))).bind fun e=>(bif e then some true else some (decide (a.1=(4:Int)))).bind fun f=>(bif f then some true else some (decide (a.1=(6:Int)))).bind fun h=>(bif (decide (a.1=(6:Int))) then some true else some (decide (a.1=(7:Int)))).bind fun i=>(bif i then some true else some (decide (a.1=(8:Int)))).bind fun j=>(bif (decide (a.2.1=(0:Int))) then some false else some (!h)).bind fun k=>(bif k then some (.inl ()) else bif (decide (a.2.2.2.1=(0:Int))) then some (.inr false) else some (.inr (!(decide (a.1=(3:Int))))):Option ((Unit)⊕((Bool)))).bind fun
      |.inl _=> some false
      |.inr l=> (bif l then some (!(decide (a.1=(8:Int)))) else some false).bind fun m=>(bif m then some (.inl ()) else bif (decide (a.2.2.2.2.1=(0:Int))) then some (.inr false) else some (.inr (!(decide (a.1=(1:Int))))):Option ((Unit)⊕((Bool)))).bind fun
       |.inl _=> some false
       |.inr n=> (bif n then some (!(decide (a.1=(2:Int)))) else some false).bind fun o=>(bif o then some (!(decide (a.1=(8:Int)))) else some false).bind fun p=>bif p then some false else (bif (decide (a.2.2.2.2.2.1=(0:Int))) then some false else some (!j)).bind fun q=>(bif q then some (.inl ()) else bif (decide ((0:Int)<(a.2.2.2.2.2.2.1.length:Int))) then some (.inr (!(decide (a.1=(8:Int))))) else some (.inr false):Option ((Unit)⊕((Bool)))).bind fun
         |.inl _=> some false
         |.inr r=> (bif r then some (.inl ()) else bif a.2.2.2.2.2.2.2.1 then some (.inr (!(decide (a.1=(9:Int))))) else some (.inr false):Option ((Unit)⊕((Bool)))).bind fun
          |.inl _=> some false
          |.inr s=> (bif s then some (.inl ()) else bif (decide ((0:Int)<(a.2.2.2.2.2.2.2.2.1.length:Int))) then some (.inr (!(decide (a.1=(9:Int))))) else some (.inr false):Option ((Unit)⊕((Bool)))).bind fun
           |.inl _=> some false
           |.inr t=> bif t then some false else (bif (decide (a.2.2.2.2.2.2.2.2.2=(0:Int))) then some true else some h).bind fun u=>(bif u then some true else some (decide (a.1=(5:Int)))).bind fun v=>some v else bif (decide ((a.2.2.1.length:Int)=c)) then (bif (decide (a.1=(1:Int))) then some true else some (decide (a.1=(2:Int)))).bind fun d=>(bif d then some true else some (decide (a.1=(3:Int)))).bind fun e=>(bif e then some true else some (decide (a.1=(4:Int)))).bind fun f=>(bif f then some true else some (decide (a.1=(6:Int)))).bind fun h=>(bif (decide (a.1=(6:Int))) then some true else some (decide (a.1=(7:Int)))).bind fun i=>(bif i then some true else some (decide (a.1=(8:Int)))).bind fun j=>(bif (decide (a.2.1=(0:Int))) then some false else some (!h)).bind fun k=>(bif k then some (.inl ()) else bif (decide (a.2.2.2.1=(0:Int))) then some (.inr false) else some (.inr (!(decide (a.1=(3:Int))))):Option ((Unit)⊕((Bool)))).bind fun
       |.inl _=> some false
       |.inr l=> (bif l then some (!(decide (a.1=(8:Int)))) else some false).bind fun m=>(bif m then some (.inl ()) else bif (decide (a.2.2.2.2.1=(0:Int))) then some (.inr false) else some (.inr (!(decide (a.1=(1:Int))))):Option ((Unit)⊕((Bool)))).bind fun
        |.inl _=> some false
        |.inr n=> (bif n then some (!(decide (a.1=(2:Int)))) else some false).bind fun o=>(bif o then some (!(decide (a.1=(8:Int)))) else some false).bind fun p=>bif p then some false else (bif (decide (a.2.2.2.2.2.1=(0:Int))) then some false else some (!j)).bind fun q=>(bif q then some (.inl ()) else bif (decide ((0:Int)<(a.2.2.2.2.2.2.1.length:Int))) then some (.inr (!(decide (a.1=(8:Int))))) else some (.inr false):Option ((Unit)⊕((Bool)))).bind fun
          |.inl _=> some false
          |.inr r=> (bif r then some (.inl ()) else bif a.2.2.2.2.2.2.2.1 then some (.inr (!(decide (a.1=(9:Int))))) else some (.inr false):Option ((Unit)⊕((Bool)))).bind fun
           |.inl _=> some false
           |.inr s=> (bif s then some (.inl ()) else bif (decide ((0:Int)<(a.2.2.2.2.2.2.2.2.1.length:Int))) then some (.inr (!(decide (a.1=(9:Int))))) else some (.inr false):Option ((Unit)⊕((Bool)))).bind fun
            |.inl _=> some false
            |.inr t=> bif t then some false else (bif (decide (a.2.2.2.2.2.2.2.2.2=(0:Int))) then some true else some h).bind fun u=>(bif u then some true else some (decide (a.1=(5:Int)))).bind fun v=>some v else some false:=me 115
theorem Qjs a b:QdJ a b=
 (Qia a b).bind fun c=>some (!(decide (c<(0:Int)))):=me 117
theorem Qi3 a b c d e:Qd8 a b c d e=
 (Sy.at' b d).bind fun f=>bif (decide (e<(f.2.length:Int))) then (Sy.at' f.2 e).bind fun h=>(Qd9 a b c d e (true) h.2 0).bind fun i=>((Sy.at' a (Ev.wr .i64 (d+1))).bind fun j=>bif j then some true else some i).bind fun j=>(Sy.at' a (Ev.wr .i64 (d+1))).bind fun k=>Qd8 (List.set a (Ev.wr .i64 (d+1)).toNat j) b c d (Ev.wr .i64 (e+1)) else some a:=me 118
theorem Qsc a b:QiP a b=
 (bif (decide (b<(0:Int))) then some false else some (!(decide ((a.length:Int)<b)))).bind fun c=>some c:=me 119
theorem Qqd a b:Qom a b=
 (QiQ a b).bind fun c=>some (!c):=me 121
theorem Qsd a:Ql4 a=
 (bif (decide (a<(97:Int))) then some false else some (!(decide ((122:Int)<a)))).bind fun b=>(bif b then some (.inl ()) else bif (decide (a<(65:Int))) then some (.inr false) else some (.inr (!(decide ((90:Int)<a)))):Option ((Unit)⊕((Bool)))).bind fun
  |.inl _=> some true
  |.inr c=> (bif c then some (.inl ()) else bif (decide (a<(48:Int))) then some (.inr false) else some (.inr (!(decide ((57:Int)<a)))):Option ((Unit)⊕((Bool)))).bind fun
   |.inl _=> some true
   |.inr d=> (bif d then some true else some (decide (a=95))).bind fun e=>some e:=me 122
theorem QmO a b c d e f h i j k l m n:Qc6 a b c d e f h i j k l m n=
 (Sy.at' k n).bind fun o=>(Qf8 a b c d e f h i j k l m o).bind fun ⟨p,q⟩=>bif decide (q=0) then (Qib o).bind fun r=>(QaR a p c d e f h i j k l m o n r r r.length 0).bind fun
   |.inl s=> some (s,p,c,n,(3:Int))
   |.inr s=> (Qcc s p c d e f h i j k l m o r r.length 0).bind fun
    | (.inl ⟨t,u,v⟩)=>some (t,u,v,(0:Int),(0:Int))
    | (.inr ⟨t,u,v,w,x⟩)=>some (t,u,v,w,x) else some (a,p,c,n,q):=me 123
theorem Qu7 a:Qpf a=
 (bif (decide (a.1<(0:Int))) then some true else some (decide ((9:Int)<a.1))).bind fun b=>(bif b then some true else some (decide (a.1=(1:Int)))).bind fun c=>bif c then some ([]:List (Int)) else (Qey ([]:List (Int)) a 0).bind fun d=>(bif (decide (a.1=(8:Int))) then (Qez d a 0).bind fun e=>some e else some d:Option (((List (Int))))).bind fun e=>some e:=me 126
theorem Qli a b c d e f h i j k l m n:Qh9 a b c d e f h i j k l m n=
 (QcI a b c d e f h i j k l m n n.length 0).bind fun
  |.inl _=> some (-1:Int)
  |.inr o=> some o:=me 128
theorem Qk4 a b:QhD a b=
 (Qds a b a.length 0).bind fun
  |.inl c=> some c
  |.inr _=> some (-1:Int):=me 130
theorem Qlj a b:Qia a b=
 (QcJ a b b.length 0).bind fun
  |.inl _=> some (-1:Int)
  |.inr c=> some c:=me 133
theorem Qi4 a b c d e f h i:Qd9 a b c d e f h i=
 bif (decide (i<(h.length:Int))) then (bif f then (Sy.at' h i).bind fun j=>(Sy.at' a j).bind fun k=>some (true,k) else some (false,false):Option (((Bool)×(Bool)))).bind fun ⟨j,k⟩=>Qd9 a b c d e k h (Ev.wr .i64 (i+1)) else some f:=me 134
theorem Qse a b:QiQ a b=
 (bif (decide (b<(0:Int))) then some false else some (!(decide ((a.length:Int)<b)))).bind fun c=>some c:=me 135
theorem Qi5 a b c:Qbq a b c=
 bif (decide (c<(b.2.2.2.1.length:Int))) then (Sy.at' b.2.2.2.1 c).bind fun d=>bif d.2 then (QgL a.1 d.1).bind fun e=>bif e then some (.inr ()) else Qbq a b (Ev.wr .i64 (c+1)) else Qbq a b (Ev.wr .i64 (c+1)) else some (.inl ()):=me 136
theorem Qgs a b c d e f h i j k:Qcu a b c d e f h i j k=
 bif (decide (k<(j.length:Int))) then (Sy.at' j k).bind fun l=>(QuZ a l).bind fun m=>bif m then Qcu a b c d e f h i j (Ev.wr .i64 (k+1)) else some (.inr ()) else some (.inl ()):=me 138
theorem Ql7 a b c d e f h i j k l m n:Qf8 a b c d e f h i j k l m n=
 (Qr0 n).bind fun o=>bif o then (Qr1 n).bind fun p=>(QbW a b c d e f h i j k l m n p p.length 0).bind fun
   |.inl _=> some (b,(9:Int))
   |.inr _=> (QfD n).bind fun q=>(QbX a b c d e f h i j k l m n q q q.length 0).bind fun
    |.inl _=> some (b,(2:Int))
    |.inr _=> (Qph).bind fun _=>(Sy.at' (((1:Int),(false,(false,(false,(false,(false,(false,(false,false))))))))::(((0:Int),(true,(false,(true,(false,(false,(false,(true,false))))))))::(((2:Int),(true,(false,(true,(false,(false,(false,(true,false))))))))::(((-1:Int),(true,(true,(false,(false,(false,(false,(true,false))))))))::(((1:Int),(true,(false,(false,(false,(false,(false,(true,false))))))))::(((1:Int),(false,(false,(false,(false,(false,(false,(true,false))))))))::(((-1:Int),(true,(false,(false,(true,(false,(false,(true,false))))))))::(((-1:Int),(false,(false,(false,(true,(false,(false,(false,false))))))))::(((-1:Int),(false,(true,(true,(true,(true,(false,(false,false))))))))::(((1:Int),(false,(false,(false,(false,(false,(true,(false,true))))))))::([]:List (QCO)))))))))))) n.1).bind fun r=>bif r.2.2.2.2.1 then bif (decide (n.2.2.2.2.2.1<(0:Int))) then some (b,(2:Int)) else bif (decide (n.2.2.2.2.2.1<(e.length:Int))) then bif (decide (n.1=(2:Int))) then bif (decide (n.2.2.2.2.1<(0:Int))) then some (b,(2:Int)) else bif (decide (n.2.2.2.2.1<(8:Int))) then (QaG a b c d e f h i j k l m n q q q.length 0).bind fun
               |.inl s=> some (s,(8:Int))
               |.inr s=> (Qa0 a s c d e f h i j k l m n).bind fun t=>bif t then (Qas a s c d e f h i j k l m n q q.length 0).bind fun
                 |.inl _=> some (s,(11:Int))
                 |.inr _=> some (s,(0:Int)) else some (s,(10:Int)) else some (b,(2:Int)) else (QaG a b c d e f h i j k l m n q q q.length 0).bind fun
              |.inl s=> some (s,(8:Int))
              |.inr s=> (Qa0 a s c d e f h i j k l m n).bind fun t=>bif t then (Qas a s c d e f h i j k l m n q q.length 0).bind fun
                |.inl _=> some (s,(11:Int))
                |.inr _=> some (s,(0:Int)) else some (s,(10:Int)) else some (b,(2:Int)) else bif (decide (n.1=(2:Int))) then bif (decide (n.2.2.2.2.1<(0:Int))) then some (b,(2:Int)) else bif (decide (n.2.2.2.2.1<(8:Int))) then (QaG a b c d e f h i j k l m n q q q.length 0).bind fun
              |.inl s=> some (s,(8:Int))
              |.inr s=> (Qa0 a s c d e f h i j k l m n).bind fun t=>bif t then (Qas a s c d e f h i j k l m n q q.length 0).bind fun
                |.inl _=> some (s,(11:Int))
                |.inr _=> some (s,(0:Int)) else some (s,(10:Int)) else some (b,(2:Int)) else (QaG a b c d e f h i j k l m n q q q.length 0).bind fun
          |.inl s=> some (s,(8:Int))
          |.inr s=> (Qa0 a s c d e f h i j k l m n).bind fun t=>bif t then (Qas a s c d e f h i j k l m n q q.length 0).bind fun
            |.inl _=> some (s,(11:Int))
            |.inr _=> some (s,(0:Int)) else some (s,(10:Int)) else some (b,(3:Int)):=me 140
theorem Qk5 a b c:Qey a b c=
 bif (decide (c<(b.2.2.1.length:Int))) then (bif (decide (b.1=(8:Int))) then (Sy.at' b.2.2.1 c).bind fun d=>some (!(decide (d<(0:Int)))) else some true).bind fun d=>bif d then (Sy.at' b.2.2.1 c).bind fun e=>bif (decide (((a.length+(1:Nat)) * (8:Nat))≤(35184372088832:Nat))) then Qey (a++(e::([]:List (Int)))) b (Ev.wr .i64 (c+1)) else none else Qey a b (Ev.wr .i64 (c+1)) else some a:=me 142
theorem Qe6 a b c d e f h i j k l m n o p:QcI a b c d e f h i j k l m n o p=
 bif decide (p<o) then (Sy.at' n p).bind fun q=>(Qg4 a b c d e f h i j k l m q).bind fun r=>bif r then some (.inr p) else QcI a b c d e f h i j k l m n o (Ev.wr .i64 (p+1)) else some (.inl ()):=me 143
theorem Qdk a b c d:Qds a b c d=
 bif decide (d<c) then (Sy.at' a d).bind fun e=>bif (b==e) then some (.inl d) else Qds a b c (Ev.wr .i64 (d+1)) else some (.inr ()):=me 145
theorem Qe7 a b c d:QcJ a b c d=
 bif decide (d<c) then (Sy.at' b d).bind fun e=>(Qm0 a e).bind fun f=>bif f then some (.inr d) else QcJ a b c (Ev.wr .i64 (d+1)) else some (.inl ()):=me 146
theorem Qu8 a:QgK a=
 bif (decide (a.1=(1:Int))) then some (a.2.2.2.2.2.2.2.2.2::([]:List (Int))) else bif (decide (a.1=(2:Int))) then some (a.2.2.2.2.2.2.2.2.2::([]:List (Int))) else bif (decide (a.1=(3:Int))) then some (a.2.2.2.2.2.2.2.2.2::([]:List (Int))) else bif (decide (a.1=(4:Int))) then some (a.2.2.2.2.2.2.2.2.2::([]:List (Int))) else bif (decide (a.1=(5:Int))) then some (a.2.2.2.2.2.2.2.2.2::([]:List (Int))) else bif (decide (a.1=(6:Int))) then some (a.2.2.2.2.2.2.2.2.2::([]:List (Int))) else bif (decide (a.1=(9:Int))) then (Qf9 ([]:List (Int)) a 0).bind fun b=>some b else some ([]:List (Int)):=me 149
theorem Qu9 a b:QgL a b=
 bif decide (b=0) then some true else (QiP a b).bind fun c=>bif c then (QhE a b 0).bind fun
   |.inl _=> some false
   |.inr _=> some true else some false:=me 150
theorem Qx4 a b:QuZ a b=
 (QkF a b 0).bind fun
  |.inl _=> some true
  |.inr _=> some false:=me 152
theorem Qwu a:Qr0 a=
 (Qpg a.1).bind fun ⟨b,c⟩=>(bif c then bif (decide (b.1<(0:Int))) then some (.inl false) else some (.inl (!(decide ((a.2.2.1.length:Int)=b.1)))) else some (.inr ()):Option (((Bool))⊕(Unit))).bind fun
  |.inl d=> bif d then some false else (bif b.2.1 then some true else some (decide (a.2.1=(0:Int)))).bind fun e=>(bif e then bif b.2.2.1 then some (.inl true) else some (.inl (decide (a.2.2.2.1=(0:Int)))) else some (.inr ()):Option (((Bool))⊕(Unit))).bind fun
    |.inl f=> (bif f then bif b.2.2.2.1 then some (.inl true) else some (.inl (decide (a.2.2.2.2.1=(0:Int)))) else some (.inr ()):Option (((Bool))⊕(Unit))).bind fun
     |.inl h=> (bif h then bif b.2.2.2.2.1 then some (.inl true) else some (.inl (decide (a.2.2.2.2.2.1=(0:Int)))) else some (.inr ()):Option (((Bool))⊕(Unit))).bind fun
      |.inl i=> (bif i then bif b.2.2.2.2.2.1 then some (.inl true) else some (.inl (decide ((a.2.2.2.2.2.2.1.length:Int)=(0:Int)))) else some (.inr ()):Option (((Bool))⊕(Unit))).bind fun
       |.inl j=> (bif j then bif b.2.2.2.2.2.2.1 then some (.inl true) else some (.inl (!a.2.2.2.2.2.2.2.1)) else some (.inr ()):Option (((Bool))⊕(Unit))).bind fun
        |.inl k=> (bif k then bif b.2.2.2.2.2.2.2.1 then some (.inl true) else some (.inl (decide (a.2.2.2.2.2.2.2.2.2=(0:Int)))) else some (.inr ()):Option (((Bool))⊕(Unit))).bind fun
         |.inl l=> (bif l then bif b.2.2.2.2.2.2.2.2 then some (.inl true) else some (.inl (decide ((a.2.2.2.2.2.2.2.2.1.length:Int)=(0:Int)))) else some (.inr ()):Option (((Bool))⊕(Unit))).bind fun
          |.inl m=> some m
          |.inr _=> some false
         |.inr _=> some false
        |.inr _=> some false
       |.inr _=> some false
      |.inr _=> some false
     |.inr _=> some false
    |.inr _=> some false
  |.inr _=> some false:=me 153
theorem Qj0 a b c d e f h i j k l m n:Qg4 a b c d e f h i j k l m n=
 (Qfq a b c d e f h i j k l m n.1).bind fun o=>some (!o):=me 155
theorem Qpm a b:Qm0 a b=
 (QdK a b.2).bind fun c=>some (!c):=me 157
theorem QsY a:Qea a=
 bif (decide (a.1=(1:Int))) then some (a.2.1::([]:List (Int))) else bif (decide (a.1=(2:Int))) then some (a.2.1::([]:List (Int))) else bif (decide (a.1=(3:Int))) then some (a.2.1::([]:List (Int))) else bif (decide (a.1=(4:Int))) then some (a.2.1::([]:List (Int))) else bif (decide (a.1=(6:Int))) then some (a.2.1::([]:List (Int))) else bif (decide (a.1=(9:Int))) then (QeX ([]:List (Int)) a 0).bind fun b=>some b else some ([]:List (Int)):=me 158
theorem Qk6 a b c:Qez a b c=
 bif (decide (c<(b.2.2.2.2.2.2.1.length:Int))) then (Sy.at' b.2.2.2.2.2.2.1 c).bind fun d=>bif (decide (d<(0:Int))) then Qez a b (Ev.wr .i64 (c+1)) else bif (decide (((a.length+(1:Nat)) * (8:Nat))≤(35184372088832:Nat))) then Qez (a++(d::([]:List (Int)))) b (Ev.wr .i64 (c+1)) else none else some a:=me 161
theorem Qwv a:Qr1 a=
 (Qpg a.1).bind fun ⟨b,c⟩=>(bif c then some (decide (b.1=(0:Int))) else some true).bind fun d=>bif d then some ([]:List (Int)) else bif b.2.2.2.2.2.1 then bif (decide ((a.2.2.1.length * (8:Nat))≤(35184372088832:Nat))) then bif (decide (((a.2.2.1.length+a.2.2.2.2.2.2.1.length) * (8:Nat))≤(35184372088832:Nat))) then (QfE ([]:List (Int)) (a.2.2.1++a.2.2.2.2.2.2.1) ((a.2.2.1++a.2.2.2.2.2.2.1).length:Int) 0).bind fun e=>some e else none else none else bif (decide ((a.2.2.1.length * (8:Nat))≤(35184372088832:Nat))) then some a.2.2.1 else none:=me 162
theorem Qva a:QfD a=
 (Qpg a.1).bind fun ⟨b,c⟩=>(bif b.2.1 then some (a.2.1::([]:List (Int))) else some ([]:List (Int)):Option (((List (Int))))).bind fun d=>(bif b.2.2.2.2.2.2.2.2 then (Qga d a.2.2.2.2.2.2.2.2.1 a.2.2.2.2.2.2.2.2.1.length 0).bind fun e=>some e else some d:Option (((List (Int))))).bind fun e=>some e:=me 166
theorem Qk7 a b c:Qf9 a b c=
 bif (decide (c<(b.2.2.2.2.2.2.2.2.1.length:Int))) then (Sy.at' b.2.2.2.2.2.2.2.2.1 c).bind fun d=>bif (decide (((a.length+(1:Nat)) * (8:Nat))≤(35184372088832:Nat))) then Qf9 (a++(d.2::([]:List (Int)))) b (Ev.wr .i64 (c+1)) else none else some a:=me 167
theorem Qk8 a b c:QhE a b c=
 (Sy.at' a (Ev.wr .i64 (b - 1))).bind fun d=>bif (decide (c<(d.2.length:Int))) then (Sy.at' d.2 c).bind fun e=>bif (decide ((0:Int)<(e.2.length:Int))) then some (.inl ()) else QhE a b (Ev.wr .i64 (c+1)) else some (.inr ()):=me 168
theorem Qm2 a b c:QkF a b c=
 bif (decide (c<(a.length:Int))) then (Sy.at' a c).bind fun d=>bif decide (d=b) then some (.inl ()) else QkF a b (Ev.wr .i64 (c+1)) else some (.inr ()):=me 169
theorem QAp a:Qpg a=
 (bif (decide (a<(0:Int))) then some true else some (!(decide (a<(10:Int))))).bind fun b=>bif b then some (((0:Int),(false,(false,(false,(false,(false,(false,(false,false)))))))),false) else (Qph).bind fun _=>(Sy.at' (((1:Int),(false,(false,(false,(false,(false,(false,(false,false))))))))::(((0:Int),(true,(false,(true,(false,(false,(false,(true,false))))))))::(((2:Int),(true,(false,(true,(false,(false,(false,(true,false))))))))::(((-1:Int),(true,(true,(false,(false,(false,(false,(true,false))))))))::(((1:Int),(true,(false,(false,(false,(false,(false,(true,false))))))))::(((1:Int),(false,(false,(false,(false,(false,(false,(true,false))))))))::(((-1:Int),(true,(false,(false,(true,(false,(false,(true,false))))))))::(((-1:Int),(false,(false,(false,(true,(false,(false,(false,false))))))))::(((-1:Int),(false,(true,(true,(true,(true,(false,(false,false))))))))::(((1:Int),(false,(false,(false,(false,(false,(true,(false,true))))))))::([]:List (QCO)))))))))))) a).bind fun c=>some (c,true):=me 170
theorem Qjt a b:QdK a b=
 (Qic a b).bind fun c=>some (!(decide (c<(0:Int)))):=me 172
theorem Qgt a b c d e f h i j k:Qcv a b c d e f h i j k=
 bif (decide (k<(j.length:Int))) then (Sy.at' j k).bind fun l=>bif (decide (l<(0:Int))) then some (.inl ()) else bif (decide (l<(h.2.2.2.1.length:Int))) then Qcv a b c d e f h i j (Ev.wr .i64 (k+1)) else some (.inl ()) else some (.inr ()):=me 173
theorem QfF a b c d e f h i j k l m n o p q:QbW a b c d e f h i j k l m n o p q=
 bif decide (q<p) then (Sy.at' o q).bind fun r=>(bif (decide (r<(0:Int))) then some true else some (!(decide (r<(c.length:Int))))).bind fun s=>(bif s then some true else (Sy.at' c r).bind fun t=>some (!t)).bind fun t=>bif t then some (.inl ()) else QbW a b c d e f h i j k l m n o p (Ev.wr .i64 (q+1)) else some (.inr ()):=me 175
theorem Qww a:Qib a=
 (Qpg a.1).bind fun ⟨b,c⟩=>(bif b.2.2.2.2.2.2.2.1 then some (a.2.2.2.2.2.2.2.2.2::([]:List (Int))) else some ([]:List (Int)):Option (((List (Int))))).bind fun d=>(bif b.2.2.2.2.2.2.2.2 then (Qg5 d a.2.2.2.2.2.2.2.2.1 a.2.2.2.2.2.2.2.2.1.length 0).bind fun e=>some e else some d:Option (((List (Int))))).bind fun e=>some e:=me 177
theorem Qj1 a b c:QeX a b c=
 bif (decide (c<(b.2.2.2.2.2.2.2.2.1.length:Int))) then (Sy.at' b.2.2.2.2.2.2.2.2.1 c).bind fun d=>bif (decide (((a.length+d.1.length) * (8:Nat))≤(35184372088832:Nat))) then QeX (a++d.1) b (Ev.wr .i64 (c+1)) else none else some a:=me 179
theorem Ql8 a b c d:QfE a b c d=
 bif decide (d<c) then (Sy.at' b d).bind fun e=>bif (decide (e<(0:Int))) then QfE a b c (Ev.wr .i64 (d+1)) else bif (decide (((a.length+(1:Nat)) * (8:Nat))≤(35184372088832:Nat))) then QfE (a++(e::([]:List (Int)))) b c (Ev.wr .i64 (d+1)) else none else some a:=me 182
theorem Qk9 a b c d:Qga a b c d=
 bif decide (d<c) then (Sy.at' b d).bind fun e=>bif (decide (((a.length+e.1.length) * (8:Nat))≤(35184372088832:Nat))) then Qga (a++e.1) b c (Ev.wr .i64 (d+1)) else none else some a:=me 186
theorem Qop:Qph=
 some ():=me 187
theorem Qlk a b:Qic a b=
 (QcK a b b.length 0).bind fun
  |.inl _=> some (-1:Int)
  |.inr c=> some c:=me 189
theorem Qju a b c d e f h i j k l m n:QdL a b c d e f h i j k l m n=
 (Qid a b c d e f h i j k l m n).bind fun o=>some (!(decide (o<(0:Int)))):=me 190
theorem Qhc a b c d e f h i j k:QcW a b c d e f h i j k=
 bif (decide (k<(j.length:Int))) then (Sy.at' j k).bind fun l=>bif (decide (l<(0:Int))) then some (.inl b) else bif (decide (l<(h.2.2.2.2.1.length:Int))) then (Sy.at' b l).bind fun m=>bif m then some (.inl b) else QcW a (List.set b l.toNat true) c d e f h i j (Ev.wr .i64 (k+1)) else some (.inl b) else some (.inr b):=me 191
theorem Ql9 a b c d:Qg5 a b c d=
 bif decide (d<c) then (Sy.at' b d).bind fun e=>bif (decide (((a.length+(1:Nat)) * (8:Nat))≤(35184372088832:Nat))) then Qg5 (a++(e.2::([]:List (Int)))) b c (Ev.wr .i64 (d+1)) else none else some a:=me 193
theorem Qe8 a b c d:QcK a b c d=
 bif decide (d<c) then (Sy.at' b d).bind fun e=>(QkW a e).bind fun f=>bif f then some (.inr d) else QcK a b c (Ev.wr .i64 (d+1)) else some (.inl ()):=me 197
theorem Qhp a b c d e f:QeA a b c d e f=
 bif (decide (f<(c.2.2.2.2.1.length:Int))) then (Sy.at' a f).bind fun h=>bif h then QeA a b c d e (Ev.wr .i64 (f+1)) else some (.inl f) else some (.inr ()):=me 198
theorem Qgu a b c d e f h i j k:QaV a b c d e f h i j k=
 bif (decide (k<(j.length:Int))) then (Sy.at' j k).bind fun l=>bif decide (l<h.2.1) then some (.inl c) else (Sy.at' c l).bind fun m=>bif m then some (.inl c) else QaV a b (List.set c l.toNat true) d e f h i j (Ev.wr .i64 (k+1)) else some (.inr c):=me 199
theorem QfG a b c d e f h i j k l m n o p q r:QbX a b c d e f h i j k l m n o p q r=
 bif decide (r<q) then (Sy.at' p r).bind fun s=>(bif (decide (s<(0:Int))) then some true else some (!(decide (s<(j.length:Int))))).bind fun t=>bif t then some (.inl ()) else QbX a b c d e f h i j k l m n o p q (Ev.wr .i64 (r+1)) else some (.inr ()):=me 201
theorem Qll a b c d e f h i j k l m n:Qid a b c d e f h i j k l m n=
 (QcL a b c d e f h i j k l m n n.length 0).bind fun
  |.inl _=> some (-1:Int)
  |.inr o=> some o:=me 203
theorem Qny a b:QkW a b=
 (Sy.at' a b).bind fun c=>some (!c):=me 206
theorem Qeh a b c d e f h i j k:QcX a b c d e f h i j k=
 bif (decide (k<(j.length:Int))) then bif (decide ((a.length * (8:Nat))≤(35184372088832:Nat))) then (bif (decide (i.1=(9:Int))) then (Sy.at' i.2.2.2.2.2.2.2.2.1 k).bind fun l=>bif (decide (((a.length+l.1.length) * (8:Nat))≤(35184372088832:Nat))) then some (a++l.1) else none else (Qea i).bind fun l=>bif (decide (((a.length+l.length) * (8:Nat))≤(35184372088832:Nat))) then some (a++l) else none:Option (((List (Int))))).bind fun l=>(Sy.at' j k).bind fun m=>(Qd3 b c l d e f h m).bind fun ⟨n,o,p,q⟩=>bif decide (q=0) then QcX a n o p q f h i j (Ev.wr .i64 (k+1)) else some (.inl (n,o,p,q)) else none else some (.inr (b,c,d,e)):=me 207
theorem Qgg a b c d e f h i j k l m n o p q r s:QaR a b c d e f h i j k l m n o p q r s=
 bif decide (s<r) then (Sy.at' q s).bind fun t=>(bif (decide (t<(0:Int))) then some true else some (!(decide (t<(k.length:Int))))).bind fun u=>(bif u then some true else (Sy.at' a t).bind fun v=>some v).bind fun v=>bif v then some (.inl a) else (Sy.at' a t).bind fun w=>QaR (List.set a t.toNat true) b c d e f h i j k l m n o p q r (Ev.wr .i64 (s+1)) else some (.inr a):=me 208
theorem Qe9 a b c d e f h i j k l m n o p:QcL a b c d e f h i j k l m n o p=
 bif decide (p<o) then (Sy.at' n p).bind fun q=>(Qg6 a b c d e f h i j k l m q).bind fun r=>bif r then some (.inr p) else QcL a b c d e f h i j k l m n o (Ev.wr .i64 (p+1)) else some (.inl ()):=me 210
theorem Qhq a b c d e f:Qc7 a b c d e f=
 bif (decide (f<(c.2.2.2.1.length:Int))) then (Sy.at' b f).bind fun h=>bif h then Qc7 a b c d e (Ev.wr .i64 (f+1)) else some (.inl ()) else some (.inr ()):=me 211
theorem QsZ a b c:Qfr a b c=
 bif (decide (c.1=(0:Int))) then (Sy.at' c.2.2.1 0).bind fun d=>(Qbx b d).bind fun e=>some (decide (e=b.2.2.1)) else bif (decide (c.1=(1:Int))) then (Qbx b c.2.1).bind fun d=>some (decide (d=0)) else bif (decide (c.1=(2:Int))) then (bif (decide (c.2.2.2.2.1<(5:Int))) then some (0:Int) else some (1:Int)).bind fun d=>(Sy.at' c.2.2.1 0).bind fun e=>(Qbx b e).bind fun f=>bif decide (f=0) then (Sy.at' c.2.2.1 1).bind fun h=>(Qbx b h).bind fun i=>bif decide (i=0) then (Qbx b c.2.1).bind fun j=>some (decide (j=d)) else some false else some false else bif (decide (c.1=(3:Int))) then (Qbx b c.2.1).bind fun d=>(Qg8 a b d c.2.2.2.1 c.2.2.1 (-1:Int)).bind fun e=>some e else bif (decide (c.1=(4:Int))) then (Sy.at' c.2.2.1 0).bind fun d=>(Qbx b c.2.1).bind fun e=>(Qbx b d).bind fun f=>bif decide (e=f) then (QgL a.1 e).bind fun h=>some (!h) else some false else bif (decide (c.1=(5:Int))) then (Sy.at' c.2.2.1 0).bind fun d=>(Qbx b d).bind fun e=>(QgL a.1 e).bind fun f=>some (!f) else bif (decide (c.1=(6:Int))) then (Qg7 a b c.2.2.2.2.2.1 c.2.2.1).bind fun d=>bif d then (Sy.at' a.2 c.2.2.2.2.2.1).bind fun e=>(Qbx b c.2.1).bind fun f=>some (decide (f=e.2.2.1)) else some false else bif (decide (c.1=(7:Int))) then (Qg7 a b c.2.2.2.2.2.1 c.2.2.1).bind fun d=>bif d then (Sy.at' a.2 c.2.2.2.2.2.1).bind fun e=>some (decide (b.2.2.1=e.2.2.1)) else some false else bif (decide (c.1=(8:Int))) then (bif (decide (c.2.2.2.2.1<(0:Int))) then some true else some (!(decide (c.2.2.2.2.1<(c.2.2.1.length:Int))))).bind fun d=>(bif d then some true else (Qg8 a b b.2.2.1 c.2.2.2.1 c.2.2.1 c.2.2.2.2.1).bind fun e=>some (!e)).bind fun e=>bif e then some false else (Qg7 a b c.2.2.2.2.2.1 c.2.2.2.2.2.2.1).bind fun f=>bif f then (Sy.at' a.2 c.2.2.2.2.2.1).bind fun h=>(Sy.at' a.1 (Ev.wr .i64 (b.2.2.1 - 1))).bind fun i=>(Sy.at' i.2 c.2.2.2.1).bind fun j=>(Sy.at' j.2 c.2.2.2.2.1).bind fun k=>some (decide (h.2.2.1=k)) else some false else (Sy.at' c.2.2.1 0).bind fun d=>(Qbx b d).bind fun e=>bif (decide (e<(1:Int))) then some false else (Sy.at' a.1 (Ev.wr .i64 (e - 1))).bind fun f=>bif (decide ((c.2.2.2.2.2.2.2.2.1.length:Int)=(f.2.length:Int))) then bif c.2.2.2.2.2.2.2.1 then (QgL a.1 e).bind fun h=>bif h then some false else (Qdz a b c e 0).bind fun
   |.inl _=> some false
   |.inr _=> some true else (Qdz a b c e 0).bind fun
   |.inl _=> some false
   |.inr _=> some true else some false:=me 212
theorem Qda a b c d e f h i j k l m n o p q r:QaG a b c d e f h i j k l m n o p q r=
 bif decide (r<q) then (Sy.at' p r).bind fun s=>(Sy.at' b s).bind fun t=>bif t then some (.inl b) else QaG a (List.set b s.toNat true) c d e f h i j k l m n o p q (Ev.wr .i64 (r+1)) else some (.inr b):=me 214
theorem Qj2 a b c d e f h i j k l m n:Qg6 a b c d e f h i j k l m n=
 bif n.2 then (QhK d n.1).bind fun o=>some o else some false:=me 216
theorem Qs0 a b c:Qfs a b c=
 (Qea c).bind fun d=>(QdA a b c d 0).bind fun
  |.inl _=> some false
  |.inr _=> some true:=me 217
theorem Qdl a b c d e f h i j k l m n o p q:Qcc a b c d e f h i j k l m n o p q=
 bif decide (q<p) then (Sy.at' o q).bind fun r=>(QfD n).bind fun s=>(bif (decide (n.1=(9:Int))) then (Sy.at' n.2.2.2.2.2.2.2.2.1 q).bind fun t=>some t.1 else some s:Option (((List (Int))))).bind fun t=>(Qcd a b c d e f h i j k l m n r t o p q t t.length 0).bind fun u=>(Qc6 a b u d e f h i j k l m r).bind fun ⟨v,w,x,y,z⟩=>bif decide (z=0) then (Qcf v w x d e f h i j k l m n o p q t t.length 0).bind fun A=>Qcc v w A d e f h i j k l m n o p (Ev.wr .i64 (q+1)) else some (.inr (v,w,x,y,z)) else some (.inl (a,b,c)):=me 218
theorem Qvb a b:Qbx a b=
 (Sy.at' a.2.2.2.1 b).bind fun c=>some c.1:=me 219
theorem Qsf a b c d:Qg7 a b c d=
 (Sy.at' a.2 c).bind fun e=>(bif (decide (e.2.1<(0:Int))) then some true else some (decide ((e.2.2.2.1.length:Int)<e.2.1))).bind fun f=>(bif f then some true else some (!(decide ((d.length:Int)=e.2.1)))).bind fun h=>bif h then some false else (Qgb b e d 0).bind fun
   |.inl _=> some false
   |.inr _=> some true:=me 220
theorem Qsg a b c d e f:Qg8 a b c d e f=
 (bif (decide (c<(1:Int))) then some true else some (decide (d<(0:Int)))).bind fun h=>(bif h then some true else (Sy.at' a.1 (Ev.wr .i64 (c - 1))).bind fun i=>some (!(decide (d<(i.2.length:Int))))).bind fun i=>(bif i then some true else (Sy.at' a.1 (Ev.wr .i64 (c - 1))).bind fun j=>(Sy.at' j.2 d).bind fun k=>some (!(decide ((e.length:Int)=(k.2.length:Int))))).bind fun j=>bif j then some false else (Qeb a b c d e f 0).bind fun
   |.inl _=> some false
   |.inr _=> some true:=me 221
theorem Qvc a b:QhK a b=
 ((QiQ a b).bind fun c=>bif c then (Qpi a b).bind fun d=>(QdM d).bind fun e=>some (!e) else some false).bind fun c=>some c:=me 222
theorem Qma a b c d e f h i j k l m n:Qa0 a b c d e f h i j k l m n=
 bif (decide (n.1=(0:Int))) then (Sy.at' n.2.2.1 0).bind fun o=>(Qay a b c d e f h i j k l m o).bind fun p=>some (decide (p=i)) else bif (decide (n.1=(1:Int))) then (Qay a b c d e f h i j k l m n.2.1).bind fun o=>some (decide (o=0)) else bif (decide (n.1=(2:Int))) then (bif (decide (n.2.2.2.2.1<(5:Int))) then some (0:Int) else some (1:Int)).bind fun o=>((QdR a b c ((0:Int)::((0:Int)::([]:List (Int)))) d e f h i j k l m n.2.2.1 (-1:Int)).bind fun p=>bif p then (Qay a b c d e f h i j k l m n.2.1).bind fun q=>some (decide (q=o)) else some false).bind fun p=>some p else bif (decide (n.1=(3:Int))) then (Qay a b c d e f h i j k l m n.2.1).bind fun o=>(Qdf a b c d e f h i j k l m o n.2.2.2.1).bind fun
   |.inl _=> some false
   |.inr p=> (Qcg a b c d e f h i j k l m n.2.2.1 p (-1:Int)).bind fun q=>some q else bif (decide (n.1=(4:Int))) then (Sy.at' n.2.2.1 0).bind fun o=>(Qay a b c d e f h i j k l m n.2.1).bind fun p=>(Qay a b c d e f h i j k l m o).bind fun q=>bif decide (p=q) then (Qce a b c d e f h i j k l m n.2.1).bind fun r=>some (!r) else some false else bif (decide (n.1=(5:Int))) then (Sy.at' n.2.2.1 0).bind fun o=>(Qce a b c d e f h i j k l m o).bind fun p=>some (!p) else bif (decide (n.1=(6:Int))) then (Qc8 a b c d e f h i j k l m n.2.2.2.2.2.1 n.2.2.1).bind fun o=>bif o then (Sy.at' e n.2.2.2.2.2.1).bind fun p=>(Qay a b c d e f h i j k l m n.2.1).bind fun q=>some (decide (q=p.2.2.1)) else some false else bif (decide (n.1=(7:Int))) then (Qc8 a b c d e f h i j k l m n.2.2.2.2.2.1 n.2.2.1).bind fun o=>bif o then (Sy.at' e n.2.2.2.2.2.1).bind fun p=>some (decide (i=p.2.2.1)) else some false else bif (decide (n.1=(8:Int))) then (Qdf a b c d e f h i j k l m i n.2.2.2.1).bind fun
             |.inl _=> some false
             |.inr o=> (bif (decide (n.2.2.2.2.1<(0:Int))) then some true else some (!(decide (n.2.2.2.2.1<(o.length:Int))))).bind fun p=>(bif p then some true else (Qcg a b c d e f h i j k l m n.2.2.1 o n.2.2.2.2.1).bind fun q=>some (!q)).bind fun q=>bif q then some false else (Qc8 a b c d e f h i j k l m n.2.2.2.2.2.1 n.2.2.2.2.2.2.1).bind fun r=>bif r then (Sy.at' e n.2.2.2.2.2.1).bind fun s=>(Sy.at' o n.2.2.2.2.1).bind fun t=>some (decide (s.2.2.1=t)) else some false else (Sy.at' n.2.2.1 0).bind fun o=>(Qay a b c d e f h i j k l m o).bind fun p=>bif (decide (p<(1:Int))) then some false else (Sy.at' d (Ev.wr .i64 (p - 1))).bind fun q=>bif (decide ((n.2.2.2.2.2.2.2.2.1.length:Int)=(q.2.length:Int))) then bif n.2.2.2.2.2.2.2.1 then (Qce a b c d e f h i j k l m o).bind fun r=>bif r then some false else (Qa5 a b c d e f h i j k l m p n.2.2.2.2.2.2.2.2.1 n.2.2.2.2.2.2.2.2.1.length 0).bind fun
               |.inl _=> some false
               |.inr _=> some true else (Qa5 a b c d e f h i j k l m p n.2.2.2.2.2.2.2.2.1 n.2.2.2.2.2.2.2.2.1.length 0).bind fun
                   |.inl _=> some false
                   |.inr _=> some true else some false:=me 223
theorem Qj3 a b c d e:Qdz a b c d e=
 bif (decide (e<(c.2.2.2.2.2.2.2.2.1.length:Int))) then (Sy.at' c.2.2.2.2.2.2.2.2.1 e).bind fun f=>(Qg8 a b d e f.1 (-1:Int)).bind fun h=>bif h then Qdz a b c d (Ev.wr .i64 (e+1)) else some (.inl ()) else some (.inr ()):=me 224
theorem Qj4 a b c d e:QdA a b c d e=
 bif (decide (e<(d.length:Int))) then bif (decide (c.1=(9:Int))) then bif c.2.2.2.2.2.2.2.1 then (Sy.at' d e).bind fun f=>(Sy.at' b.2.2.2.1 f).bind fun h=>bif (!h.2) then QdA a b c d (Ev.wr .i64 (e+1)) else some (.inl ()) else (Sy.at' d e).bind fun f=>(Qbx b f).bind fun h=>(QgL a.1 h).bind fun i=>(Sy.at' b.2.2.2.1 f).bind fun j=>bif (j.2==(!i)) then QdA a b c d (Ev.wr .i64 (e+1)) else some (.inl ()) else (Sy.at' d e).bind fun f=>(Sy.at' b.2.2.2.1 f).bind fun h=>bif (!h.2) then QdA a b c d (Ev.wr .i64 (e+1)) else some (.inl ()) else some (.inr ()):=me 225
theorem Qgh a b c d e f h i j k l m n o p q r s t u v:Qcd a b c d e f h i j k l m n o p q r s t u v=
 bif decide (v<u) then (Sy.at' t v).bind fun w=>(Sy.at' c w).bind fun x=>Qcd a b (List.set c w.toNat true) d e f h i j k l m n o p q r s t u (Ev.wr .i64 (v+1)) else some c:=me 226
theorem Qi6 a b c d:Qgb a b c d=
 bif (decide (d<(c.length:Int))) then (Sy.at' c d).bind fun e=>bif (decide (e<(0:Int))) then some (.inl ()) else (Sy.at' b.2.2.2.1 d).bind fun f=>(Qbx a e).bind fun h=>bif decide (h=f.1) then Qgb a b c (Ev.wr .i64 (d+1)) else some (.inl ()) else some (.inr ()):=me 227
theorem Qi7 a b c d e f h:Qeb a b c d e f h=
 bif (decide (h<(e.length:Int))) then bif decide (h=f) then (Sy.at' e h).bind fun i=>bif (decide (i=(-1:Int))) then Qeb a b c d e f (Ev.wr .i64 (h+1)) else some (.inl ()) else (Sy.at' e h).bind fun i=>bif (decide (i<(0:Int))) then some (.inl ()) else (Sy.at' a.1 (Ev.wr .i64 (c - 1))).bind fun j=>(Sy.at' j.2 d).bind fun k=>(Sy.at' k.2 h).bind fun l=>(Qbx b i).bind fun m=>bif decide (m=l) then Qeb a b c d e f (Ev.wr .i64 (h+1)) else some (.inl ()) else some (.inr ()):=me 228
theorem Qvd a b:Qpi a b=
 (bif (decide (b<(1:Int))) then some true else some (decide ((a.length:Int)<b))).bind fun c=>bif c then some ([]:List (GCon)) else (Sy.at' a (Ev.wr .i64 (b - 1))).bind fun d=>some d.2:=me 229
theorem Qjv a:QdM a=
 (Qie a).bind fun b=>some (!(decide (b<(0:Int)))):=me 231
theorem QkJ a b c d e f h i j k l m n:Qay a b c d e f h i j k l m n=
 (Sy.at' j n).bind fun o=>some o.1:=me 232
theorem Qmb a b c d e f h i j k l m n o p:QdR a b c d e f h i j k l m n o p=
 bif (decide ((o.length:Int)=(d.length:Int))) then (QbY a b c d e f h i j k l m n p o o.length 0).bind fun
   |.inl _=> some false
   |.inr _=> some true else some false:=me 233
theorem QkK a b c d e f h i j k l m n:Qce a b c d e f h i j k l m n=
 (Qay a b c d e f h i j k l m n).bind fun o=>(QhK d o).bind fun p=>some p:=me 234
theorem QmP a b c d e f h i j k l m n o:Qc8 a b c d e f h i j k l m n o=
 (Qft a b c d e f h i j k l m n).bind fun ⟨p,q⟩=>(bif q then (QdR a b c p d e f h i j k l m o (-1:Int)).bind fun r=>some r else some false).bind fun r=>some r:=me 235
theorem Qlm a b c d e f h i j k l m n o:Qdf a b c d e f h i j k l m n o=
 (bif (decide (n<(1:Int))) then some true else some (decide (o<(0:Int)))).bind fun p=>(bif p then some true else (Sy.at' d (Ev.wr .i64 (n - 1))).bind fun q=>some (!(decide (o<(q.2.length:Int))))).bind fun q=>bif q then some (.inl ()) else (Sy.at' d (Ev.wr .i64 (n - 1))).bind fun r=>(Sy.at' r.2 o).bind fun s=>some (.inr s.2):=me 236
theorem Qgi a b c d e f h i j k l m n o p q r s t:Qcf a b c d e f h i j k l m n o p q r s t=
 bif decide (t<s) then (Sy.at' r t).bind fun u=>(Sy.at' c u).bind fun v=>Qcf a b (List.set c u.toNat false) d e f h i j k l m n o p q r s (Ev.wr .i64 (t+1)) else some c:=me 237
theorem Qln a:Qie a=
 (QcM a a.length 0).bind fun
  |.inl _=> some (-1:Int)
  |.inr b=> some b:=me 239
theorem QfH a b c d e f h i j k l m n o p q r:QbY a b c d e f h i j k l m n o p q r=
 bif decide (r<q) then (Sy.at' p r).bind fun s=>bif decide (r=o) then bif (decide (s=(-1:Int))) then QbY a b c d e f h i j k l m n o p q (Ev.wr .i64 (r+1)) else some (.inl ()) else bif (decide (s<(0:Int))) then some (.inl ()) else (Sy.at' k s).bind fun t=>(Sy.at' d r).bind fun u=>bif decide (t.1=u) then QbY a b c d e f h i j k l m n o p q (Ev.wr .i64 (r+1)) else some (.inl ()) else some (.inr ()):=me 240
theorem Qlo a b c d e f h i j k l m n:Qft a b c d e f h i j k l m n=
 (Sy.at' e n).bind fun o=>(bif (decide (o.2.1<(0:Int))) then some true else some (decide ((o.2.2.2.1.length:Int)<o.2.1))).bind fun p=>bif p then some (([]:List (Int)),false) else bif (decide (o.2.1<(0:Int))) then none else bif (decide ((o.2.2.2.1.length:Int)<o.2.1)) then none else (QbE a b c ([]:List (Int)) d e f h i j k l m (List.take o.2.1.toNat o.2.2.2.1) ((List.take o.2.1.toNat o.2.2.2.1).length:Int) 0).bind fun q=>some (q,true):=me 241
theorem QkL a b c d e f h i j k l m n o p:Qcg a b c d e f h i j k l m n o p=
 bif (decide ((n.length:Int)=(o.length:Int))) then (Qbr a b c d e f h i j k l m o p n n.length 0).bind fun
   |.inl _=> some false
   |.inr _=> some true else some false:=me 242
theorem QfI a b c d e f h i j k l m n o p q:Qa5 a b c d e f h i j k l m n o p q=
 bif decide (q<p) then (Sy.at' o q).bind fun r=>(Sy.at' d (Ev.wr .i64 (n - 1))).bind fun s=>(Sy.at' s.2 q).bind fun t=>(Qcg a b c d e f h i j k l m r.1 t.2 (-1:Int)).bind fun u=>bif u then Qa5 a b c d e f h i j k l m n o p (Ev.wr .i64 (q+1)) else some (.inl ()) else some (.inr ()):=me 243
theorem Qfa a b c:QcM a b c=
 bif decide (c<b) then (Sy.at' a c).bind fun d=>(Qp0 d).bind fun e=>bif e then some (.inr c) else QcM a b (Ev.wr .i64 (c+1)) else some (.inl ()):=me 244
theorem Qfb a b c d e f h i j k l m n o p q:QbE a b c d e f h i j k l m n o p q=
 bif decide (q<p) then (Sy.at' o q).bind fun r=>bif (decide (((d.length+(1:Nat)) * (8:Nat))≤(35184372088832:Nat))) then QbE a b c (d++(r.1::([]:List (Int)))) e f h i j k l m n o p (Ev.wr .i64 (q+1)) else none else some d:=me 245
theorem QfJ a b c d e f h i j k l m n o p q:Qas a b c d e f h i j k l m n o p q=
 bif decide (q<p) then (Sy.at' o q).bind fun r=>(Sy.at' j r).bind fun s=>bif (decide (n.1=(9:Int))) then bif n.2.2.2.2.2.2.2.1 then bif (!s.2) then Qas a b c d e f h i j k l m n o p (Ev.wr .i64 (q+1)) else some (.inl ()) else (QhK d s.1).bind fun t=>bif (s.2==(!t)) then Qas a b c d e f h i j k l m n o p (Ev.wr .i64 (q+1)) else some (.inl ()) else bif (!s.2) then Qas a b c d e f h i j k l m n o p (Ev.wr .i64 (q+1)) else some (.inl ()) else some (.inr ()):=me 246
theorem QeD a b c d e f h i j k l m n o p q r:Qbr a b c d e f h i j k l m n o p q r=
 bif decide (r<q) then (Sy.at' p r).bind fun s=>bif decide (r=o) then bif (decide (s=(-1:Int))) then Qbr a b c d e f h i j k l m n o p q (Ev.wr .i64 (r+1)) else some (.inl ()) else bif (decide (s<(0:Int))) then some (.inl ()) else (Sy.at' j s).bind fun t=>(Sy.at' n r).bind fun u=>bif decide (t.1=u) then Qbr a b c d e f h i j k l m n o p q (Ev.wr .i64 (r+1)) else some (.inl ()) else some (.inr ()):=me 247
theorem Qsh a:Qp0 a=
 some (decide ((0:Int)<(a.2.length:Int))):=me 248
theorem Qj5 a b:Qec a b=
 (Qnv).bind fun c=>bif c then (Qr2 a).bind fun d=>bif d then (Qif a b).bind fun ⟨e,f⟩=>(Qnw a b).bind fun ⟨h,i⟩=>(Qgc a).bind fun ⟨j,k,l⟩=>(Qjn a).bind fun ⟨m,n,o⟩=>(bif decide (e=h) then some (decide (f=i)) else some false).bind fun p=>(bif p then some (decide (j=m)) else some false).bind fun q=>(bif q then some (decide (k=n)) else some false).bind fun r=>(bif r then some (decide (l=o)) else some false).bind fun s=>some s else some true else some false:=me 255
theorem Qwx a:Qr2 a=
 (Qg9 a 0).bind fun
  |.inl _=> some false
  |.inr _=> (Qha a 0).bind fun
   |.inl _=> some false
   |.inr _=> (bif (decide ((5:Int)<(a.2.length:Int))) then some false else some (!(decide ((10:Int)<(a.1.length:Int))))).bind fun b=>some b:=me 256
theorem Qoq a b:Qif a b=
 (QmI a).bind fun c=>bif decide (c=0) then (bif (decide (b<(0:Int))) then some true else some (!(decide (b<(a.2.length:Int))))).bind fun d=>bif d then some ((0:Int),(2:Int)) else (QeY a b).bind fun ⟨e,f,h,i,j,k,l,m,n,o,p⟩=>(Qdg e f h i j k l m n o p (true)).bind fun ⟨q,r⟩=>some (q,r) else some ((0:Int),(3:Int)):=me 257
theorem Qmc a b:Qg9 a b=
 bif (decide (b<(a.1.length:Int))) then ((Sy.at' a.1 b).bind fun c=>bif (decide ((16:Int)<(c.2.length:Int))) then some true else some (decide ((60:Int)<(c.1.length:Int)))).bind fun c=>bif c then some (.inl ()) else Qg9 a (Ev.wr .i64 (b+1)) else some (.inr ()):=me 258
theorem Qs1 a b:Qnw a b=
 (QkC a).bind fun c=>bif decide (c=0) then (bif (decide (b<(0:Int))) then some true else some (!(decide (b<(a.2.length:Int))))).bind fun d=>bif d then some ((0:Int),(2:Int)) else (QkG a b (true)).bind fun ⟨e,f⟩=>some (e,f) else some ((0:Int),(3:Int)):=me 259
theorem Qpn a b:QeY a b=
 (Sy.at' a.2 b).bind fun c=>(Qc9 ([]:List (Bool)) ([]:List (Int)) a a.1 a.2 c.1 c.2.1 c.2.2.1 c.2.2.2.1 c.2.2.2.2.1 c.2.2.2.2.2.1 c.2.2.2.2.2.2 c.2.2.2.1 c.2.2.2.1.length 0).bind fun ⟨d,e⟩=>bif c.2.2.2.2.2.2 then some (d,e,a.1,a.2,c.1,c.2.1,c.2.2.1,c.2.2.2.1,c.2.2.2.2.1,c.2.2.2.2.2.1,c.2.2.2.2.2.2) else (QcR d e a.1 a.2 c.1 c.2.1 c.2.2.1 c.2.2.2.1 c.2.2.2.2.1 c.2.2.2.2.2.1 c.2.2.2.2.2.2 c.2.2.2.2.2.1).bind fun f=>some (d,f,a.1,a.2,c.1,c.2.1,c.2.2.1,c.2.2.2.1,c.2.2.2.2.1,c.2.2.2.2.2.1,c.2.2.2.2.2.2):=me 260
theorem Qmd a:Qgc a=
 (Qon a (true)).bind fun ⟨b,c,d⟩=>some (b,c,d):=me 261
theorem Qme a b:Qha a b=
 bif (decide (b<(a.2.length:Int))) then (Sy.at' a.2 b).bind fun c=>(bif (decide ((60:Int)<(c.2.2.2.2.1.length:Int))) then some true else some (decide ((60:Int)<(c.2.2.2.1.length:Int)))).bind fun d=>(bif d then some true else some (decide ((70:Int)<(c.1.length:Int)))).bind fun e=>bif e then some (.inl ()) else (Qhb a c b 0).bind fun
      |.inl _=> some (.inl ())
      |.inr _=> Qha a (Ev.wr .i64 (b+1)) else some (.inr ()):=me 262
theorem Qs2 a b c:QkG a b c=
 (Sy.at' a.2 b).bind fun d=>bif d.2.2.2.2.2.2 then some ((0:Int),(0:Int)) else (QhF a d).bind fun e=>(Ql5 d).bind fun f=>(Qfu a d f).bind fun h=>(Qfk (a,(d,(e,(c,((0:Int),(0:Int)))))) d.2.2.2.2.2.1 h).bind fun i=>some (i.2.2.2.2.1,i.2.2.2.2.2):=me 263
theorem Qhr a b c d e f h i j k l m n o p:Qc9 a b c d e f h i j k l m n o p=
 bif decide (p<o) then (Sy.at' n p).bind fun q=>(QhK c.1 q.1).bind fun r=>bif (decide (((a.length+(1:Nat)) * (1:Nat))≤(35184372088832:Nat))) then (bif r then some (-1:Int) else some p).bind fun s=>bif (decide (((b.length+(1:Nat)) * (8:Nat))≤(35184372088832:Nat))) then Qc9 (a++(r::([]:List (Bool)))) (b++(s::([]:List (Int)))) c d e f h i j k l m n o (Ev.wr .i64 (p+1)) else none else none else some (a,b):=me 264
theorem Qpo a:Qjn a=
 (QkC a).bind fun b=>bif decide (b=0) then (QbP a 0).bind fun
   | (.inl ⟨c,d,e⟩)=>some (c,d,e)
   |.inr _=> some ((0:Int),(0:Int),(0:Int)) else some ((0:Int),(0:Int),(3:Int)):=me 265
theorem Qqe a b:Qon a b=
 (QmI a).bind fun c=>bif decide (c=0) then (Qdt a b a.2.length 0).bind fun
   |.inl _=> some ((0:Int),(0:Int),(0:Int))
   | (.inr ⟨d,e,f⟩)=>some (d,e,f) else some ((0:Int),(0:Int),(3:Int)):=me 266
theorem Qmf a b c d:Qhb a b c d=
 bif (decide (d<(b.2.2.2.2.1.length:Int))) then (Sy.at' b.2.2.2.2.1 d).bind fun e=>(bif (decide ((10:Int)<(e.2.2.1.length:Int))) then some true else some (decide ((10:Int)<(e.2.2.2.2.2.2.1.length:Int)))).bind fun f=>(bif f then some true else some (decide ((16:Int)<(e.2.2.2.2.2.2.2.2.1.length:Int)))).bind fun h=>bif h then some (.inl ()) else Qhb a b c (Ev.wr .i64 (d+1)) else some (.inr ()):=me 267
theorem Qqf a b:QhF a b=
 (Qdu ([]:List (Int)) a b 0).bind fun c=>(bif b.2.2.2.2.2.2 then some (.inl ()) else (QgM c a b b.2.2.2.2.2.1).bind fun d=>some (.inr d):Option ((Unit)⊕((List (Int))))).bind fun
  |.inl _=> some c
  |.inr d=> bif decide (c.length≤d.length) then some (List.take c.length d) else none:=me 268
theorem Qnz a b c d e f h i j k l m:QcR a b c d e f h i j k l m=
 (Sy.at' j m).bind fun n=>((bif (decide (n.1=(9:Int))) then some (!n.2.2.2.2.2.2.2.1) else some false).bind fun o=>bif o then (QfD n).bind fun p=>(QbQ a b c d e f h i j k l n p p.length 0).bind fun q=>some q else some b:Option (((List (Int))))).bind fun o=>(Qib n).bind fun p=>(Qcw a o c d e f h i j k l p p.length 0).bind fun q=>some q:=me 269
theorem Qsi a:Ql5 a=
 (Qed ([]:List (Int)) a 0).bind fun b=>some b:=me 270
theorem Qhs a b:QbP a b=
 bif (decide (b<(a.2.length:Int))) then (QkG a b (true)).bind fun ⟨c,d⟩=>bif decide (d=0) then QbP a (Ev.wr .i64 (b+1)) else some (.inl (b,c,d)) else some (.inr ()):=me 271
theorem Qii a b c d:Qdt a b c d=
 bif decide (d<c) then (QeY a d).bind fun ⟨e,f,h,i,j,k,l,m,n,o,p⟩=>(Qdg e f h i j k l m n o p b).bind fun ⟨q,r⟩=>bif decide (r=0) then Qdt a b c (Ev.wr .i64 (d+1)) else some (.inr (d,q,r)) else some (.inl ()):=me 272
theorem Qij a b c d:Qdu a b c d=
 bif (decide (d<(c.2.2.2.1.length:Int))) then ((QhL b c d).bind fun e=>bif e then some (-1:Int) else some d).bind fun e=>bif (decide (((a.length+(1:Nat)) * (8:Nat))≤(35184372088832:Nat))) then Qdu (a++(e::([]:List (Int)))) b c (Ev.wr .i64 (d+1)) else none else some a:=me 273
theorem Qlp a b c d e f h i j k l m:Qdg a b c d e f h i j k l m=
 bif l then some ((0:Int),(0:Int)) else (Qfv a b c d e f h i j k l).bind fun
   | (.inl ⟨n,o⟩)=>(QcY n o a b c d e f h i j k l m k).bind fun ⟨p,q⟩=>some (p,q)
   | (.inr ⟨n,o,p⟩)=>(Qcl n o a b c d e f h i j k l m k p).bind fun ⟨q,r⟩=>some (q,r):=me 274
theorem Qs3 a b c:Qfu a b c=
 (QdB ([]:List (Int)) a b c 0).bind fun d=>some d:=me 275
theorem Qgv a b c d e f h i j k l m n o p:QbQ a b c d e f h i j k l m n o p=
 bif decide (p<o) then (Sy.at' n p).bind fun q=>(Sy.at' a q).bind fun r=>bif r then QbQ a b c d e f h i j k l m n o (Ev.wr .i64 (p+1)) else (Sy.at' m.2.2.1 0).bind fun s=>(Sy.at' b s).bind fun t=>(Sy.at' b q).bind fun u=>QbQ a (List.set b q.toNat t) c d e f h i j k l m n o (Ev.wr .i64 (p+1)) else some b:=me 276
theorem Qgw a b c d e f h i j k l m n o:Qcw a b c d e f h i j k l m n o=
 bif decide (o<n) then (Sy.at' m o).bind fun p=>(QcR a b c d e f h i j k l p).bind fun q=>Qcw a q c d e f h i j k l m n (Ev.wr .i64 (o+1)) else some b:=me 277
theorem Qi8 a b c:Qed a b c=
 bif decide (c<b.2.1) then bif (decide (((a.length+(1:Nat)) * (8:Nat))≤(35184372088832:Nat))) then Qed (a++(c::([]:List (Int)))) b (Ev.wr .i64 (c+1)) else none else some a:=me 278
theorem Qve a b c:QhL a b c=
 (Sy.at' b.2.2.2.1 c).bind fun d=>(Qpj a.1 d.1).bind fun e=>some e:=me 279
theorem QnA a b c:Qfk a b c=
 bif (decide (a.2.2.2.2.2=(0:Int))) then (Sy.at' a.2.1.2.2.2.2.1 b).bind fun d=>(Qhk a d c).bind fun e=>bif decide (e=0) then (QdC a.1 a.2.1 d).bind fun f=>bif (decide ((f.length * (8:Nat))≤(35184372088832:Nat))) then bif (decide (d.1=(9:Int))) then (QbR f a c d.2.2.2.2.2.2.2.2.1 d.2.2.2.2.2.2.2.2.1.length 0).bind fun h=>some h else bif (decide ((c.length * (8:Nat))≤(35184372088832:Nat))) then (Qea d).bind fun h=>(Qfu a.1 a.2.1 h).bind fun i=>bif (decide (((c.length+i.length) * (8:Nat))≤(35184372088832:Nat))) then (QgK d).bind fun j=>(QbS f (c++i) a j j.length 0).bind fun k=>some k else none else none else none else some (a.1,(a.2.1,(a.2.2.1,(a.2.2.2.1,(b,e))))) else some a:=me 280
theorem Qs4 a b c d:QgM a b c d=
 (Sy.at' c.2.2.2.2.1 d).bind fun e=>((bif (decide (e.1=(9:Int))) then some (!e.2.2.2.2.2.2.2.1) else some false).bind fun f=>bif f then (QeZ a b c e e.2.2.2.2.2.2.2.2.1 e.2.2.2.2.2.2.2.2.1.length 0).bind fun h=>some h else some a:Option (((List (Int))))).bind fun f=>(QgK e).bind fun h=>(Qjo f b c h h.length 0).bind fun i=>some i:=me 281
theorem Qlq a b c d e f h i j k l:Qfv a b c d e f h i j k l=
 bif (decide ((i.length:Int)<(0:Int))) then none else bif (decide (((i.length:Int).toNat * (1:Nat))≤(140737488355328:Nat))) then (Qgq a b ([]:List (Bool)) ([]:List (Bool)) (List.replicate (i.length:Int).toNat false) (List.replicate (i.length:Int).toNat false) c d e f h i j k l f 0).bind fun
      |.inl _=> some (.inl ((List.replicate (i.length:Int).toNat false),(List.replicate (i.length:Int).toNat false)))
      | (.inr ⟨m,n⟩)=>some (.inr ((List.replicate (i.length:Int).toNat false),m,n)) else none:=me 282
theorem Qj6 a b c d e:QdB a b c d e=
 bif (decide (e<(d.length:Int))) then (Sy.at' d e).bind fun f=>(Sy.at' c.2.2.2.1 f).bind fun h=>bif h.2 then QdB a b c d (Ev.wr .i64 (e+1)) else (QhL b c f).bind fun i=>bif i then QdB a b c d (Ev.wr .i64 (e+1)) else bif (decide (((a.length+(1:Nat)) * (8:Nat))≤(35184372088832:Nat))) then QdB (a++(f::([]:List (Int)))) b c d (Ev.wr .i64 (e+1)) else none else some a:=me 283
theorem Qvf a b:Qpj a b=
 bif decide (b=0) then some true else (Sy.at' a (Ev.wr .i64 (b - 1))).bind fun c=>(QhG c.2 0).bind fun
   |.inl _=> some false
   |.inr _=> some true:=me 284
theorem QnB a b c:Qhk a b c=
 (QdC a.1 a.2.1 b).bind fun d=>(QkH a.1 a.2.1 b).bind fun e=>(Qcx ([]:List (Int)) a b c d e 0).bind fun
  |.inl _=> some (11:Int)
  |.inr _=> bif (decide ((d.length * (8:Nat))≤(35184372088832:Nat))) then bif (decide (((d.length+e.length) * (8:Nat))≤(35184372088832:Nat))) then (QcA ([]:List (Int)) (d++e) a b c d e 0).bind fun
        |.inl _=> (QcB ([]:List (Int)) a b c d e 0).bind fun
         |.inl _=> some (12:Int)
         |.inr _=> ((bif (decide (b.1=(7:Int))) then some true else some (decide (b.1=(8:Int)))).bind fun f=>bif f then (QcD ([]:List (Int)) a b c d e 0).bind fun
           |.inl _=> some (.inl ())
           |.inr _=> some (.inr ()) else some (.inr ()):Option ((Unit)⊕(Unit))).bind fun
          |.inl _=> some (12:Int)
          |.inr _=> ((bif a.2.2.2.1 then bif (decide (b.1=(0:Int))) then some (.inl true) else some (.inl (decide (b.1=(7:Int)))) else some (.inr ()):Option (((Bool))⊕(Unit))).bind fun
                |.inl f=> (bif f then some true else some (decide (b.1=(8:Int)))).bind fun h=>bif h then (Qch ([]:List (Int)) a c d 0).bind fun
                  |.inl _=> some (.inl ())
                  |.inr _=> some (.inr ()) else some (.inr ())
                |.inr _=> some (.inr ()):Option ((Unit)⊕(Unit))).bind fun
           |.inl _=> some (12:Int)
           |.inr _=> some (0:Int)
        |.inr _=> some (12:Int) else none else none:=me 285
theorem Qj7 a b c d e f h:QeZ a b c d e f h=
 bif decide (h<f) then (Sy.at' e h).bind fun i=>(QdD a b c d e f h i.1 i.1.length 0).bind fun j=>QeZ j b c d e f (Ev.wr .i64 (h+1)) else some a:=me 286
theorem Qpp a b c d e f:Qjo a b c d e f=
 bif decide (f<e) then (Sy.at' d f).bind fun h=>(QgM a b c h).bind fun i=>(Qb9 i b c a.length d e (Ev.wr .i64 (f+1))).bind fun j=>some j else some a:=me 287
theorem Qjw a b c d e f h i j k l m n o p q r:Qgq a b c d e f h i j k l m n o p q r=
 bif decide (r<q) then (Qgd a b e f (r::([]:List (Int))) h i j k l m n o p).bind fun s=>(Qb5 a b c d e s h i j k l m n o p f.length q (Ev.wr .i64 (r+1))).bind fun t=>some (.inr (t,f.length)) else some (.inl ()):=me 288
theorem Qla a b:QhG a b=
 bif (decide (b<(a.length:Int))) then (Sy.at' a b).bind fun c=>bif (decide ((0:Int)<(c.2.length:Int))) then some (.inl ()) else QhG a (Ev.wr .i64 (b+1)) else some (.inr ()):=me 289
theorem Qpq a b c:QdC a b c=
 bif (decide (c.1=(0:Int))) then (Qdh a b c.2.2.1).bind fun d=>some d else bif (decide (c.1=(5:Int))) then (Qdh a b c.2.2.1).bind fun d=>some d else bif (decide (c.1=(3:Int))) then (Qdh a b c.2.2.1).bind fun d=>some d else bif (decide (c.1=(9:Int))) then bif c.2.2.2.2.2.2.2.1 then (Qdh a b c.2.2.1).bind fun d=>some d else some ([]:List (Int)) else bif (decide (c.1=(6:Int))) then (Qdc a b c.2.2.2.2.2.1 c.2.2.1 (false)).bind fun d=>some d else bif (decide (c.1=(7:Int))) then (Qdc a b c.2.2.2.2.2.1 c.2.2.1 (false)).bind fun d=>some d else bif (decide (c.1=(8:Int))) then (Qdh a b c.2.2.1).bind fun d=>(Qdc a b c.2.2.2.2.2.1 c.2.2.2.2.2.2.1 (false)).bind fun e=>bif (decide (((d.length+e.length) * (8:Nat))≤(35184372088832:Nat))) then some (d++e) else none else some ([]:List (Int)):=me 290
theorem Qj8 a b c d e f h i j k:QdD a b c d e f h i j k=
 bif decide (k<j) then (Sy.at' i k).bind fun l=>(Sy.at' a l).bind fun m=>bif (decide (m<(0:Int))) then QdD a b c d e f h i j (Ev.wr .i64 (k+1)) else (Sy.at' d.2.2.1 0).bind fun n=>(Sy.at' a n).bind fun o=>QdD (List.set a l.toNat o) b c d e f h i j (Ev.wr .i64 (k+1)) else some a:=me 291
theorem Qmg a b c d e f h i j k l m n o:Qgd a b c d e f h i j k l m n o=
 (QbZ a b c d e f h i j k l m n o e.length 0).bind fun p=>some p:=me 292
theorem Qs5 a b c:QkH a b c=
 bif (decide (c.1=(4:Int))) then (Qdh a b c.2.2.1).bind fun d=>some d else bif (decide (c.1=(9:Int))) then bif c.2.2.2.2.2.2.2.1 then some ([]:List (Int)) else (Qdh a b c.2.2.1).bind fun d=>some d else bif (decide (c.1=(6:Int))) then (Qdc a b c.2.2.2.2.2.1 c.2.2.1 (true)).bind fun d=>some d else bif (decide (c.1=(7:Int))) then (Qdc a b c.2.2.2.2.2.1 c.2.2.1 (true)).bind fun d=>some d else bif (decide (c.1=(8:Int))) then (Qdc a b c.2.2.2.2.2.1 c.2.2.2.2.2.2.1 (true)).bind fun d=>some d else some ([]:List (Int)):=me 293
theorem Qs6 a b c:Qdh a b c=
 (QdE ([]:List (Int)) a b c 0).bind fun d=>some d:=me 294
theorem Qsj a b c d e:Qdc a b c d e=
 (Qcy ([]:List (Int)) a b c d e 0).bind fun f=>some f:=me 295
theorem QfK a b c d e f h i j k l m n o p q:QbZ a b c d e f h i j k l m n o p q=
 bif decide (q<p) then (Sy.at' e q).bind fun r=>(Qcz a b f h i j k l m n o r).bind fun s=>bif s then (Sy.at' d r).bind fun t=>QbZ a b c (List.set d r.toNat true) e f h i j k l m n o p (Ev.wr .i64 (q+1)) else QbZ a b c d e f h i j k l m n o p (Ev.wr .i64 (q+1)) else some d:=me 296
theorem Qj9 a b c d e f h i j k l m n o p:QcY a b c d e f h i j k l m n o p=
 (Sy.at' l p).bind fun q=>(Qfw c d a b e f h i j k l m n q o).bind fun r=>bif decide (r=0) then (Qib q).bind fun s=>(Qa6 a b c d e f h i j k l m n o q s s.length 0).bind fun
   |.inl _=> some ((0:Int),(0:Int))
   | (.inr ⟨t,u⟩)=>some (t,u) else some (p,r):=me 297
theorem Qgx a b c d e f h:Qcx a b c d e f h=
 bif (decide (h<(e.length:Int))) then (Sy.at' e h).bind fun i=>(Sy.at' b.2.1.2.2.2.1 i).bind fun j=>bif j.2 then some (.inl ()) else Qcx a b c d e f (Ev.wr .i64 (h+1)) else some (.inr ()):=me 298
theorem Qka a b c d e:QdE a b c d e=
 bif (decide (e<(d.length:Int))) then (Sy.at' d e).bind fun f=>bif (decide (f<(0:Int))) then QdE a b c d (Ev.wr .i64 (e+1)) else (QhL b c f).bind fun h=>bif h then QdE a b c d (Ev.wr .i64 (e+1)) else bif (decide (((a.length+(1:Nat)) * (8:Nat))≤(35184372088832:Nat))) then QdE (a++(f::([]:List (Int)))) b c d (Ev.wr .i64 (e+1)) else none else some a:=me 299
theorem Qi9 a b c d e f h:Qcy a b c d e f h=
 bif (decide (h<(e.length:Int))) then (Sy.at' b.2 d).bind fun i=>(Sy.at' i.2.2.2.1 h).bind fun j=>bif (j.2==f) then (Sy.at' e h).bind fun k=>(QhL b c k).bind fun l=>bif l then Qcy a b c d e f (Ev.wr .i64 (h+1)) else bif (decide (((a.length+(1:Nat)) * (8:Nat))≤(35184372088832:Nat))) then Qcy (a++(k::([]:List (Int)))) b c d e f (Ev.wr .i64 (h+1)) else none else Qcy a b c d e f (Ev.wr .i64 (h+1)) else some a:=me 300
theorem Qlr a b c d e f h i j k l m:Qcz a b c d e f h i j k l m=
 ((Sy.at' a m).bind fun n=>bif n then some false else (Sy.at' i m).bind fun o=>some (!o.2)).bind fun n=>some n:=me 301
theorem Qls a b c d e f h i j k l m n o p:Qfw a b c d e f h i j k l m n o p=
 (QaL a b e f h i j k l m n o).bind fun ⟨q,r⟩=>(QbF c d a b q r e f h i j k l m n o p q.length 0).bind fun
  |.inl _=> some (11:Int)
  |.inr _=> (Qe1 (q::(r::([]:List (List (Int)))))).bind fun s=>(QbH c d a b q r e f h i j k l m n o p s s.length 0).bind fun
   |.inl _=> some (12:Int)
   |.inr _=> (QbI c d a b q r e f h i j k l m n o p q.length 0).bind fun
    |.inl _=> (Qe2 o).bind fun t=>bif t then (bif (decide (o.1=(0:Int))) then some (.inl ()) else (QbK c d a b q r e f h i j k l m n p r.length 0).bind fun
              |.inl _=> some (.inr ())
              |.inr _=> some (.inl ()):Option ((Unit)⊕(Unit))).bind fun
      |.inl _=> (bif p then (Qbt c d a b q e f h i j k l m n d.length 0).bind fun
        |.inl _=> some (.inl ())
        |.inr _=> some (.inr ()) else some (.inr ()):Option ((Unit)⊕(Unit))).bind fun
       |.inl _=> some (12:Int)
       |.inr _=> some (0:Int)
      |.inr _=> some (12:Int) else some (0:Int)
    |.inr _=> some (12:Int):=me 302
theorem Qgy a b c d e f h i:QcA a b c d e f h i=
 bif (decide (i<(b.length:Int))) then (Sy.at' b i).bind fun j=>(Sy.at' c.2.2.1 j).bind fun k=>(Qe0 a k).bind fun l=>bif l then some (.inr ()) else QcA a b c d e f h (Ev.wr .i64 (i+1)) else some (.inl ()):=me 303
theorem Qfx a b c d e f h:Qb9 a b c d e f h=
 bif decide (h<f) then (Sy.at' e h).bind fun i=>(QhH a b c i d).bind fun j=>Qb9 j b c d e f (Ev.wr .i64 (h+1)) else some a:=me 304
theorem Qkb a b c d e f h i j k l m:QaL a b c d e f h i j k l m=
 bif (decide (m.1=(0:Int))) then (QaN a b c d e f h i j k l m.2.2.1).bind fun n=>some (n,([]:List (Int))) else bif (decide (m.1=(5:Int))) then (QaN a b c d e f h i j k l m.2.2.1).bind fun n=>some (n,([]:List (Int))) else bif (decide (m.1=(3:Int))) then (QaN a b c d e f h i j k l m.2.2.1).bind fun n=>some (n,([]:List (Int))) else bif (decide (m.1=(4:Int))) then (QaN a b c d e f h i j k l m.2.2.1).bind fun n=>some (([]:List (Int)),n) else bif (decide (m.1=(6:Int))) then (Qck a b ([]:List (Int)) ([]:List (Int)) c d e f h i j k l m m.2.2.1).bind fun ⟨n,o⟩=>some (o,n) else bif (decide (m.1=(7:Int))) then (Qck a b ([]:List (Int)) ([]:List (Int)) c d e f h i j k l m m.2.2.1).bind fun ⟨n,o⟩=>some (o,n) else bif (decide (m.1=(8:Int))) then (QaN a b c d e f h i j k l m.2.2.1).bind fun n=>(Qck a b ([]:List (Int)) n c d e f h i j k l m m.2.2.2.2.2.2.1).bind fun ⟨o,p⟩=>some (p,o) else bif (decide (m.1=(9:Int))) then bif m.2.2.2.2.2.2.2.1 then (QaN a b c d e f h i j k l m.2.2.1).bind fun n=>some (n,([]:List (Int))) else (QaN a b c d e f h i j k l m.2.2.1).bind fun n=>some (([]:List (Int)),n) else some (([]:List (Int)),([]:List (Int))):=me 305
theorem Qwy a b:Qe0 a b=
 (QiR a b 0).bind fun
  |.inl _=> some true
  |.inr _=> some false:=me 306
theorem Qqg a b c d e:QhH a b c d e=
 (Sy.at' c.2.2.2.2.1 d).bind fun f=>((bif (decide (f.1=(9:Int))) then some (!f.2.2.2.2.2.2.2.1) else some false).bind fun h=>bif h then (Qdv a b c f e f.2.2.2.2.2.2.2.2.1 f.2.2.2.2.2.2.2.2.1.length 0).bind fun i=>some i else some a:Option (((List (Int))))).bind fun h=>(QgK f).bind fun i=>(Qb9 h b c e i i.length 0).bind fun j=>some j:=me 307
theorem Qlt a b c d e f h i j k l m:QaN a b c d e f h i j k l m=
 (QbG a b ([]:List (Int)) c d e f h i j k l m m.length 0).bind fun n=>some n:=me 308
theorem QcQ a b c d e f h i j k l m n o p:Qck a b c d e f h i j k l m n o p=
 (Qat a b c d e f h i j k l m n o p p.length 0).bind fun ⟨q,r⟩=>some (q,r):=me 309
theorem Qgz a b c d e f h:QcB a b c d e f h=
 bif (decide (h<(e.length:Int))) then bif (decide (h<(0:Int))) then none else bif (decide ((e.length:Int)<h)) then none else (Sy.at' e h).bind fun i=>(Qe0 (List.take h.toNat e) i).bind fun j=>bif j then some (.inl ()) else (QcC a b c d e f h 0).bind fun
   |.inl _=> some (.inl ())
   |.inr _=> QcB a b c d e f (Ev.wr .i64 (h+1)) else some (.inr ()):=me 310
theorem Qei a b c d e f h i j k l m n o p q r s:Qb5 a b c d e f h i j k l m n o p q r s=
 bif decide (s<r) then (QeK a b e f (s::([]:List (Int))) h i j k l m n o p q).bind fun t=>Qb5 a b c d e t h i j k l m n o p q r (Ev.wr .i64 (s+1)) else some f:=me 311
theorem Qfc a b c d e f h i j k l m n o p q r s t:QbF a b c d e f h i j k l m n o p q r s t=
 bif decide (t<s) then (Sy.at' e t).bind fun u=>(Sy.at' m u).bind fun v=>bif v.2 then some (.inl ()) else QbF a b c d e f h i j k l m n o p q r s (Ev.wr .i64 (t+1)) else some (.inr ()):=me 312
theorem Qmh a b c:QiR a b c=
 bif (decide (c<(a.length:Int))) then (Sy.at' a c).bind fun d=>bif decide (d=b) then some (.inl ()) else QiR a b (Ev.wr .i64 (c+1)) else some (.inr ()):=me 313
theorem Qik a b c d e f h i:Qdv a b c d e f h i=
 bif decide (i<h) then (Sy.at' f i).bind fun j=>(QcS a b c d e f h i j.1 j.1.length 0).bind fun k=>Qdv k b c d e f h (Ev.wr .i64 (i+1)) else some a:=me 314
theorem Qfd a b c d e f h i j k l m n o p:QbG a b c d e f h i j k l m n o p=
 bif decide (p<o) then (Sy.at' n p).bind fun q=>(bif (decide (q<(0:Int))) then some false else (Sy.at' a q).bind fun r=>some (!r)).bind fun r=>bif r then bif (decide (((c.length+(1:Nat)) * (8:Nat))≤(35184372088832:Nat))) then QbG a b (c++(q::([]:List (Int)))) d e f h i j k l m n o (Ev.wr .i64 (p+1)) else none else QbG a b c d e f h i j k l m n o (Ev.wr .i64 (p+1)) else some c:=me 315
theorem Qdw a b c d e f h i j k l m n o p q r:Qat a b c d e f h i j k l m n o p q r=
 bif decide (r<q) then (Sy.at' p r).bind fun s=>(Sy.at' a s).bind fun t=>bif t then Qat a b c d e f h i j k l m n o p q (Ev.wr .i64 (r+1)) else (Sy.at' f o.2.2.2.2.2.1).bind fun u=>(Sy.at' u.2.2.2.1 r).bind fun v=>bif v.2 then bif (decide (((c.length+(1:Nat)) * (8:Nat))≤(35184372088832:Nat))) then Qat a b (c++(s::([]:List (Int)))) d e f h i j k l m n o p q (Ev.wr .i64 (r+1)) else none else bif (decide (((d.length+(1:Nat)) * (8:Nat))≤(35184372088832:Nat))) then Qat a b c (d++(s::([]:List (Int)))) e f h i j k l m n o p q (Ev.wr .i64 (r+1)) else none else some (c,d):=me 316
theorem QgA a b c d e f h i:QcC a b c d e f h i=
 bif (decide (i<(f.length:Int))) then (Sy.at' f i).bind fun j=>(Sy.at' b.2.2.1 j).bind fun k=>(Sy.at' e h).bind fun l=>bif decide (k=l) then some (.inl ()) else QcC a b c d e f h (Ev.wr .i64 (i+1)) else some (.inr ()):=me 317
theorem QkM a b c d e f h i j k l m n o p:QeK a b c d e f h i j k l m n o p=
 (Qbs a b c d e f h i j k l m n o p e.length 0).bind fun q=>some q:=me 318
theorem Qil a b c d e f h i j k l:QcS a b c d e f h i j k l=
 bif decide (l<k) then (Sy.at' j l).bind fun m=>bif (decide (m<(0:Int))) then none else bif (decide (m<(e:Int))) then (Sy.at' a m).bind fun n=>bif (decide (n<(0:Int))) then QcS a b c d e f h i j k (Ev.wr .i64 (l+1)) else (Sy.at' d.2.2.1 0).bind fun o=>bif (decide (o<(0:Int))) then none else bif (decide (o<(e:Int))) then (Sy.at' a o).bind fun p=>QcS (List.set a m.toNat p) b c d e f h i j k (Ev.wr .i64 (l+1)) else none else none else some a:=me 319
theorem QcN a b c d e f:QbR a b c d e f=
 bif decide (f<e) then (Sy.at' d f).bind fun h=>bif (decide ((c.length * (8:Nat))≤(35184372088832:Nat))) then (Qfu b.1 b.2.1 h.1).bind fun i=>bif (decide (((c.length+i.length) * (8:Nat))≤(35184372088832:Nat))) then (Qau a (c++i) b h.2).bind fun j=>QbR a j c d e (Ev.wr .i64 (f+1)) else none else none else some b:=me 320
theorem QcO a b c d e f:QbS a b c d e f=
 bif decide (f<e) then (Sy.at' d f).bind fun h=>(Qau a b c h).bind fun i=>QbS a b i d e (Ev.wr .i64 (f+1)) else some c:=me 321
theorem QgB a b c d e f h:QcD a b c d e f h=
 bif (decide (h<(f.length:Int))) then (Sy.at' f h).bind fun i=>(Sy.at' b.2.2.1 i).bind fun j=>(bif decide (j<b.2.1.2.1) then (Sy.at' b.2.1.2.2.2.1 j).bind fun k=>some (!k.2) else some true).bind fun k=>bif k then some (.inl ()) else QcD a b c d e f (Ev.wr .i64 (h+1)) else some (.inr ()):=me 322
theorem Qgj a b c d e:Qch a b c d e=
 bif (decide (e<(c.length:Int))) then ((Sy.at' c e).bind fun f=>(Qe0 a f).bind fun h=>bif h then some false else (Qe0 d f).bind fun i=>some (!i)).bind fun f=>bif f then some (.inl ()) else Qch a b c d (Ev.wr .i64 (e+1)) else some (.inr ()):=me 323
theorem Qpr a:Qe1 a=
 (QeB a 0 a a.length 0).bind fun b=>(Qp1 b).bind fun
  | (.inl ⟨c,d⟩)=>(QjP c d a a.length 0).bind fun
   |.inl _=> bif decide (d≤c.length) then some (List.take d c) else none
   |.inr e=> some e
  |.inr _=> (QbT ([]:List (Int)) a a.length 0).bind fun c=>some c:=me 324
theorem QeE a b c d e f h i j k l m n o p q r:Qbs a b c d e f h i j k l m n o p q r=
 bif decide (r<q) then (Sy.at' e r).bind fun s=>(Qcz a b f h i j k l m n o s).bind fun t=>bif t then bif (decide (s<(0:Int))) then none else bif (decide (s<(p:Int))) then (Sy.at' d s).bind fun u=>Qbs a b c (List.set d s.toNat true) e f h i j k l m n o p q (Ev.wr .i64 (r+1)) else none else Qbs a b c d e f h i j k l m n o p q (Ev.wr .i64 (r+1)) else some d:=me 325
theorem Qfe a b c d e f h i j k l m n o p q r s t u:QbH a b c d e f h i j k l m n o p q r s t u=
 bif decide (u<t) then (Sy.at' s u).bind fun v=>(Sy.at' d v).bind fun w=>(Sy.at' a w).bind fun x=>bif x then some (.inl ()) else QbH a b c d e f h i j k l m n o p q r s t (Ev.wr .i64 (u+1)) else some (.inr ()):=me 326
theorem Qhd a b c d:Qau a b c d=
 bif (decide (c.2.2.2.2.2=(0:Int))) then (Sy.at' c.2.1.2.2.2.2.1 d).bind fun e=>(Qge a b c e).bind fun f=>bif decide (f=0) then bif (decide ((a.length * (8:Nat))≤(35184372088832:Nat))) then (QdC c.1 c.2.1 e).bind fun h=>bif (decide (((a.length+h.length) * (8:Nat))≤(35184372088832:Nat))) then bif (decide (e.1=(9:Int))) then (Qa9 a b (a++h) c e.2.2.2.2.2.2.2.2.1 e.2.2.2.2.2.2.2.2.1.length 0).bind fun i=>some i else bif (decide ((b.length * (8:Nat))≤(35184372088832:Nat))) then (Qea e).bind fun i=>(Qfu c.1 c.2.1 i).bind fun j=>bif (decide (((b.length+j.length) * (8:Nat))≤(35184372088832:Nat))) then (QgK e).bind fun k=>(Qba a b (a++h) (b++j) c k k.length 0).bind fun l=>some l else none else none else none else none else some (c.1,(c.2.1,(c.2.2.1,(c.2.2.2.1,(d,f))))) else some c:=me 327
theorem QeM a b c d e:QeB a b c d e=
 bif decide (e<d) then (Sy.at' c e).bind fun f=>bif (decide ((Ev.wr .i64 (b+(f.length:Int)))<(0:Int))) then none else QeB a (Ev.wr .i64 (b+(f.length:Int))) c d (Ev.wr .i64 (e+1)) else some b:=me 328
theorem Qiu a b c d e f h i j k l m n o p q:Qcl a b c d e f h i j k l m n o p q=
 (Sy.at' l p).bind fun r=>(Qee c d a b e f h i j k l m n r q o).bind fun s=>bif decide (s=0) then (Qib r).bind fun t=>(QaX a b c d e f h i j k l m n o q r t t.length 0).bind fun
   |.inl _=> some ((0:Int),(0:Int))
   | (.inr ⟨u,v⟩)=>some (u,v) else some (p,s):=me 329
theorem Qmi a b c d:Qge a b c d=
 (QdC c.1 c.2.1 d).bind fun e=>(QkH c.1 c.2.1 d).bind fun f=>(Qb0 a b c d e f 0).bind fun
  |.inl _=> some (11:Int)
  |.inr _=> bif (decide ((e.length * (8:Nat))≤(35184372088832:Nat))) then bif (decide (((e.length+f.length) * (8:Nat))≤(35184372088832:Nat))) then (Qb1 a b (e++f) c d e f 0).bind fun
        |.inl _=> some (12:Int)
        |.inr _=> (Qb2 a b c d e f 0).bind fun
         |.inl _=> some (12:Int)
         |.inr _=> ((bif (decide (d.1=(7:Int))) then some true else some (decide (d.1=(8:Int)))).bind fun h=>bif h then (Qb4 a b c d e f 0).bind fun
           |.inl _=> some (.inl ())
           |.inr _=> some (.inr ()) else some (.inr ()):Option ((Unit)⊕(Unit))).bind fun
          |.inl _=> some (12:Int)
          |.inr _=> ((bif c.2.2.2.1 then bif (decide (d.1=(0:Int))) then some (.inl true) else some (.inl (decide (d.1=(7:Int)))) else some (.inr ()):Option (((Bool))⊕(Unit))).bind fun
                |.inl h=> (bif h then some true else some (decide (d.1=(8:Int)))).bind fun i=>bif i then (QbL a b c e 0).bind fun
                  |.inl _=> some (.inl ())
                  |.inr _=> some (.inr ()) else some (.inr ())
                |.inr _=> some (.inr ()):Option ((Unit)⊕(Unit))).bind fun
           |.inl _=> some (12:Int)
           |.inr _=> some (0:Int) else none else none:=me 330
theorem Qff a b c d e f h i j k l m n o p q r s t:QbI a b c d e f h i j k l m n o p q r s t=
 bif decide (t<s) then (Sy.at' e t).bind fun u=>bif (decide (t<(0:Int))) then none else bif (decide ((e.length:Int)<t)) then none else bif decide (t.toNat≤e.length) then (Qa1 (List.take t.toNat e) u).bind fun v=>bif v then some (.inr ()) else (QbJ a b c d e f h i j k l m n o p q r u s t f.length 0).bind fun
            |.inl _=> some (.inr ())
            |.inr _=> QbI a b c d e f h i j k l m n o p q r s (Ev.wr .i64 (t+1)) else none else some (.inl ()):=me 331
theorem Qsk a:Qp1 a=
 bif (decide (a<(0:Int))) then none else (bif (decide ((0:Int)<(Ev.wr .i64 (a - 0)))) then bif (decide ((Ev.wr .i64 (a - 0))<(1:Int))) then none else bif (decide (((Ev.wr .i64 (a - 0)).toNat * (8:Nat))≤(140737488355328:Nat))) then bif (decide (((List.replicate (Ev.wr .i64 (a - 0)).toNat (0:Int)).length:Int)<(0:Int))) then none else some (.inl ()) else none else some (.inr ()):Option ((Unit)⊕(Unit))).bind fun
   |.inl _=> some (.inl ((List.replicate (Ev.wr .i64 (a - 0)).toNat (0:Int)),(0:Nat)))
   |.inr _=> some (.inr ()):=me 332
theorem Qkc a b c d e f h i j k l m n o p q:Qee a b c d e f h i j k l m n o p q=
 (QaL a b e f h i j k l m n o).bind fun ⟨r,s⟩=>(Qa7 c d a b r s e f h i j k l m n o p q r.length 0).bind fun
  |.inl _=> some (11:Int)
  |.inr _=> (Qe1 (r::(s::([]:List (List (Int)))))).bind fun t=>(Qa8 c d a b r s e f h i j k l m n o p q t t.length 0).bind fun
   |.inl _=> some (12:Int)
   |.inr _=> (Qbb c d a b r s e f h i j k l m n o p q r.length 0).bind fun
    |.inl _=> some (12:Int)
    |.inr _=> (Qe2 o).bind fun u=>bif u then (bif (decide (o.1=(0:Int))) then some (.inl ()) else (Qbd c d a b r s e f h i j k l m n p q s.length 0).bind fun
              |.inl _=> some (.inr ())
              |.inr _=> some (.inl ()):Option ((Unit)⊕(Unit))).bind fun
      |.inl _=> (bif q then (Qa3 c d a b r e f h i j k l m n p p (p:Int) 0).bind fun
        |.inl _=> some (.inl ())
        |.inr _=> some (.inr ()) else some (.inr ()):Option ((Unit)⊕(Unit))).bind fun
       |.inl _=> some (12:Int)
       |.inr _=> some (0:Int)
      |.inr _=> some (12:Int) else some (0:Int):=me 333
theorem QfL a b c d e f h:Qb0 a b c d e f h=
 bif (decide (h<(e.length:Int))) then (Sy.at' e h).bind fun i=>(Sy.at' c.2.1.2.2.2.1 i).bind fun j=>bif j.2 then some (.inl ()) else Qb0 a b c d e f (Ev.wr .i64 (h+1)) else some (.inr ()):=me 334
theorem Qej a b c d e f h i j k l m n o p q r s:Qa6 a b c d e f h i j k l m n o p q r s=
 bif decide (s<r) then (Sy.at' q s).bind fun t=>(QeL c d a b e f h i j k l m n p s).bind fun ⟨u,v,w,x⟩=>(Qar u v c d e f h i j k l m n o t w x).bind fun ⟨y,z⟩=>bif decide (z=0) then Qa6 a b c d e f h i j k l m n o p q r (Ev.wr .i64 (s+1)) else some (.inr (y,z)) else some (.inl ()):=me 335
theorem Qmj a b:Qa1 a b=
 (Ql6 a b).bind fun c=>some (!(decide (c<(0:Int)))):=me 336
theorem Qek a b c d e f h i j k l m n o p q r s t u:Qa7 a b c d e f h i j k l m n o p q r s t u=
 bif decide (u<t) then (Sy.at' e u).bind fun v=>(Sy.at' m v).bind fun w=>bif w.2 then some (.inl ()) else Qa7 a b c d e f h i j k l m n o p q r s t (Ev.wr .i64 (u+1)) else some (.inr ()):=me 337
theorem Qps a:Qe2 a=
 (bif (decide (a.1=(0:Int))) then some true else some (decide (a.1=(7:Int)))).bind fun b=>(bif b then some true else some (decide (a.1=(8:Int)))).bind fun c=>some c:=me 338
theorem QmQ a b c d e:QjP a b c d e=
 bif decide (e<d) then (Sy.at' c e).bind fun f=>bif (decide (((b+f.length) * (8:Nat))≤(35184372088832:Nat))) then bif decide (b≤a.length) then (QbT ((List.take b a)++f) c d (Ev.wr .i64 (e+1))).bind fun h=>some (.inr h) else none else none else some (.inl ()):=me 339
theorem QdP a b c d:QbT a b c d=
 bif decide (d<c) then (Sy.at' b d).bind fun e=>bif (decide (((a.length+e.length) * (8:Nat))≤(35184372088832:Nat))) then QbT (a++e) b c (Ev.wr .i64 (d+1)) else none else some a:=me 340
theorem QfM a b c d e f h i:Qb1 a b c d e f h i=
 bif (decide (i<(c.length:Int))) then (Sy.at' c i).bind fun j=>(Sy.at' d.2.2.1 j).bind fun k=>(Qe0 a k).bind fun l=>bif l then some (.inl ()) else Qb1 a b c d e f h (Ev.wr .i64 (i+1)) else some (.inr ()):=me 341
theorem Qfg a b c d e f h i j k l m n o p q r s t u v w:QbJ a b c d e f h i j k l m n o p q r s t u v w=
 bif decide (w<v) then (Sy.at' f w).bind fun x=>(Sy.at' d x).bind fun y=>bif decide (y=s) then some (.inl ()) else QbJ a b c d e f h i j k l m n o p q r s t u v (Ev.wr .i64 (w+1)) else some (.inr ()):=me 342
theorem QkN a b c d e f h i j k l m n o p:QeL a b c d e f h i j k l m n o p=
 (Qef c d).bind fun ⟨q,r,s,t⟩=>(QaL a b e f h i j k l m n o).bind fun ⟨u,v⟩=>(QaO c d a b ([]:List (Bool)) ([]:List (Bool)) q r u e f h i j k l m n o s t p u.length 0).bind fun w=>(bif (decide (o.1=(9:Int))) then (Sy.at' o.2.2.2.2.2.2.2.2.1 p).bind fun x=>(QaS a b w r e f h i j k l m n s t x.1).bind fun y=>some y else (QfD o).bind fun x=>(QaS a b w r e f h i j k l m n s t x).bind fun y=>some y:Option (((List (Bool))))).bind fun x=>some (w,x,s,t):=me 343
theorem Qor a b:Ql6 a b=
 (QdS a b a.length 0).bind fun
  |.inl c=> some c
  |.inr _=> some (-1:Int):=me 344
theorem QeF a b c d e f h i j k l m n o p q:Qbt a b c d e f h i j k l m n o p q=
 bif decide (q<p) then (Sy.at' b q).bind fun r=>(bif r then (Sy.at' a q).bind fun s=>some (!s) else some false).bind fun s=>(bif s then (Qa1 e q).bind fun t=>some (!t) else some false).bind fun t=>bif t then some (.inl ()) else Qbt a b c d e f h i j k l m n o p (Ev.wr .i64 (q+1)) else some (.inr ()):=me 345
theorem Qfh a b c d e f h i j k l m n o p q r s:QbK a b c d e f h i j k l m n o p q r s=
 bif decide (s<r) then (Sy.at' f s).bind fun t=>(Sy.at' d t).bind fun u=>(bif decide (u<k) then (Sy.at' m u).bind fun v=>some (!v.2) else some true).bind fun v=>bif v then some (.inl ()) else QbK a b c d e f h i j k l m n o p q r (Ev.wr .i64 (s+1)) else some (.inr ()):=me 346
theorem Qel a b c d e f h i j k l m n o p q r s t u v:Qa8 a b c d e f h i j k l m n o p q r s t u v=
 bif decide (v<u) then (Sy.at' t v).bind fun w=>(Sy.at' d w).bind fun x=>(Sy.at' a x).bind fun y=>bif y then some (.inl ()) else Qa8 a b c d e f h i j k l m n o p q r s t u (Ev.wr .i64 (v+1)) else some (.inr ()):=me 347
theorem Qkd a b:Qef a b=
 bif (decide ((a.length:Int)<(0:Int))) then none else bif (decide (((a.length:Int).toNat * (1:Nat))≤(140737488355328:Nat))) then bif (decide ((b.length:Int)<(0:Int))) then none else bif (decide (((b.length:Int).toNat * (1:Nat))≤(140737488355328:Nat))) then some (((List.take (0:Nat) (List.replicate (a.length:Int).toNat false))++((List.take (List.replicate (a.length:Int).toNat false).length a)++(List.drop (List.take (List.replicate (a.length:Int).toNat false).length a).length (List.replicate (a.length:Int).toNat false)))),((List.take (0:Nat) (List.replicate (b.length:Int).toNat false))++((List.take (List.replicate (b.length:Int).toNat false).length b)++(List.drop (List.take (List.replicate (b.length:Int).toNat false).length b).length (List.replicate (b.length:Int).toNat false)))),(List.replicate (a.length:Int).toNat false).length,(List.replicate (b.length:Int).toNat false).length) else none else none:=me 348
theorem Qhe a b c d:QdS a b c d=
 bif decide (d<c) then (Sy.at' a d).bind fun e=>bif decide (b=e) then some (.inl d) else QdS a b c (Ev.wr .i64 (d+1)) else some (.inr ()):=me 349
theorem QfN a b c d e f h:Qb2 a b c d e f h=
 bif (decide (h<(e.length:Int))) then bif (decide (h<(0:Int))) then none else bif (decide ((e.length:Int)<h)) then none else (Sy.at' e h).bind fun i=>(Qe0 (List.take h.toNat e) i).bind fun j=>bif j then some (.inl ()) else (Qb3 a b c d e f h 0).bind fun
   |.inl _=> some (.inl ())
   |.inr _=> Qb2 a b c d e f (Ev.wr .i64 (h+1)) else some (.inr ()):=me 350
theorem Qb6 a b c d e f h:Qa9 a b c d e f h=
 bif decide (h<f) then (Sy.at' e h).bind fun i=>bif (decide ((b.length * (8:Nat))≤(35184372088832:Nat))) then (Qfu d.1 d.2.1 i.1).bind fun j=>bif (decide (((b.length+j.length) * (8:Nat))≤(35184372088832:Nat))) then (Qau c (b++j) d i.2).bind fun k=>Qa9 a b c k e f (Ev.wr .i64 (h+1)) else none else none else some d:=me 351
theorem Qb7 a b c d e f h i:Qba a b c d e f h i=
 bif decide (i<h) then (Sy.at' f i).bind fun j=>(Qau c d e j).bind fun k=>Qba a b c d k f h (Ev.wr .i64 (i+1)) else some e:=me 352
theorem Qem a b c d e f h i j k l m n o p q r s t u:Qbb a b c d e f h i j k l m n o p q r s t u=
 bif decide (u<t) then (Sy.at' e u).bind fun v=>bif (decide (u<(0:Int))) then none else bif (decide ((e.length:Int)<u)) then none else bif decide (u.toNat≤e.length) then (Qa1 (List.take u.toNat e) v).bind fun w=>bif w then some (.inl ()) else (Qbc a b c d e f h i j k l m n o p q r s v t u f.length 0).bind fun
            |.inl _=> some (.inl ())
            |.inr _=> Qbb a b c d e f h i j k l m n o p q r s t (Ev.wr .i64 (u+1)) else none else some (.inr ()):=me 353
theorem QeG a b c d e f h i j k l m n o p q r s t u v w x y:QaO a b c d e f h i j k l m n o p q r s t u v w x y=
 bif decide (y<x) then (Sy.at' j y).bind fun z=>bif (decide (z<(0:Int))) then none else bif (decide (z<(u:Int))) then (Sy.at' h z).bind fun A=>QaO a b c d e f (List.set h z.toNat true) i j k l m n o p q r s t u v w x (Ev.wr .i64 (y+1)) else none else some h:=me 354
theorem QfO a b c d e f h i:Qb3 a b c d e f h i=
 bif (decide (i<(f.length:Int))) then (Sy.at' f i).bind fun j=>(Sy.at' c.2.2.1 j).bind fun k=>(Sy.at' e h).bind fun l=>bif decide (k=l) then some (.inl ()) else Qb3 a b c d e f h (Ev.wr .i64 (i+1)) else some (.inr ()):=me 355
theorem Qdx a b c d e f h i j k l m n o p q r s t:QaX a b c d e f h i j k l m n o p q r s t=
 bif decide (t<s) then (Sy.at' r t).bind fun u=>(QdN c d a b e f h i j k l m n q t p).bind fun ⟨v,w,x,y⟩=>(Qar v w c d e f h i j k l m n o u x y).bind fun ⟨z,A⟩=>bif decide (A=0) then QaX a b c d e f h i j k l m n o p q r s (Ev.wr .i64 (t+1)) else some (.inr (z,A)) else some (.inl ()):=me 356
theorem QfP a b c d e f h:Qb4 a b c d e f h=
 bif (decide (h<(f.length:Int))) then (Sy.at' f h).bind fun i=>(Sy.at' c.2.2.1 i).bind fun j=>(bif decide (j<c.2.1.2.1) then (Sy.at' c.2.1.2.2.2.1 j).bind fun k=>some (!k.2) else some true).bind fun k=>bif k then some (.inl ()) else Qb4 a b c d e f (Ev.wr .i64 (h+1)) else some (.inr ()):=me 357
theorem Qfi a b c d e:QbL a b c d e=
 bif (decide (e<(b.length:Int))) then ((Sy.at' b e).bind fun f=>(Qe0 a f).bind fun h=>bif h then some false else (Qe0 d f).bind fun i=>some (!i)).bind fun f=>bif f then some (.inl ()) else QbL a b c d (Ev.wr .i64 (e+1)) else some (.inr ()):=me 358
theorem Qen a b c d e f h i j k l m n o p q r s t u v w x:Qbc a b c d e f h i j k l m n o p q r s t u v w x=
 bif decide (x<w) then (Sy.at' f x).bind fun y=>(Sy.at' d y).bind fun z=>bif decide (z=t) then some (.inl ()) else Qbc a b c d e f h i j k l m n o p q r s t u v w (Ev.wr .i64 (x+1)) else some (.inr ()):=me 359
theorem QdT a b c d e f h i j k l m n o p q r s:Qa3 a b c d e f h i j k l m n o p q r s=
 bif decide (s<r) then bif (decide (s<(0:Int))) then none else bif (decide (s<(q:Int))) then (Sy.at' b s).bind fun t=>(bif t then (Sy.at' a s).bind fun u=>some (!u) else some false).bind fun u=>(bif u then (Qa1 e s).bind fun v=>some (!v) else some false).bind fun v=>bif v then some (.inl ()) else Qa3 a b c d e f h i j k l m n o p q r (Ev.wr .i64 (s+1)) else none else some (.inr ()):=me 360
theorem Qeo a b c d e f h i j k l m n o p q r s t:Qbd a b c d e f h i j k l m n o p q r s t=
 bif decide (t<s) then (Sy.at' f t).bind fun u=>(Sy.at' d u).bind fun v=>(bif decide (v<k) then (Sy.at' m v).bind fun w=>some (!w.2) else some true).bind fun w=>bif w then some (.inl ()) else Qbd a b c d e f h i j k l m n o p q r s (Ev.wr .i64 (t+1)) else some (.inr ()):=me 361
theorem QkO a b c d e f h i j k l m n o p q:QaS a b c d e f h i j k l m n o p q=
 (Qbu a b c d e f h i j k l m n o p q q.length 0).bind fun r=>some r:=me 362
theorem Qjx a b c d e f h i j k l m n o p q:QdN a b c d e f h i j k l m n o p q=
 (Qdi c d q).bind fun ⟨r,s,t,u⟩=>(QaL a b e f h i j k l m n o).bind fun ⟨v,w⟩=>(QaO c d a b ([]:List (Bool)) ([]:List (Bool)) r s v e f h i j k l m n o t u p v.length 0).bind fun x=>(bif (decide (o.1=(9:Int))) then (Sy.at' o.2.2.2.2.2.2.2.2.1 p).bind fun y=>(QaS a b x s e f h i j k l m n t u y.1).bind fun z=>some z else (QfD o).bind fun y=>(QaS a b x s e f h i j k l m n t u y).bind fun z=>some z:Option (((List (Bool))))).bind fun y=>some (x,y,t,u):=me 363
theorem QeH a b c d e f h i j k l m n o p q r s:Qbu a b c d e f h i j k l m n o p q r s=
 bif decide (s<r) then (Sy.at' q s).bind fun t=>(Qcz a b e f h i j k l m n t).bind fun u=>bif u then bif (decide (t<(0:Int))) then none else bif (decide (t<(p:Int))) then (Sy.at' d t).bind fun v=>Qbu a b c (List.set d t.toNat true) e f h i j k l m n o p q r (Ev.wr .i64 (s+1)) else none else Qbu a b c d e f h i j k l m n o p q r (Ev.wr .i64 (s+1)) else some d:=me 364
theorem Qiv a b c:Qdi a b c=
 bif (decide ((a.length:Int)<(0:Int))) then none else bif (decide (((a.length:Int).toNat * (1:Nat))≤(140737488355328:Nat))) then bif (decide ((c:Int)<(0:Int))) then none else bif (decide (((c:Int).toNat * (1:Nat))≤(140737488355328:Nat))) then bif decide (c≤b.length) then some (((List.take (0:Nat) (List.replicate (a.length:Int).toNat false))++((List.take (List.replicate (a.length:Int).toNat false).length a)++(List.drop (List.take (List.replicate (a.length:Int).toNat false).length a).length (List.replicate (a.length:Int).toNat false)))),((List.take (0:Nat) (List.replicate (c:Int).toNat false))++((List.take (List.replicate (c:Int).toNat false).length (List.take c b))++(List.drop (List.take (List.replicate (c:Int).toNat false).length (List.take c b)).length (List.replicate (c:Int).toNat false)))),(List.replicate (a.length:Int).toNat false).length,(List.replicate (c:Int).toNat false).length) else none else none else none:=me 365
theorem Qiw a b c d e f h i j k l m n o p q r:Qar a b c d e f h i j k l m n o p q r=
 (Sy.at' l p).bind fun s=>(Qeg c d a b e f h i j k l m n s q r o).bind fun t=>bif decide (t=0) then (Qib s).bind fun u=>(QaY a b c d e f h i j k l m n o q r s u u.length 0).bind fun
   |.inl _=> some ((0:Int),(0:Int))
   | (.inr ⟨v,w⟩)=>some (v,w) else some (p,t):=me 366
theorem Qke a b c d e f h i j k l m n o p q r:Qeg a b c d e f h i j k l m n o p q r=
 (QaL a b e f h i j k l m n o).bind fun ⟨s,t⟩=>(Qbe c d a b s t e f h i j k l m n o p q r s.length 0).bind fun
  |.inl _=> some (11:Int)
  |.inr _=> (Qe1 (s::(t::([]:List (List (Int)))))).bind fun u=>(Qbf c d a b s t e f h i j k l m n o p q r u u.length 0).bind fun
   |.inl _=> some (12:Int)
   |.inr _=> (Qbg c d a b s t e f h i j k l m n o p q r s.length 0).bind fun
    |.inl _=> some (12:Int)
    |.inr _=> (Qe2 o).bind fun v=>bif v then (bif (decide (o.1=(0:Int))) then some (.inl ()) else (Qbi c d a b s t e f h i j k l m n p q r t.length 0).bind fun
              |.inl _=> some (.inr ())
              |.inr _=> some (.inl ()):Option ((Unit)⊕(Unit))).bind fun
      |.inl _=> (bif r then (Qa4 c d a b s e f h i j k l m n p q q (q:Int) 0).bind fun
        |.inl _=> some (.inl ())
        |.inr _=> some (.inr ()) else some (.inr ()):Option ((Unit)⊕(Unit))).bind fun
       |.inl _=> some (12:Int)
       |.inr _=> some (0:Int)
      |.inr _=> some (12:Int) else some (0:Int):=me 367
theorem Qep a b c d e f h i j k l m n o p q r s t u v:Qbe a b c d e f h i j k l m n o p q r s t u v=
 bif decide (v<u) then (Sy.at' e v).bind fun w=>(Sy.at' m w).bind fun x=>bif x.2 then some (.inl ()) else Qbe a b c d e f h i j k l m n o p q r s t u (Ev.wr .i64 (v+1)) else some (.inr ()):=me 368
theorem Qeq a b c d e f h i j k l m n o p q r s t u v w:Qbf a b c d e f h i j k l m n o p q r s t u v w=
 bif decide (w<v) then (Sy.at' u w).bind fun x=>(Sy.at' d x).bind fun y=>bif (decide (y<(0:Int))) then none else bif (decide (y<(r:Int))) then (Sy.at' a y).bind fun z=>bif z then some (.inl ()) else Qbf a b c d e f h i j k l m n o p q r s t u v (Ev.wr .i64 (w+1)) else none else some (.inr ()):=me 369
theorem Qer a b c d e f h i j k l m n o p q r s t u v:Qbg a b c d e f h i j k l m n o p q r s t u v=
 bif decide (v<u) then (Sy.at' e v).bind fun w=>bif (decide (v<(0:Int))) then none else bif (decide ((e.length:Int)<v)) then none else bif decide (v.toNat≤e.length) then (Qa1 (List.take v.toNat e) w).bind fun x=>bif x then some (.inl ()) else (Qbh a b c d e f h i j k l m n o p q r s t w u v f.length 0).bind fun
            |.inl _=> some (.inl ())
            |.inr _=> Qbg a b c d e f h i j k l m n o p q r s t u (Ev.wr .i64 (v+1)) else none else some (.inr ()):=me 370
theorem Qdy a b c d e f h i j k l m n o p q r s t u:QaY a b c d e f h i j k l m n o p q r s t u=
 bif decide (u<t) then (Sy.at' s u).bind fun v=>(QdO c d a b e f h i j k l m n r u p q).bind fun ⟨w,x,y,z⟩=>(Qar w x c d e f h i j k l m n o v y z).bind fun ⟨A,C⟩=>bif decide (C=0) then QaY a b c d e f h i j k l m n o p q r s t (Ev.wr .i64 (u+1)) else some (.inr (A,C)) else some (.inl ()):=me 371
theorem Qes a b c d e f h i j k l m n o p q r s t u v w x y:Qbh a b c d e f h i j k l m n o p q r s t u v w x y=
 bif decide (y<x) then (Sy.at' f y).bind fun z=>(Sy.at' d z).bind fun A=>bif decide (A=u) then some (.inl ()) else Qbh a b c d e f h i j k l m n o p q r s t u v w x (Ev.wr .i64 (y+1)) else some (.inr ()):=me 372
theorem QdU a b c d e f h i j k l m n o p q r s t:Qa4 a b c d e f h i j k l m n o p q r s t=
 bif decide (t<s) then bif (decide (t<(0:Int))) then none else bif (decide (t<(r:Int))) then (Sy.at' b t).bind fun u=>(bif u then bif (decide (t<(p:Int))) then (Sy.at' a t).bind fun v=>some (!v) else none else some false).bind fun v=>(bif v then (Qa1 e t).bind fun w=>some (!w) else some false).bind fun w=>bif w then some (.inl ()) else Qa4 a b c d e f h i j k l m n o p q r s (Ev.wr .i64 (t+1)) else none else some (.inr ()):=me 373
theorem Qet a b c d e f h i j k l m n o p q r s t u:Qbi a b c d e f h i j k l m n o p q r s t u=
 bif decide (u<t) then (Sy.at' f u).bind fun v=>(Sy.at' d v).bind fun w=>(bif decide (w<k) then (Sy.at' m w).bind fun x=>some (!x.2) else some true).bind fun x=>bif x then some (.inl ()) else Qbi a b c d e f h i j k l m n o p q r s t (Ev.wr .i64 (u+1)) else some (.inr ()):=me 374
theorem Qjy a b c d e f h i j k l m n o p q r:QdO a b c d e f h i j k l m n o p q r=
 (Qdj c d q r).bind fun ⟨s,t,u,v⟩=>(QaL a b e f h i j k l m n o).bind fun ⟨w,x⟩=>(QaO c d a b ([]:List (Bool)) ([]:List (Bool)) s t w e f h i j k l m n o u v p w.length 0).bind fun y=>(bif (decide (o.1=(9:Int))) then (Sy.at' o.2.2.2.2.2.2.2.2.1 p).bind fun z=>(QaS a b y t e f h i j k l m n u v z.1).bind fun A=>some A else (QfD o).bind fun z=>(QaS a b y t e f h i j k l m n u v z).bind fun A=>some A:Option (((List (Bool))))).bind fun z=>some (y,z,u,v):=me 375
theorem Qix a b c d:Qdj a b c d=
 bif (decide ((c:Int)<(0:Int))) then none else bif (decide (((c:Int).toNat * (1:Nat))≤(140737488355328:Nat))) then bif (decide ((d:Int)<(0:Int))) then none else bif (decide (((d:Int).toNat * (1:Nat))≤(140737488355328:Nat))) then bif decide (c≤a.length) then bif decide (d≤b.length) then some (((List.take (0:Nat) (List.replicate (c:Int).toNat false))++((List.take (List.replicate (c:Int).toNat false).length (List.take c a))++(List.drop (List.take (List.replicate (c:Int).toNat false).length (List.take c a)).length (List.replicate (c:Int).toNat false)))),((List.take (0:Nat) (List.replicate (d:Int).toNat false))++((List.take (List.replicate (d:Int).toNat false).length (List.take d b))++(List.drop (List.take (List.replicate (d:Int).toNat false).length (List.take d b)).length (List.replicate (d:Int).toNat false)))),(List.replicate (c:Int).toNat false).length,(List.replicate (d:Int).toNat false).length) else none else none else none else none:=me 376
theorem Qs7 (s sep:List UInt8):strings_Cut s sep=cutM s sep:=QF8 ctx tb G 2 (by kernel_rfl) (s,sep)
theorem Qsl (s cs:List UInt8):QpY s cs=Qx1 s cs:=QF8 ctx tb G 3 (by kernel_rfl) (s,cs)
end
end Go.Proofs.YtkecfadnfnnfaaaGreatDoor.LabB
