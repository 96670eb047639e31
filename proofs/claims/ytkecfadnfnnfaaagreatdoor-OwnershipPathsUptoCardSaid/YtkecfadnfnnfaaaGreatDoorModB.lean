/- The models of this program's functions and loops, and their equations. -/
import Derived.Test.YtkecfadnfnnfaaaGreatDoorFamB
import Derived.Test.YtkecfadnfnnfaaaGreatDoorSyW
import Derived.KernelRfl
set_option maxRecDepth 100000
set_option linter.all false
namespace Go.Proofs.YtkecfadnfnnfaaaGreatDoor.LabB
open Go Go.Ev Go.Sy
abbrev QvH:Type:=(List UInt8)×(Int)
abbrev GVar:Type:=(Int)×(Bool)
abbrev QCI:Type:=(Int)×(Int)
abbrev Qa2:Type:=(List (Int))×(Int)
abbrev GCon:Type:=(List UInt8)×(List (Int))
abbrev QFw:Type:=(List (Bool))×(List (Bool))
abbrev QCJ:Type:=(Int)×((Int)×((Bool)×(Int)))
abbrev Qak:Type:=(List UInt8)×(List (GCon))
abbrev QFc:Type:=(List (Bool))×((List (Bool))×((Int)×(Int)))
abbrev QAg:Type:=(Int)×((Bool)×((Bool)×((Bool)×((Bool)×((Bool)×((Bool)×((Bool)×(Bool))))))))
abbrev Qag:Type:=(Int)×((Int)×((List (Int))×((Int)×((Int)×((Int)×((List (Int))×((Bool)×((List (Qa2))×(Int)))))))))
abbrev GFun:Type:=(List UInt8)×((Int)×((Int)×((List (GVar))×((List (Qag))×(GVar)))))
abbrev QFx:Type:=(GFun)×((List (Int))×(Bool))
abbrev Qae:Type:=(List (Qak))×(List (GFun))
abbrev QFd:Type:=(GFun)×((List (Int))×((List (Int))×((List (Int))×(GVar))))
abbrev Gfun:Type:=(Qae)×((GFun)×((List (Bool))×(List (Int))))
abbrev Qgg:Type:=(Qae)×((GFun)×((List (Int))×((Bool)×((Int)×(Int)))))
abbrev QFe:Type:=(Qae)×((GFun)×((List (Bool))×(QFw)))
abbrev QFy:Type:=(Qae)×((GFun)×((List (Int))×(List (Qag))))
theorem P2:tb.P 2=[.str,.str]:=by kernel_rfl
theorem O2':tb.O 2=[[.str,.str,.bool]]:=by kernel_rfl
theorem P3:tb.P 3=[.str,.str]:=by kernel_rfl
theorem O3':tb.O 3=[[.str]]:=by kernel_rfl
theorem QFz:tb.O 254=[[.bool]]:=by kernel_rfl
def G2:Pr (tb.P 2)→Option (Sm (tb.O 2)):=fun x=>O2'▸(let y:List UInt8×List UInt8:=(P2▸x:Pr [.str,.str]); (cutM y.1 y.2:Option (Sm [[.str,.str,.bool]])))
def G3:Pr (tb.P 3)→Option (Sm (tb.O 3)):=fun x=>O3'▸(let y:List UInt8×List UInt8:=(P3▸x:Pr [.str,.str]); (QvG y.1 y.2:Option (Sm [[.str]])))
def G254:Pr (tb.P 254)→Option (Sm (tb.O 254)):=fun _=>QFz▸(some true:Option (Sm [[.bool]]))
noncomputable section
noncomputable def G:Mod tb:=fun i=>match i with |2=>G2 |3=>G3 |254=>G254 |_=>fun _=>none
theorem me (i:Nat){x:Pr (tb.P i)}{r:Option (Sm (tb.O i))}(h:(tb.fam i).ext=false:=by kernel_rfl)(e:(body ctx tb i).den tb.P tb.O (M ctx tb G) (tb.O i) (env0 (tb.P i) x)=r:=by kernel_rfl):M ctx tb G i x=r:=(M_eq ctx tb G i h x).trans e
def strings_Cut (a b:List UInt8):Option (List UInt8×List UInt8×Bool):=M ctx tb G 2 (a,b)
def QnY (a b:List UInt8):Option (List UInt8):=M ctx tb G 3 (a,b)
def Qk4 (a:Qae):Option Int:=M ctx tb G 8 a
def QlM (a:List Qak):Option Int:=M ctx tb G 13 a
def Qfw (a:Qae)(b c:Int):Option (Unit⊕Int):=M ctx tb G 15 (a,b,c)
def Qnk (a:List Qak):Option Bool:=M ctx tb G 19 a
def Qkn (a:List Qak):Option Bool:=M ctx tb G 22 a
def Qjf (a:Qae)(b:Int):Option (Int×Int):=M ctx tb G 24 (a,b)
def QgH (a:List Qak)(b c:Int):Option (Unit⊕Unit):=M ctx tb G 28 (a,b,c)
def QlN (a:List Qak):Option Bool:=M ctx tb G 29 a
def QdI (a:List Qak)(b c:Int):Option (Unit⊕Unit):=M ctx tb G 33 (a,b,c)
def QeU (a b c:List Bool)(d:List Qak)(e:List GFun)(f:List UInt8)(h i:Int)(j:List GVar)(k:List Qag)(l:Int)(m:Bool)(n:Int):Option Int:=M ctx tb G 35 (a,b,c,d,e,f,h,i,j,k,l,m,n)
def Qee (a:List GCon):Option Bool:=M ctx tb G 38 a
def Qen (a b:List Qak)(c d:Int):Option (Unit⊕Unit):=M ctx tb G 40 (a,b,c,d)
def Qeo (a b:List (List UInt8×Bool))(c:List Qak)(d e:Int):Option (Unit⊕Unit):=M ctx tb G 43 (a,b,c,d,e)
def Qk5 (a:List UInt8):Option Bool:=M ctx tb G 47 a
def QpV (a:List UInt8):Option Bool:=M ctx tb G 49 a
def Qiy (a:List GCon):Option Int:=M ctx tb G 52 a
def Qdo (a:List GCon):Option Bool:=M ctx tb G 55 a
def Qbv (a b c:List Bool)(d:List Qak)(e:List GFun)(f:List UInt8)(h i:Int)(j:List GVar)(k:List Qag)(l:Int)(m:Bool)(n:GFun)(o:List GFun)(p q:Int):Option (Unit⊕Unit):=M ctx tb G 56 (a,b,c,d,e,f,h,i,j,k,l,m,n,o,p,q)
def Qf6 (a b:List Qak)(c d:Int)(e:List GCon)(f h:Int):Option (Unit⊕Unit):=M ctx tb G 58 (a,b,c,d,e,f,h)
def Qep (a b:List (List UInt8×Bool))(c:List Qak)(d e:Int)(f:List GCon)(h i:Int):Option (Unit⊕List (List UInt8×Bool)):=M ctx tb G 61 (a,b,c,d,e,f,h,i)
def Qc1 (a:List UInt8)(b c:Int):Option (Unit⊕Unit):=M ctx tb G 65 (a,b,c)
def QhU (a:List UInt8)(b c:Int):Option Bool:=M ctx tb G 66 (a,b,c)
def QcQ (a:List GCon)(b c:Int):Option (Unit⊕Int):=M ctx tb G 68 (a,b,c)
def Qko (a:List Qak):Option Bool:=M ctx tb G 69 a
def Qhd (a:List GCon):Option Int:=M ctx tb G 74 a
def Qdp (a:List Qak)(b:List Int):Option Bool:=M ctx tb G 76 (a,b)
def QnZ (a:GCon):Option Bool:=M ctx tb G 81 a
def QeV (a b c:List Bool)(d:List Qak)(e:List GFun)(f:List UInt8)(h i:Int)(j:List GVar)(k:List Qag)(l:Int)(m:Bool)(n:Int):Option Bool:=M ctx tb G 83 (a,b,c,d,e,f,h,i,j,k,l,m,n)
def Qfx (a:List Bool)(b:List Qak)(c:Bool):Option (List Bool):=M ctx tb G 87 (a,b,c)
def Qct (a:List GCon)(b c:Int):Option (Unit⊕Int):=M ctx tb G 90 (a,b,c)
def Qhe (a:List Qak)(b:List Int):Option Int:=M ctx tb G 92 (a,b)
def Qdb (a b c:List Bool)(d:GFun)(e:List Qak)(f:List GFun)(h:List UInt8)(i j:Int)(k:List GVar)(l:List Qag)(m:Int)(n:Bool)(o p:Int):Option (List Bool×List Bool):=M ctx tb G 96 (a,b,c,d,e,f,h,i,j,k,l,m,n,o,p)
def QcT (a:List Bool)(b:List Qak)(c:Bool)(d e:Int):Option (List Bool×Bool):=M ctx tb G 101 (a,b,c,d,e)
def Qln (a:GCon):Option Bool:=M ctx tb G 104 a
def Qcu (a:List Qak)(b:List Int)(c d:Int):Option (Unit⊕Int):=M ctx tb G 106 (a,b,c,d)
def Qdq (a b c:List Bool)(d:List Qak)(e:List GFun)(f:List UInt8)(h i:Int)(j:List GVar)(k:List Qag)(l:Int)(m:Bool)(n:List GVar):Option Bool:=M ctx tb G 108 (a,b,c,d,e,f,h,i,j,k,l,m,n)
def Qdc (a:List Bool)(b:Bool):Option Bool:=M ctx tb G 111 (a,b)
def Qdr (a:List Bool)(b:List GCon):Option Bool:=M ctx tb G 117 (a,b)
def QmA (a:List Qak)(b:Int):Option Bool:=M ctx tb G 121 (a,b)
def QcU (a b c:List Bool)(d:List Qak)(e:List GFun)(f:List UInt8)(h i:Int)(j:List GVar)(k:List Qag)(l:Int)(m:Bool)(n:Int):Option (List Bool×List Bool×List Bool×Int×Int):=M ctx tb G 123 (a,b,c,d,e,f,h,i,j,k,l,m,n)
def Qhf (a b c:List Bool)(d:List Qak)(e:List GFun)(f:List UInt8)(h i:Int)(j:List GVar)(k:List Qag)(l:Int)(m:Bool)(n:List GVar):Option Int:=M ctx tb G 128 (a,b,c,d,e,f,h,i,j,k,l,m,n)
def QgI (a:List Bool)(b:Bool):Option Int:=M ctx tb G 130 (a,b)
def Qhg (a:List Bool)(b:List GCon):Option Int:=M ctx tb G 133 (a,b)
def QhV (a:List Qak)(b:Int):Option Bool:=M ctx tb G 135 (a,b)
def Qfy (a b c:List Bool)(d:List Qak)(e:List GFun)(f:List UInt8)(h i:Int)(j:List GVar)(k:List Qag)(l:Int)(m:Bool)(n:Qag):Option (List Bool×Int):=M ctx tb G 140 (a,b,c,d,e,f,h,i,j,k,l,m,n)
def Qcv (a b c:List Bool)(d:List Qak)(e:List GFun)(f:List UInt8)(h i:Int)(j:List GVar)(k:List Qag)(l:Int)(m:Bool)(n:List GVar)(o p:Int):Option (Unit⊕Int):=M ctx tb G 143 (a,b,c,d,e,f,h,i,j,k,l,m,n,o,p)
def Qdd (a:List Bool)(b:Bool)(c d:Int):Option (Int⊕Unit):=M ctx tb G 145 (a,b,c,d)
def Qcw (a:List Bool)(b:List GCon)(c d:Int):Option (Unit⊕Int):=M ctx tb G 146 (a,b,c,d)
def Qf2 (a:Qag):Option (List Int):=M ctx tb G 149 a
def QpW (a:Qag):Option Bool:=M ctx tb G 153 a
def Qgh (a b c:List Bool)(d:List Qak)(e:List GFun)(f:List UInt8)(h i:Int)(j:List GVar)(k:List Qag)(l:Int)(m:Bool)(n:GVar):Option Bool:=M ctx tb G 155 (a,b,c,d,e,f,h,i,j,k,l,m,n)
def Qlo (a:List Bool)(b:GCon):Option Bool:=M ctx tb G 157 (a,b)
def Qhh (a:Qag):Option (List Int):=M ctx tb G 158 a
def QpX (a:Qag):Option (List Int):=M ctx tb G 162 a
def Qe7 (a:Qag):Option (List Int):=M ctx tb G 166 a
def Qfz (a:List Int)(b:Qag)(c:Int):Option (List Int):=M ctx tb G 167 (a,b,c)
def Qnl (a:Int):Option (QAg×Bool):=M ctx tb G 170 a
def Qds (a:List Bool)(b:List Int):Option Bool:=M ctx tb G 172 (a,b)
def QbL (a b c:List Bool)(d:List Qak)(e:List GFun)(f:List UInt8)(h i:Int)(j:List GVar)(k:List Qag)(l:Int)(m:Bool)(n:Qag)(o:List Int)(p q:Int):Option (Unit⊕Unit):=M ctx tb G 175 (a,b,c,d,e,f,h,i,j,k,l,m,n,o,p,q)
def Qhi (a:Qag):Option (List Int):=M ctx tb G 177 a
def Qeq (a:List Int)(b:Qag)(c:Int):Option (List Int):=M ctx tb G 179 (a,b,c)
def Qe8 (a b:List Int)(c d:Int):Option (List Int):=M ctx tb G 182 (a,b,c,d)
def QfA (a:List Int)(b:List Qa2)(c d:Int):Option (List Int):=M ctx tb G 186 (a,b,c,d)
def Qnm:Option Unit:=M ctx tb G 187 ()
def Qhj (a:List Bool)(b:List Int):Option Int:=M ctx tb G 189 (a,b)
def Qdt (a b c:List Bool)(d:List Qak)(e:List GFun)(f:List UInt8)(h i:Int)(j:List GVar)(k:List Qag)(l:Int)(m:Bool)(n:List GVar):Option Bool:=M ctx tb G 190 (a,b,c,d,e,f,h,i,j,k,l,m,n)
def Qgi (a:List Int)(b:List Qa2)(c d:Int):Option (List Int):=M ctx tb G 193 (a,b,c,d)
def Qcx (a:List Bool)(b:List Int)(c d:Int):Option (Unit⊕Int):=M ctx tb G 197 (a,b,c,d)
def QbM (a b c:List Bool)(d:List Qak)(e:List GFun)(f:List UInt8)(h i:Int)(j:List GVar)(k:List Qag)(l:Int)(m:Bool)(n:Qag)(o p:List Int)(q r:Int):Option (Unit⊕Unit):=M ctx tb G 201 (a,b,c,d,e,f,h,i,j,k,l,m,n,o,p,q,r)
def Qhk (a b c:List Bool)(d:List Qak)(e:List GFun)(f:List UInt8)(h i:Int)(j:List GVar)(k:List Qag)(l:Int)(m:Bool)(n:List GVar):Option Int:=M ctx tb G 203 (a,b,c,d,e,f,h,i,j,k,l,m,n)
def Qjv (a:List Bool)(b:Int):Option Bool:=M ctx tb G 206 (a,b)
def QaN (a b c:List Bool)(d:List Qak)(e:List GFun)(f:List UInt8)(h i:Int)(j:List GVar)(k:List Qag)(l:Int)(m:Bool)(n:Qag)(o:Int)(p q:List Int)(r s:Int):Option (List Bool⊕List Bool):=M ctx tb G 208 (a,b,c,d,e,f,h,i,j,k,l,m,n,o,p,q,r,s)
def Qcy (a b c:List Bool)(d:List Qak)(e:List GFun)(f:List UInt8)(h i:Int)(j:List GVar)(k:List Qag)(l:Int)(m:Bool)(n:List GVar)(o p:Int):Option (Unit⊕Int):=M ctx tb G 210 (a,b,c,d,e,f,h,i,j,k,l,m,n,o,p)
def QaD (a b c:List Bool)(d:List Qak)(e:List GFun)(f:List UInt8)(h i:Int)(j:List GVar)(k:List Qag)(l:Int)(m:Bool)(n:Qag)(o p:List Int)(q r:Int):Option (List Bool⊕List Bool):=M ctx tb G 214 (a,b,c,d,e,f,h,i,j,k,l,m,n,o,p,q,r)
def Qgj (a b c:List Bool)(d:List Qak)(e:List GFun)(f:List UInt8)(h i:Int)(j:List GVar)(k:List Qag)(l:Int)(m:Bool)(n:GVar):Option Bool:=M ctx tb G 216 (a,b,c,d,e,f,h,i,j,k,l,m,n)
def Qb1 (a b c:List Bool)(d:List Qak)(e:List GFun)(f:List UInt8)(h i:Int)(j:List GVar)(k:List Qag)(l:Int)(m:Bool)(n:Qag)(o:List Int)(p q:Int):Option (List Bool×List Bool×List Bool⊕List Bool×List Bool×List Bool×Int×Int):=M ctx tb G 218 (a,b,c,d,e,f,h,i,j,k,l,m,n,o,p,q)
def QgP (a:List Qak)(b:Int):Option Bool:=M ctx tb G 222 (a,b)
def QaV (a b c:List Bool)(d:List Qak)(e:List GFun)(f:List UInt8)(h i:Int)(j:List GVar)(k:List Qag)(l:Int)(m:Bool)(n:Qag):Option Bool:=M ctx tb G 223 (a,b,c,d,e,f,h,i,j,k,l,m,n)
def Qb2 (a b c:List Bool)(d:List Qak)(e:List GFun)(f:List UInt8)(h i:Int)(j:List GVar)(k:List Qag)(l:Int)(m:Bool)(n:Qag)(o:Int)(p q:List Int)(r s:Int)(t:List Int)(u v:Int):Option (List Bool):=M ctx tb G 226 (a,b,c,d,e,f,h,i,j,k,l,m,n,o,p,q,r,s,t,u,v)
def Qnn (a:List Qak)(b:Int):Option (List GCon):=M ctx tb G 229 (a,b)
def Qdu (a:List GCon):Option Bool:=M ctx tb G 231 a
def Qav (a b c:List Bool)(d:List Qak)(e:List GFun)(f:List UInt8)(h i:Int)(j:List GVar)(k:List Qag)(l:Int)(m:Bool)(n:Int):Option Int:=M ctx tb G 232 (a,b,c,d,e,f,h,i,j,k,l,m,n)
def Qdy (a b c:List Bool)(d:List Int)(e:List Qak)(f:List GFun)(h:List UInt8)(i j:Int)(k:List GVar)(l:List Qag)(m:Int)(n:Bool)(o:List Int)(p:Int):Option Bool:=M ctx tb G 233 (a,b,c,d,e,f,h,i,j,k,l,m,n,o,p)
def Qb3 (a b c:List Bool)(d:List Qak)(e:List GFun)(f:List UInt8)(h i:Int)(j:List GVar)(k:List Qag)(l:Int)(m:Bool)(n:Int):Option Bool:=M ctx tb G 234 (a,b,c,d,e,f,h,i,j,k,l,m,n)
def QcV (a b c:List Bool)(d:List Qak)(e:List GFun)(f:List UInt8)(h i:Int)(j:List GVar)(k:List Qag)(l:Int)(m:Bool)(n:Int)(o:List Int):Option Bool:=M ctx tb G 235 (a,b,c,d,e,f,h,i,j,k,l,m,n,o)
def Qc2 (a b c:List Bool)(d:List Qak)(e:List GFun)(f:List UInt8)(h i:Int)(j:List GVar)(k:List Qag)(l:Int)(m:Bool)(n o:Int):Option (Unit⊕List Int):=M ctx tb G 236 (a,b,c,d,e,f,h,i,j,k,l,m,n,o)
def Qb4 (a b c:List Bool)(d:List Qak)(e:List GFun)(f:List UInt8)(h i:Int)(j:List GVar)(k:List Qag)(l:Int)(m:Bool)(n:Qag)(o:List Int)(p q:Int)(r:List Int)(s t:Int):Option (List Bool):=M ctx tb G 237 (a,b,c,d,e,f,h,i,j,k,l,m,n,o,p,q,r,s,t)
def Qhl (a:List GCon):Option Int:=M ctx tb G 239 a
def QbN (a b c:List Bool)(d:List Int)(e:List Qak)(f:List GFun)(h:List UInt8)(i j:Int)(k:List GVar)(l:List Qag)(m:Int)(n:Bool)(o:Int)(p:List Int)(q r:Int):Option (Unit⊕Unit):=M ctx tb G 240 (a,b,c,d,e,f,h,i,j,k,l,m,n,o,p,q,r)
def QeW (a b c:List Bool)(d:List Qak)(e:List GFun)(f:List UInt8)(h i:Int)(j:List GVar)(k:List Qag)(l:Int)(m:Bool)(n:Int):Option (List Int×Bool):=M ctx tb G 241 (a,b,c,d,e,f,h,i,j,k,l,m,n)
def Qb5 (a b c:List Bool)(d:List Qak)(e:List GFun)(f:List UInt8)(h i:Int)(j:List GVar)(k:List Qag)(l:Int)(m:Bool)(n o:List Int)(p:Int):Option Bool:=M ctx tb G 242 (a,b,c,d,e,f,h,i,j,k,l,m,n,o,p)
def Qa3 (a b c:List Bool)(d:List Qak)(e:List GFun)(f:List UInt8)(h i:Int)(j:List GVar)(k:List Qag)(l:Int)(m:Bool)(n:Int)(o:List Qa2)(p q:Int):Option (Unit⊕Unit):=M ctx tb G 243 (a,b,c,d,e,f,h,i,j,k,l,m,n,o,p,q)
def Qcz (a:List GCon)(b c:Int):Option (Unit⊕Int):=M ctx tb G 244 (a,b,c)
def Qbw (a b c:List Bool)(d:List Int)(e:List Qak)(f:List GFun)(h:List UInt8)(i j:Int)(k:List GVar)(l:List Qag)(m:Int)(n:Bool)(o:List GVar)(p q:Int):Option (List Int):=M ctx tb G 245 (a,b,c,d,e,f,h,i,j,k,l,m,n,o,p,q)
def Qaq (a b c:List Bool)(d:List Qak)(e:List GFun)(f:List UInt8)(h i:Int)(j:List GVar)(k:List Qag)(l:Int)(m:Bool)(n:Qag)(o:List Int)(p q:Int):Option (Unit⊕Unit):=M ctx tb G 246 (a,b,c,d,e,f,h,i,j,k,l,m,n,o,p,q)
def Qbo (a b c:List Bool)(d:List Qak)(e:List GFun)(f:List UInt8)(h i:Int)(j:List GVar)(k:List Qag)(l:Int)(m:Bool)(n:List Int)(o:Int)(p:List Int)(q r:Int):Option (Unit⊕Unit):=M ctx tb G 247 (a,b,c,d,e,f,h,i,j,k,l,m,n,o,p,q,r)
def Qn0 (a:GCon):Option Bool:=M ctx tb G 248 a
def QlO:Option Bool:=M ctx tb G 254 ()
def QpY (a:Qae):Option Bool:=M ctx tb G 256 a
def Qhm (a:Qae)(b:Int):Option (Int×Int):=M ctx tb G 257 (a,b)
def Qgk (a:Qae)(b:Int):Option (Unit⊕Unit):=M ctx tb G 258 (a,b)
def Qf7 (a:Qae)(b:Int):Option (List Bool×List Int×List Qak×List GFun×List UInt8×Int×Int×List GVar×List Qag×Int×Bool):=M ctx tb G 260 (a,b)
def Qgl (a:Qae)(b:Int):Option (Unit⊕Unit):=M ctx tb G 262 (a,b)
def QpZ (a:Qae)(b:Int)(c:Bool):Option (Int×Int):=M ctx tb G 263 (a,b,c)
def QcW (a:List Bool)(b:List Int)(c:Qae)(d:List Qak)(e:List GFun)(f:List UInt8)(h i:Int)(j:List GVar)(k:List Qag)(l:Int)(m:Bool)(n:List GVar)(o p:Int):Option (List Bool×List Int):=M ctx tb G 264 (a,b,c,d,e,f,h,i,j,k,l,m,n,o,p)
def Qgm (a:Qae)(b:GFun)(c d:Int):Option (Unit⊕Unit):=M ctx tb G 267 (a,b,c,d)
def Qd4 (a:Qae)(b:GFun):Option (List Int):=M ctx tb G 268 (a,b)
def QcG (a:List Bool)(b:List Int)(c:List Qak)(d:List GFun)(e:List UInt8)(f h:Int)(i:List GVar)(j:List Qag)(k:Int)(l:Bool)(m:Int):Option (List Int):=M ctx tb G 269 (a,b,c,d,e,f,h,i,j,k,l,m)
def Qkp (a:GFun):Option (List Int):=M ctx tb G 270 a
def Qde (a:List Int)(b:Qae)(c:GFun)(d:Int):Option (List Int):=M ctx tb G 273 (a,b,c,d)
def QeX (a:List Bool)(b:List Int)(c:List Qak)(d:List GFun)(e:List UInt8)(f h:Int)(i:List GVar)(j:List Qag)(k:Int)(l m:Bool):Option (Int×Int):=M ctx tb G 274 (a,b,c,d,e,f,h,i,j,k,l,m)
def QeY (a:Qae)(b:GFun)(c:List Int):Option (List Int):=M ctx tb G 275 (a,b,c)
def QbF (a:List Bool)(b:List Int)(c:List Qak)(d:List GFun)(e:List UInt8)(f h:Int)(i:List GVar)(j:List Qag)(k:Int)(l:Bool)(m:Qag)(n:List Int)(o p:Int):Option (List Int):=M ctx tb G 276 (a,b,c,d,e,f,h,i,j,k,l,m,n,o,p)
def Qci (a:List Bool)(b:List Int)(c:List Qak)(d:List GFun)(e:List UInt8)(f h:Int)(i:List GVar)(j:List Qag)(k:Int)(l:Bool)(m:List Int)(n o:Int):Option (List Int):=M ctx tb G 277 (a,b,c,d,e,f,h,i,j,k,l,m,n,o)
def QdJ (a:List Int)(b:GFun)(c:Int):Option (List Int):=M ctx tb G 278 (a,b,c)
def QgQ (a:Qae)(b:GFun)(c:Int):Option Bool:=M ctx tb G 279 (a,b,c)
def QeP (a:Qgg)(b:Int)(c:List Int):Option Qgg:=M ctx tb G 280 (a,b,c)
def Qf3 (a:List Int)(b:Qae)(c:GFun)(d:Int):Option (List Int):=M ctx tb G 281 (a,b,c,d)
def QeZ (a:List Bool)(b:List Int)(c:List Qak)(d:List GFun)(e:List UInt8)(f h:Int)(i:List GVar)(j:List Qag)(k:Int)(l:Bool):Option (List Bool×List Bool⊕List Bool×List Bool×Nat):=M ctx tb G 282 (a,b,c,d,e,f,h,i,j,k,l)
def Qdk (a:List Int)(b:Qae)(c:GFun)(d:List Int)(e:Int):Option (List Int):=M ctx tb G 283 (a,b,c,d,e)
def Qno (a:List Qak)(b:Int):Option Bool:=M ctx tb G 284 (a,b)
def Qgs (a:Qgg)(b:Qag)(c:List Int):Option Int:=M ctx tb G 285 (a,b,c)
def Qer (a:List Int)(b:Qae)(c:GFun)(d:Qag)(e:List Qa2)(f h:Int):Option (List Int):=M ctx tb G 286 (a,b,c,d,e,f,h)
def Qh9 (a:List Int)(b:Qae)(c:GFun)(d:List Int)(e f:Int):Option (List Int):=M ctx tb G 287 (a,b,c,d,e,f)
def QfN (a:List Bool)(b:List Int)(c d e f:List Bool)(h:List Qak)(i:List GFun)(j:List UInt8)(k l:Int)(m:List GVar)(n:List Qag)(o:Int)(p:Bool)(q r:Int):Option (Unit⊕List Bool×Nat):=M ctx tb G 288 (a,b,c,d,e,f,h,i,j,k,l,m,n,o,p,q,r)
def QgJ (a:List GCon)(b:Int):Option (Unit⊕Unit):=M ctx tb G 289 (a,b)
def QcO (a:Qae)(b:GFun)(c:Qag):Option (List Int):=M ctx tb G 290 (a,b,c)
def Qdl (a:List Int)(b:Qae)(c:GFun)(d:Qag)(e:List Qa2)(f h:Int)(i:List Int)(j k:Int):Option (List Int):=M ctx tb G 291 (a,b,c,d,e,f,h,i,j,k)
def QfB (a:List Bool)(b:List Int)(c d:List Bool)(e:List Int)(f:List Qak)(h:List GFun)(i:List UInt8)(j k:Int)(l:List GVar)(m:List Qag)(n:Int)(o:Bool):Option (List Bool):=M ctx tb G 292 (a,b,c,d,e,f,h,i,j,k,l,m,n,o)
def Qjg (a:Qae)(b:GFun)(c:Qag):Option (List Int):=M ctx tb G 293 (a,b,c)
def Qc3 (a:Qae)(b:GFun)(c:List Int):Option (List Int):=M ctx tb G 294 (a,b,c)
def QcZ (a:Qae)(b:GFun)(c:Int)(d:List Int)(e:Bool):Option (List Int):=M ctx tb G 295 (a,b,c,d,e)
def QbO (a:List Bool)(b:List Int)(c d:List Bool)(e:List Int)(f:List Qak)(h:List GFun)(i:List UInt8)(j k:Int)(l:List GVar)(m:List Qag)(n:Int)(o:Bool)(p q:Int):Option (List Bool):=M ctx tb G 296 (a,b,c,d,e,f,h,i,j,k,l,m,n,o,p,q)
def QcL (a b c:List Bool)(d:List Int)(e:List Qak)(f:List GFun)(h:List UInt8)(i j:Int)(k:List GVar)(l:List Qag)(m:Int)(n o:Bool)(p:Int):Option (Int×Int):=M ctx tb G 297 (a,b,c,d,e,f,h,i,j,k,l,m,n,o,p)
def Qcj (a:List Int)(b:Qgg)(c:Qag)(d e f:List Int)(h:Int):Option (Unit⊕Unit):=M ctx tb G 298 (a,b,c,d,e,f,h)
def Qdm (a:List Int)(b:Qae)(c:GFun)(d:List Int)(e:Int):Option (List Int):=M ctx tb G 299 (a,b,c,d,e)
def Qck (a:List Int)(b:Qae)(c:GFun)(d:Int)(e:List Int)(f:Bool)(h:Int):Option (List Int):=M ctx tb G 300 (a,b,c,d,e,f,h)
def Qcl (a:List Bool)(b:List Int)(c:List Qak)(d:List GFun)(e:List UInt8)(f h:Int)(i:List GVar)(j:List Qag)(k:Int)(l:Bool)(m:Int):Option Bool:=M ctx tb G 301 (a,b,c,d,e,f,h,i,j,k,l,m)
def Qe0 (a:List Bool)(b:List Int)(c d:List Bool)(e:List Qak)(f:List GFun)(h:List UInt8)(i j:Int)(k:List GVar)(l:List Qag)(m:Int)(n:Bool)(o:Qag)(p:Bool):Option Int:=M ctx tb G 302 (a,b,c,d,e,f,h,i,j,k,l,m,n,o,p)
def Qcm (a b:List Int)(c:Qgg)(d:Qag)(e f h:List Int)(i:Int):Option (Unit⊕Unit):=M ctx tb G 303 (a,b,c,d,e,f,h,i)
def QbX (a:List Int)(b:Qae)(c:GFun)(d:Nat)(e:List Int)(f h:Int):Option (List Int):=M ctx tb G 304 (a,b,c,d,e,f,h)
def QaH (a:List Bool)(b:List Int)(c:List Qak)(d:List GFun)(e:List UInt8)(f h:Int)(i:List GVar)(j:List Qag)(k:Int)(l:Bool)(m:Qag):Option (List Int×List Int):=M ctx tb G 305 (a,b,c,d,e,f,h,i,j,k,l,m)
def Qes (a:List Int)(b:Int):Option Bool:=M ctx tb G 306 (a,b)
def QgK (a:List Int)(b:Qae)(c:GFun)(d:Int)(e:Nat):Option (List Int):=M ctx tb G 307 (a,b,c,d,e)
def QaJ (a:List Bool)(b:List Int)(c:List Qak)(d:List GFun)(e:List UInt8)(f h:Int)(i:List GVar)(j:List Qag)(k:Int)(l:Bool)(m:List Int):Option (List Int):=M ctx tb G 308 (a,b,c,d,e,f,h,i,j,k,l,m)
def Qca (a:List Bool)(b c d:List Int)(e:List Qak)(f:List GFun)(h:List UInt8)(i j:Int)(k:List GVar)(l:List Qag)(m:Int)(n:Bool)(o:Qag)(p:List Int):Option (List Int×List Int):=M ctx tb G 309 (a,b,c,d,e,f,h,i,j,k,l,m,n,o,p)
def Qcn (a:List Int)(b:Qgg)(c:Qag)(d e f:List Int)(h:Int):Option (Unit⊕Unit):=M ctx tb G 310 (a,b,c,d,e,f,h)
def QbU (a:List Bool)(b:List Int)(c d e f:List Bool)(h:List Qak)(i:List GFun)(j:List UInt8)(k l:Int)(m:List GVar)(n:List Qag)(o:Int)(p:Bool)(q:Nat)(r s:Int):Option (List Bool):=M ctx tb G 311 (a,b,c,d,e,f,h,i,j,k,l,m,n,o,p,q,r,s)
def Qbx (a b c:List Bool)(d e f:List Int)(h:List Qak)(i:List GFun)(j:List UInt8)(k l:Int)(m:List GVar)(n:List Qag)(o:Int)(p:Bool)(q:Qag)(r:Bool)(s t:Int):Option (Unit⊕Unit):=M ctx tb G 312 (a,b,c,d,e,f,h,i,j,k,l,m,n,o,p,q,r,s,t)
def QhW (a:List Int)(b c:Int):Option (Unit⊕Unit):=M ctx tb G 313 (a,b,c)
def Qdf (a:List Int)(b:Qae)(c:GFun)(d:Qag)(e:Nat)(f:List Qa2)(h i:Int):Option (List Int):=M ctx tb G 314 (a,b,c,d,e,f,h,i)
def Qby (a:List Bool)(b c:List Int)(d:List Qak)(e:List GFun)(f:List UInt8)(h i:Int)(j:List GVar)(k:List Qag)(l:Int)(m:Bool)(n:List Int)(o p:Int):Option (List Int):=M ctx tb G 315 (a,b,c,d,e,f,h,i,j,k,l,m,n,o,p)
def Qar (a:List Bool)(b c d:List Int)(e:List Qak)(f:List GFun)(h:List UInt8)(i j:Int)(k:List GVar)(l:List Qag)(m:Int)(n:Bool)(o:Qag)(p:List Int)(q r:Int):Option (List Int×List Int):=M ctx tb G 316 (a,b,c,d,e,f,h,i,j,k,l,m,n,o,p,q,r)
def Qco (a:List Int)(b:Qgg)(c:Qag)(d e f:List Int)(h i:Int):Option (Unit⊕Unit):=M ctx tb G 317 (a,b,c,d,e,f,h,i)
def Qef (a:List Bool)(b:List Int)(c d:List Bool)(e:List Int)(f:List Qak)(h:List GFun)(i:List UInt8)(j k:Int)(l:List GVar)(m:List Qag)(n:Int)(o:Bool)(p:Nat):Option (List Bool):=M ctx tb G 318 (a,b,c,d,e,f,h,i,j,k,l,m,n,o,p)
def QcH (a:List Int)(b:Qae)(c:GFun)(d:Qag)(e:Nat)(f:List Qa2)(h i:Int)(j:List Int)(k l:Int):Option (List Int):=M ctx tb G 319 (a,b,c,d,e,f,h,i,j,k,l)
def QbG (a:List Int)(b:Qgg)(c:List Int)(d:List Qa2)(e f:Int):Option Qgg:=M ctx tb G 320 (a,b,c,d,e,f)
def QbH (a b:List Int)(c:Qgg)(d:List Int)(e f:Int):Option Qgg:=M ctx tb G 321 (a,b,c,d,e,f)
def Qcp (a:List Int)(b:Qgg)(c:Qag)(d e f:List Int)(h:Int):Option (Unit⊕Unit):=M ctx tb G 322 (a,b,c,d,e,f,h)
def Qb6 (a:List Int)(b:Qgg)(c d:List Int)(e:Int):Option (Unit⊕Unit):=M ctx tb G 323 (a,b,c,d,e)
def Qet (a:List (List Int)):Option (List Int):=M ctx tb G 324 a
def Qbp (a:List Bool)(b:List Int)(c d:List Bool)(e:List Int)(f:List Qak)(h:List GFun)(i:List UInt8)(j k:Int)(l:List GVar)(m:List Qag)(n:Int)(o:Bool)(p:Nat)(q r:Int):Option (List Bool):=M ctx tb G 325 (a,b,c,d,e,f,h,i,j,k,l,m,n,o,p,q,r)
def Qbz (a b c:List Bool)(d e f:List Int)(h:List Qak)(i:List GFun)(j:List UInt8)(k l:Int)(m:List GVar)(n:List Qag)(o:Int)(p:Bool)(q:Qag)(r:Bool)(s:List Int)(t u:Int):Option (Unit⊕Unit):=M ctx tb G 326 (a,b,c,d,e,f,h,i,j,k,l,m,n,o,p,q,r,s,t,u)
def Qas (a b:List Int)(c:Qgg)(d:Int):Option Qgg:=M ctx tb G 327 (a,b,c,d)
def Qd5 (a:List (List Int))(b:Int)(c:List (List Int))(d e:Int):Option Int:=M ctx tb G 328 (a,b,c,d,e)
def Qcb (a b c:List Bool)(d:List Int)(e:List Qak)(f:List GFun)(h:List UInt8)(i j:Int)(k:List GVar)(l:List Qag)(m:Int)(n o:Bool)(p:Int)(q:Nat):Option (Int×Int):=M ctx tb G 329 (a,b,c,d,e,f,h,i,j,k,l,m,n,o,p,q)
def QfC (a b:List Int)(c:Qgg)(d:Qag):Option Int:=M ctx tb G 330 (a,b,c,d)
def QbA (a b c:List Bool)(d e f:List Int)(h:List Qak)(i:List GFun)(j:List UInt8)(k l:Int)(m:List GVar)(n:List Qag)(o:Int)(p:Bool)(q:Qag)(r:Bool)(s t:Int):Option (Unit⊕Unit):=M ctx tb G 331 (a,b,c,d,e,f,h,i,j,k,l,m,n,o,p,q,r,s,t)
def Qn1 (a:Int):Option (List Int×Nat⊕Unit):=M ctx tb G 332 a
def QdK (a:List Bool)(b:List Int)(c d:List Bool)(e:List Qak)(f:List GFun)(h:List UInt8)(i j:Int)(k:List GVar)(l:List Qag)(m:Int)(n:Bool)(o:Qag)(p:Nat)(q:Bool):Option Int:=M ctx tb G 333 (a,b,c,d,e,f,h,i,j,k,l,m,n,o,p,q)
def QbP (a b:List Int)(c:Qgg)(d:Qag)(e f:List Int)(h:Int):Option (Unit⊕Unit):=M ctx tb G 334 (a,b,c,d,e,f,h)
def Qa4 (a b c:List Bool)(d:List Int)(e:List Qak)(f:List GFun)(h:List UInt8)(i j:Int)(k:List GVar)(l:List Qag)(m:Int)(n o:Bool)(p:Qag)(q:List Int)(r s:Int):Option (Unit⊕Int×Int):=M ctx tb G 335 (a,b,c,d,e,f,h,i,j,k,l,m,n,o,p,q,r,s)
def QaW (a:List Int)(b:Int):Option Bool:=M ctx tb G 336 (a,b)
def Qa5 (a b c:List Bool)(d e f:List Int)(h:List Qak)(i:List GFun)(j:List UInt8)(k l:Int)(m:List GVar)(n:List Qag)(o:Int)(p:Bool)(q:Qag)(r:Nat)(s:Bool)(t u:Int):Option (Unit⊕Unit):=M ctx tb G 337 (a,b,c,d,e,f,h,i,j,k,l,m,n,o,p,q,r,s,t,u)
def Qeu (a:Qag):Option Bool:=M ctx tb G 338 a
def Qiz (a:List Int)(b:Nat)(c:List (List Int))(d e:Int):Option (Unit⊕List Int):=M ctx tb G 339 (a,b,c,d,e)
def QbI (a:List Int)(b:List (List Int))(c d:Int):Option (List Int):=M ctx tb G 340 (a,b,c,d)
def QbQ (a b c:List Int)(d:Qgg)(e:Qag)(f h:List Int)(i:Int):Option (Unit⊕Unit):=M ctx tb G 341 (a,b,c,d,e,f,h,i)
def QbB (a b c:List Bool)(d e f:List Int)(h:List Qak)(i:List GFun)(j:List UInt8)(k l:Int)(m:List GVar)(n:List Qag)(o:Int)(p:Bool)(q:Qag)(r:Bool)(s t u v w:Int):Option (Unit⊕Unit):=M ctx tb G 342 (a,b,c,d,e,f,h,i,j,k,l,m,n,o,p,q,r,s,t,u,v,w)
def Qeg (a:List Bool)(b:List Int)(c d:List Bool)(e:List Qak)(f:List GFun)(h:List UInt8)(i j:Int)(k:List GVar)(l:List Qag)(m:Int)(n:Bool)(o:Qag)(p:Int):Option (List Bool×List Bool×Nat×Nat):=M ctx tb G 343 (a,b,c,d,e,f,h,i,j,k,l,m,n,o,p)
def Qkq (a:List Int)(b:Int):Option Int:=M ctx tb G 344 (a,b)
def Qbq (a b c:List Bool)(d e:List Int)(f:List Qak)(h:List GFun)(i:List UInt8)(j k:Int)(l:List GVar)(m:List Qag)(n:Int)(o:Bool)(p q:Int):Option (Unit⊕Unit):=M ctx tb G 345 (a,b,c,d,e,f,h,i,j,k,l,m,n,o,p,q)
def QbC (a b c:List Bool)(d e f:List Int)(h:List Qak)(i:List GFun)(j:List UInt8)(k l:Int)(m:List GVar)(n:List Qag)(o:Int)(p q:Bool)(r s:Int):Option (Unit⊕Unit):=M ctx tb G 346 (a,b,c,d,e,f,h,i,j,k,l,m,n,o,p,q,r,s)
def Qa6 (a b c:List Bool)(d e f:List Int)(h:List Qak)(i:List GFun)(j:List UInt8)(k l:Int)(m:List GVar)(n:List Qag)(o:Int)(p:Bool)(q:Qag)(r:Nat)(s:Bool)(t:List Int)(u v:Int):Option (Unit⊕Unit):=M ctx tb G 347 (a,b,c,d,e,f,h,i,j,k,l,m,n,o,p,q,r,s,t,u,v)
def QdL (a b:List Bool):Option (List Bool×List Bool×Nat×Nat):=M ctx tb G 348 (a,b)
def Qdz (a:List Int)(b c d:Int):Option (Int⊕Unit):=M ctx tb G 349 (a,b,c,d)
def QbR (a b:List Int)(c:Qgg)(d:Qag)(e f:List Int)(h:Int):Option (Unit⊕Unit):=M ctx tb G 350 (a,b,c,d,e,f,h)
def Qa7 (a b c:List Int)(d:Qgg)(e:List Qa2)(f h:Int):Option Qgg:=M ctx tb G 351 (a,b,c,d,e,f,h)
def Qa8 (a b c d:List Int)(e:Qgg)(f:List Int)(h i:Int):Option Qgg:=M ctx tb G 352 (a,b,c,d,e,f,h,i)
def Qa9 (a b c:List Bool)(d e f:List Int)(h:List Qak)(i:List GFun)(j:List UInt8)(k l:Int)(m:List GVar)(n:List Qag)(o:Int)(p:Bool)(q:Qag)(r:Nat)(s:Bool)(t u:Int):Option (Unit⊕Unit):=M ctx tb G 353 (a,b,c,d,e,f,h,i,j,k,l,m,n,o,p,q,r,s,t,u)
def QaK (a b c:List Bool)(d:List Int)(e f h i:List Bool)(j:List Int)(k:List Qak)(l:List GFun)(m:List UInt8)(n o:Int)(p:List GVar)(q:List Qag)(r:Int)(s:Bool)(t:Qag)(u v:Nat)(w x y:Int):Option (List Bool):=M ctx tb G 354 (a,b,c,d,e,f,h,i,j,k,l,m,n,o,p,q,r,s,t,u,v,w,x,y)
def QbS (a b:List Int)(c:Qgg)(d:Qag)(e f:List Int)(h i:Int):Option (Unit⊕Unit):=M ctx tb G 355 (a,b,c,d,e,f,h,i)
def QaS (a b c:List Bool)(d:List Int)(e:List Qak)(f:List GFun)(h:List UInt8)(i j:Int)(k:List GVar)(l:List Qag)(m:Int)(n o:Bool)(p:Nat)(q:Qag)(r:List Int)(s t:Int):Option (Unit⊕Int×Int):=M ctx tb G 356 (a,b,c,d,e,f,h,i,j,k,l,m,n,o,p,q,r,s,t)
def QbT (a b:List Int)(c:Qgg)(d:Qag)(e f:List Int)(h:Int):Option (Unit⊕Unit):=M ctx tb G 357 (a,b,c,d,e,f,h)
def QbD (a b:List Int)(c:Qgg)(d:List Int)(e:Int):Option (Unit⊕Unit):=M ctx tb G 358 (a,b,c,d,e)
def Qba (a b c:List Bool)(d e f:List Int)(h:List Qak)(i:List GFun)(j:List UInt8)(k l:Int)(m:List GVar)(n:List Qag)(o:Int)(p:Bool)(q:Qag)(r:Nat)(s:Bool)(t u v w x:Int):Option (Unit⊕Unit):=M ctx tb G 359 (a,b,c,d,e,f,h,i,j,k,l,m,n,o,p,q,r,s,t,u,v,w,x)
def QaZ (a b c:List Bool)(d e:List Int)(f:List Qak)(h:List GFun)(i:List UInt8)(j k:Int)(l:List GVar)(m:List Qag)(n:Int)(o:Bool)(p q:Nat)(r s:Int):Option (Unit⊕Unit):=M ctx tb G 360 (a,b,c,d,e,f,h,i,j,k,l,m,n,o,p,q,r,s)
def Qbb (a b c:List Bool)(d e f:List Int)(h:List Qak)(i:List GFun)(j:List UInt8)(k l:Int)(m:List GVar)(n:List Qag)(o:Int)(p:Bool)(q:Nat)(r:Bool)(s t:Int):Option (Unit⊕Unit):=M ctx tb G 361 (a,b,c,d,e,f,h,i,j,k,l,m,n,o,p,q,r,s,t)
def QaO (a:List Bool)(b:List Int)(c d:List Bool)(e:List Qak)(f:List GFun)(h:List UInt8)(i j:Int)(k:List GVar)(l:List Qag)(m:Int)(n:Bool)(o p:Nat)(q:List Int):Option (List Bool):=M ctx tb G 362 (a,b,c,d,e,f,h,i,j,k,l,m,n,o,p,q)
def Qdv (a:List Bool)(b:List Int)(c d:List Bool)(e:List Qak)(f:List GFun)(h:List UInt8)(i j:Int)(k:List GVar)(l:List Qag)(m:Int)(n:Bool)(o:Qag)(p:Int)(q:Nat):Option (List Bool×List Bool×Nat×Nat):=M ctx tb G 363 (a,b,c,d,e,f,h,i,j,k,l,m,n,o,p,q)
def Qbr (a:List Bool)(b:List Int)(c d:List Bool)(e:List Qak)(f:List GFun)(h:List UInt8)(i j:Int)(k:List GVar)(l:List Qag)(m:Int)(n:Bool)(o p:Nat)(q:List Int)(r s:Int):Option (List Bool):=M ctx tb G 364 (a,b,c,d,e,f,h,i,j,k,l,m,n,o,p,q,r,s)
def Qc4 (a b:List Bool)(c:Nat):Option (List Bool×List Bool×Nat×Nat):=M ctx tb G 365 (a,b,c)
def Qao (a b c:List Bool)(d:List Int)(e:List Qak)(f:List GFun)(h:List UInt8)(i j:Int)(k:List GVar)(l:List Qag)(m:Int)(n o:Bool)(p:Int)(q r:Nat):Option (Int×Int):=M ctx tb G 366 (a,b,c,d,e,f,h,i,j,k,l,m,n,o,p,q,r)
def QdM (a:List Bool)(b:List Int)(c d:List Bool)(e:List Qak)(f:List GFun)(h:List UInt8)(i j:Int)(k:List GVar)(l:List Qag)(m:Int)(n:Bool)(o:Qag)(p q:Nat)(r:Bool):Option Int:=M ctx tb G 367 (a,b,c,d,e,f,h,i,j,k,l,m,n,o,p,q,r)
def Qbc (a b c:List Bool)(d e f:List Int)(h:List Qak)(i:List GFun)(j:List UInt8)(k l:Int)(m:List GVar)(n:List Qag)(o:Int)(p:Bool)(q:Qag)(r s:Nat)(t:Bool)(u v:Int):Option (Unit⊕Unit):=M ctx tb G 368 (a,b,c,d,e,f,h,i,j,k,l,m,n,o,p,q,r,s,t,u,v)
def Qbd (a b c:List Bool)(d e f:List Int)(h:List Qak)(i:List GFun)(j:List UInt8)(k l:Int)(m:List GVar)(n:List Qag)(o:Int)(p:Bool)(q:Qag)(r s:Nat)(t:Bool)(u:List Int)(v w:Int):Option (Unit⊕Unit):=M ctx tb G 369 (a,b,c,d,e,f,h,i,j,k,l,m,n,o,p,q,r,s,t,u,v,w)
def Qbe (a b c:List Bool)(d e f:List Int)(h:List Qak)(i:List GFun)(j:List UInt8)(k l:Int)(m:List GVar)(n:List Qag)(o:Int)(p:Bool)(q:Qag)(r s:Nat)(t:Bool)(u v:Int):Option (Unit⊕Unit):=M ctx tb G 370 (a,b,c,d,e,f,h,i,j,k,l,m,n,o,p,q,r,s,t,u,v)
def QaT (a b c:List Bool)(d:List Int)(e:List Qak)(f:List GFun)(h:List UInt8)(i j:Int)(k:List GVar)(l:List Qag)(m:Int)(n o:Bool)(p q:Nat)(r:Qag)(s:List Int)(t u:Int):Option (Unit⊕Int×Int):=M ctx tb G 371 (a,b,c,d,e,f,h,i,j,k,l,m,n,o,p,q,r,s,t,u)
def Qbf (a b c:List Bool)(d e f:List Int)(h:List Qak)(i:List GFun)(j:List UInt8)(k l:Int)(m:List GVar)(n:List Qag)(o:Int)(p:Bool)(q:Qag)(r s:Nat)(t:Bool)(u v w x y:Int):Option (Unit⊕Unit):=M ctx tb G 372 (a,b,c,d,e,f,h,i,j,k,l,m,n,o,p,q,r,s,t,u,v,w,x,y)
def Qa0 (a b c:List Bool)(d e:List Int)(f:List Qak)(h:List GFun)(i:List UInt8)(j k:Int)(l:List GVar)(m:List Qag)(n:Int)(o:Bool)(p q r:Nat)(s t:Int):Option (Unit⊕Unit):=M ctx tb G 373 (a,b,c,d,e,f,h,i,j,k,l,m,n,o,p,q,r,s,t)
def Qbg (a b c:List Bool)(d e f:List Int)(h:List Qak)(i:List GFun)(j:List UInt8)(k l:Int)(m:List GVar)(n:List Qag)(o:Int)(p:Bool)(q r:Nat)(s:Bool)(t u:Int):Option (Unit⊕Unit):=M ctx tb G 374 (a,b,c,d,e,f,h,i,j,k,l,m,n,o,p,q,r,s,t,u)
def Qdw (a:List Bool)(b:List Int)(c d:List Bool)(e:List Qak)(f:List GFun)(h:List UInt8)(i j:Int)(k:List GVar)(l:List Qag)(m:Int)(n:Bool)(o:Qag)(p:Int)(q r:Nat):Option (List Bool×List Bool×Nat×Nat):=M ctx tb G 375 (a,b,c,d,e,f,h,i,j,k,l,m,n,o,p,q,r)
def Qc5 (a b:List Bool)(c d:Nat):Option (List Bool×List Bool×Nat×Nat):=M ctx tb G 376 (a,b,c,d)
def Qeh (a:Qae):Option Bool:=M ctx tb G 377 a
def QaQ (a:Qae)(b:Int):Option (Unit⊕Unit):=M ctx tb G 378 (a,b)
def Qbs (a:List Int)(b:Qae)(c:GFun)(d e:Int):Option (List Int):=M ctx tb G 379 (a,b,c,d,e)
def QdN (a:Qae)(b:GFun)(c:Int)(d e:List Int):Option Bool:=M ctx tb G 380 (a,b,c,d,e)
def Qev (a:List Int)(b:Qae)(c:GFun)(d:Qag)(e f:List Int)(h i:Int):Option (List Int):=M ctx tb G 381 (a,b,c,d,e,f,h,i)
def Qew (a:List Int)(b:Qae)(c:GFun)(d:List Int)(e:List Qa2)(f h:Int):Option (Unit⊕Unit):=M ctx tb G 382 (a,b,c,d,e,f,h)
def Qex (a b:List Int)(c:GFun)(d:List Int)(e f:Int):Option (Unit⊕Unit):=M ctx tb G 383 (a,b,c,d,e,f)
theorem QsI a:Qk4 a=
 (QlM a.1).bind fun b=>bif decide (b=0) then bif (decide ((128:Int)<(a.2.length:Int))) then some (6:Int) else (Qfw a a.2.length 0).bind fun
   |.inl _=> some (0:Int)
   |.inr c=> some c else some b:=me 8
theorem QqF a:QlM a=
 (Qnk a).bind fun b=>bif b then some (6:Int) else (Qkn a).bind fun c=>bif c then (QlN a).bind fun d=>bif d then some (8:Int) else (Qen a a a.length 0).bind fun
   |.inl _=> (Qko a).bind fun e=>bif e then some (0:Int) else some (7:Int)
   |.inr _=> some (10:Int) else some (3:Int):=me 13
theorem Qjw a b c:Qfw a b c=
 bif decide (c<b) then (Qjf a c).bind fun ⟨d,e⟩=>bif decide (e=0) then Qfw a b (Ev.wr .i64 (c+1)) else some (.inr e) else some (.inl ()):=me 15
theorem QsJ a:Qnk a=
 bif (decide ((64:Int)<(a.length:Int))) then some true else (QgH a a.length 0).bind fun
   |.inl _=> some true
   |.inr _=> some false:=me 19
theorem Qp0 a:Qkn a=
 (bif (decide ((a.length:Int)=(0:Int))) then some true else (Sy.at' a 0).bind fun b=>some (!(decide (b.1=([66,111,111,108]:List UInt8))))).bind fun b=>(bif b then some true else (Sy.at' a 0).bind fun c=>some (!(decide ((c.2.length:Int)=(2:Int))))).bind fun c=>bif c then some false else (Sy.at' a 0).bind fun d=>(Sy.at' d.2 0).bind fun e=>(Sy.at' d.2 1).bind fun f=>(bif (decide (e.1=([70,97,108,115,101]:List UInt8))) then some (!(decide (f.1=([84,114,117,101]:List UInt8)))) else some true).bind fun h=>(bif h then some true else some (decide ((0:Int)<(Ev.wr .i64 ((e.2.length:Int)+(f.2.length:Int)))))).bind fun i=>bif i then some false else (QdI a a.length 0).bind fun
      |.inl _=> some true
      |.inr _=> some false:=me 22
theorem Qn9 a b:Qjf a b=
 (bif (decide (b<(0:Int))) then some true else some (!(decide (b<(a.2.length:Int))))).bind fun c=>bif c then some ((0:Int),(2:Int)) else (Sy.at' a.2 b).bind fun d=>(QeU ([]:List (Bool)) ([]:List (Bool)) ([]:List (Bool)) a.1 a.2 d.1 d.2.1 d.2.2.1 d.2.2.2.1 d.2.2.2.2.1 d.2.2.2.2.2.1 d.2.2.2.2.2.2 b).bind fun e=>bif decide (e=0) then bif d.2.2.2.2.2.2 then some ((0:Int),(0:Int)) else bif (decide ((d.2.2.2.2.1.length:Int)<(0:Int))) then none else bif (decide (((d.2.2.2.2.1.length:Int).toNat * (1:Nat))≤(140737488355328:Nat))) then bif (decide ((d.2.2.2.1.length:Int)<(0:Int))) then none else bif (decide (((d.2.2.2.1.length:Int).toNat * (1:Nat))≤(140737488355328:Nat))) then (Qdb (List.replicate (d.2.2.2.2.1.length:Int).toNat false) (List.replicate (d.2.2.2.1.length:Int).toNat false) (List.replicate (d.2.2.2.1.length:Int).toNat false) d a.1 a.2 d.1 d.2.1 d.2.2.1 d.2.2.2.1 d.2.2.2.2.1 d.2.2.2.2.2.1 d.2.2.2.2.2.2 d.2.1 0).bind fun ⟨f,h⟩=>(Sy.at' (List.replicate (d.2.2.2.2.1.length:Int).toNat false) d.2.2.2.2.2.1).bind fun i=>(QcU (List.set (List.replicate (d.2.2.2.2.1.length:Int).toNat false) d.2.2.2.2.2.1.toNat true) f h a.1 a.2 d.1 d.2.1 d.2.2.1 d.2.2.2.1 d.2.2.2.2.1 d.2.2.2.2.2.1 d.2.2.2.2.2.2 d.2.2.2.2.2.1).bind fun ⟨j,k,l,m,n⟩=>bif decide (n=0) then (QgI j (false)).bind fun o=>bif (decide (o<(0:Int))) then (Qdc k (false)).bind fun p=>bif p then some ((-1:Int),(3:Int)) else some ((0:Int),(0:Int)) else some (o,(3:Int)) else some (m,n) else none else none else some ((-1:Int),e):=me 24
theorem Qjx a b c:QgH a b c=
 bif decide (c<b) then (Sy.at' a c).bind fun d=>(bif (decide ((16:Int)<(d.2.length:Int))) then some true else (Qee d.2).bind fun e=>some e).bind fun e=>bif e then some (.inl ()) else QgH a b (Ev.wr .i64 (c+1)) else some (.inr ()):=me 28
theorem QqG a:QlN a=
 (Qeo (Sy.putD .str .bool ([]:List ((List UInt8)×(Bool))) ([73,110,116]:List UInt8) true) ([]:List ((List UInt8)×(Bool))) a a.length 0).bind fun
  |.inl _=> some true
  |.inr _=> some false:=me 29
theorem QhX a b c:QdI a b c=
 bif decide (c<b) then (Sy.at' a c).bind fun d=>((Qk5 d.1).bind fun e=>bif e then some (decide ((d.2.length:Int)=(0:Int))) else some true).bind fun e=>(bif e then some true else (Qdo d.2).bind fun f=>some f).bind fun f=>bif f then some (.inr ()) else QdI a b (Ev.wr .i64 (c+1)) else some (.inl ()):=me 33
theorem QjG a b c d e f h i j k l m n:QeU a b c d e f h i j k l m n=
 (QpV f).bind fun o=>bif o then bif (decide (n<(0:Int))) then none else bif (decide ((e.length:Int)<n)) then none else (Qbv a b c d e f h i j k l m (f,(h,(i,(j,(k,(l,m)))))) (List.take n.toNat e) ((List.take n.toNat e).length:Int) 0).bind fun
   |.inl _=> some (8:Int)
   |.inr _=> (bif (decide ((6:Int)<h)) then some true else some (decide ((512:Int)<(j.length:Int)))).bind fun p=>(bif p then some true else some (decide ((4096:Int)<(k.length:Int)))).bind fun q=>bif q then some (6:Int) else (bif (decide (h<(0:Int))) then some true else some (decide ((j.length:Int)<h))).bind fun r=>bif r then some (3:Int) else (bif m then (bif (decide (h<(j.length:Int))) then some true else some (decide ((0:Int)<(k.length:Int)))).bind fun s=>(bif s then some true else some (!(decide (l=0)))).bind fun t=>bif t then some (.inl ()) else some (.inr ()) else (bif (decide (l<(0:Int))) then some true else some (!(decide (l<(k.length:Int))))).bind fun s=>bif s then some (.inl ()) else some (.inr ()):Option ((Unit)⊕(Unit))).bind fun
         |.inl _=> some (3:Int)
         |.inr _=> ((QeV a b c d e f h i j k l m i).bind fun s=>bif s then (Qdq a b c d e f h i j k l m j).bind fun t=>some (.inl t) else some (.inr ()):Option (((Bool))⊕(Unit))).bind fun
          |.inl s=> bif s then some (10:Int) else (Qdt a b c d e f h i j k l m j).bind fun t=>bif t then some (11:Int) else some (0:Int)
          |.inr _=> some (10:Int) else some (3:Int):=me 35
theorem Qjh a:Qee a=
 (Qiy a).bind fun b=>some (!(decide (b<(0:Int)))):=me 38
theorem QiA a b c d:Qen a b c d=
 bif decide (d<c) then (Sy.at' b d).bind fun e=>(Qf6 a b c d e.2 e.2.length 0).bind fun
   |.inl _=> Qen a b c (Ev.wr .i64 (d+1))
   |.inr _=> some (.inr ()) else some (.inl ()):=me 40
theorem QiB a b c d e:Qeo a b c d e=
 bif decide (e<d) then (Sy.at' c e).bind fun f=>bif (Sy.findD .str .bool a f.1 false) then some (.inl ()) else (Qep (Sy.putD .str .bool a f.1 true) b c d e f.2 f.2.length 0).bind fun
   |.inl _=> some (.inl ())
   |.inr h=> Qeo (Sy.putD .str .bool a f.1 true) h c d (Ev.wr .i64 (e+1)) else some (.inr ()):=me 43
theorem QsK a:Qk5 a=
 (bif (decide (a=([]:List UInt8))) then some true else some (decide ((32:Int)<(a.length:Int)))).bind fun c=>(bif c then some true else (Sy.at' (List.map (fun (b:UInt8)=>(b.toNat:Int)) a) 0).bind fun d=>some (decide (d<(65:Int)))).bind fun d=>(bif d then some true else (Sy.at' (List.map (fun (b:UInt8)=>(b.toNat:Int)) a) 0).bind fun e=>some (decide ((90:Int)<e))).bind fun e=>bif e then some false else (Qc1 a a.length 0).bind fun
   |.inl _=> some false
   |.inr _=> some true:=me 47
theorem Qt7 a:QpV a=
 (strings_Cut a ([46]:List UInt8)).bind fun ⟨b,c,d⟩=>((QhU b 97 122).bind fun e=>bif e then bif d then (QhU c 97 122).bind fun f=>some (.inl f) else some (.inl true) else some (.inr ()):Option (((Bool))⊕(Unit))).bind fun
  |.inl e=> some e
  |.inr _=> some false:=me 49
theorem Qlb a:Qiy a=
 (QcQ a a.length 0).bind fun
  |.inl _=> some (-1:Int)
  |.inr b=> some b:=me 52
theorem Qia a:Qdo a=
 (Qhd a).bind fun b=>some (!(decide (b<(0:Int)))):=me 55
theorem Qey a b c d e f h i j k l m n o p q:Qbv a b c d e f h i j k l m n o p q=
 bif decide (q<p) then (Sy.at' o q).bind fun r=>bif decide (r.1=n.1) then some (.inl ()) else Qbv a b c d e f h i j k l m n o p (Ev.wr .i64 (q+1)) else some (.inr ()):=me 56
theorem QiC a b c d e f h:Qf6 a b c d e f h=
 bif decide (h<f) then (Sy.at' e h).bind fun i=>(Qdp a i.2).bind fun j=>bif j then some (.inr ()) else Qf6 a b c d e f (Ev.wr .i64 (h+1)) else some (.inl ()):=me 58
theorem QiD a b c d e f h i:Qep a b c d e f h i=
 bif decide (i<h) then (Sy.at' f i).bind fun j=>bif (Sy.findD .str .bool b j.1 false) then some (.inl ()) else Qep a (Sy.putD .str .bool b j.1 true) c d e f h (Ev.wr .i64 (i+1)) else some (.inr b):=me 61
theorem Qjy a c d:Qc1 a c d=
 bif decide (d<c) then (Sy.at' (List.map (fun (b:UInt8)=>(b.toNat:Int)) a) d).bind fun e=>(bif (decide (e<(97:Int))) then some false else some (!(decide ((122:Int)<e)))).bind fun f=>(bif f then some (.inl ()) else bif (decide (e<(65:Int))) then some (.inr false) else some (.inr (!(decide ((90:Int)<e)))):Option ((Unit)⊕((Bool)))).bind fun
   |.inl _=> Qc1 a c (Ev.wr .i64 (d+1))
   |.inr h=> (bif h then some (.inl ()) else bif (decide (e<(48:Int))) then some (.inr false) else some (.inr (!(decide ((57:Int)<e)))):Option ((Unit)⊕((Bool)))).bind fun
    |.inl _=> Qc1 a c (Ev.wr .i64 (d+1))
    |.inr i=> (bif i then some true else some (decide (e=95))).bind fun j=>bif j then Qc1 a c (Ev.wr .i64 (d+1)) else some (.inl ()) else some (.inr ()):=me 65
theorem Qp1 a c d:QhU a c d=
 (bif (decide ((a.length:Int)=(0:Int))) then some true else some (decide ((32:Int)<(a.length:Int)))).bind fun e=>(bif e then some true else (Sy.at' (List.map (fun (b:UInt8)=>(b.toNat:Int)) a) 0).bind fun f=>some (decide (f<c))).bind fun f=>(bif f then some true else (Sy.at' (List.map (fun (b:UInt8)=>(b.toNat:Int)) a) 0).bind fun h=>some (decide (d<h))).bind fun h=>bif h then some false else (QnY a ([97,98,99,100,101,102,103,104,105,106,107,108,109,110,111,112,113,114,115,116,117,118,119,120,121,122,65,66,67,68,69,70,71,72,73,74,75,76,77,78,79,80,81,82,83,84,85,86,87,88,89,90,48,49,50,51,52,53,54,55,56,57,95]:List UInt8)).bind fun i=>some (decide (i=([]:List UInt8))):=me 66
theorem QfD a b c:QcQ a b c=
 bif decide (c<b) then (Sy.at' a c).bind fun d=>(QnZ d).bind fun e=>bif e then some (.inr c) else QcQ a b (Ev.wr .i64 (c+1)) else some (.inl ()):=me 68
theorem Qp2 a:Qko a=
 bif (decide ((Ev.wr .i64 ((a.length:Int)+1))<(0:Int))) then none else bif (decide (((Ev.wr .i64 ((a.length:Int)+1)).toNat * (1:Nat))≤(140737488355328:Nat))) then (Sy.at' (List.replicate (Ev.wr .i64 ((a.length:Int)+1)).toNat false) 0).bind fun b=>(Qfx (List.set (List.replicate (Ev.wr .i64 ((a.length:Int)+1)).toNat false) (0:Nat) true) a (true)).bind fun c=>(Qdc c (false)).bind fun d=>some (!d) else none:=me 69
theorem QjH a:Qhd a=
 (Qct a a.length 0).bind fun
  |.inl _=> some (-1:Int)
  |.inr b=> some b:=me 74
theorem Qib a b:Qdp a b=
 (Qhe a b).bind fun c=>some (!(decide (c<(0:Int)))):=me 76
theorem Qp3 a:QnZ a=
 some (decide ((6:Int)<(a.2.length:Int))):=me 81
theorem QfO a b c d e f h i j k l m n:QeV a b c d e f h i j k l m n=
 (bif (decide (n<(0:Int))) then some false else some (!(decide ((d.length:Int)<n)))).bind fun o=>some o:=me 83
theorem QhY a b c:Qfx a b c=
 bif c then (QcT a b (false) b.length 0).bind fun ⟨d,e⟩=>Qfx d b e else some a:=me 87
theorem Qez a b c:Qct a b c=
 bif decide (c<b) then (Sy.at' a c).bind fun d=>(Qln d).bind fun e=>bif e then some (.inr c) else Qct a b (Ev.wr .i64 (c+1)) else some (.inl ()):=me 90
theorem QjI a b:Qhe a b=
 (Qcu a b b.length 0).bind fun
  |.inl _=> some (-1:Int)
  |.inr c=> some c:=me 92
theorem Qhn a b c d e f h i j k l m n o p:Qdb a b c d e f h i j k l m n o p=
 bif decide (p<o) then (Sy.at' b p).bind fun q=>(Sy.at' c p).bind fun r=>Qdb a (List.set b p.toNat true) (List.set c p.toNat true) d e f h i j k l m n o (Ev.wr .i64 (p+1)) else some (b,c):=me 96
theorem QhZ a b c d e:QcT a b c d e=
 bif decide (e<d) then (Sy.at' b e).bind fun f=>(Qdr a f.2).bind fun h=>(bif h then (Sy.at' a (Ev.wr .i64 (e+1))).bind fun i=>some (!i) else some false).bind fun i=>bif i then (Sy.at' a (Ev.wr .i64 (e+1))).bind fun j=>QcT (List.set a (Ev.wr .i64 (e+1)).toNat true) b (true) d (Ev.wr .i64 (e+1)) else QcT a b c d (Ev.wr .i64 (e+1)) else some (a,c):=me 101
theorem Qnp a:Qln a=
 (Qk5 a.1).bind fun b=>some (!b):=me 104
theorem QeA a b c d:Qcu a b c d=
 bif decide (d<c) then (Sy.at' b d).bind fun e=>(QmA a e).bind fun f=>bif f then some (.inr d) else Qcu a b c (Ev.wr .i64 (d+1)) else some (.inl ()):=me 106
theorem Qic a b c d e f h i j k l m n:Qdq a b c d e f h i j k l m n=
 (Qhf a b c d e f h i j k l m n).bind fun o=>some (!(decide (o<(0:Int)))):=me 108
theorem Qho a b:Qdc a b=
 (QgI a b).bind fun c=>some (!(decide (c<(0:Int)))):=me 111
theorem Qid a b:Qdr a b=
 (Qhg a b).bind fun c=>some (!(decide (c<(0:Int)))):=me 117
theorem Qoa a b:QmA a b=
 (QhV a b).bind fun c=>some (!c):=me 121
theorem Qlc a b c d e f h i j k l m n:QcU a b c d e f h i j k l m n=
 (Sy.at' k n).bind fun o=>(Qfy a b c d e f h i j k l m o).bind fun ⟨p,q⟩=>bif decide (q=0) then (Qhi o).bind fun r=>(QaN a p c d e f h i j k l m o n r r r.length 0).bind fun
   |.inl s=> some (s,p,c,n,(3:Int))
   |.inr s=> (Qb1 s p c d e f h i j k l m o r r.length 0).bind fun
    | (.inl ⟨t,u,v⟩)=>some (t,u,v,(0:Int),(0:Int))
    | (.inr ⟨t,u,v,w,x⟩)=>some (t,u,v,w,x) else some (a,p,c,n,q):=me 123
theorem QjJ a b c d e f h i j k l m n:Qhf a b c d e f h i j k l m n=
 (Qcv a b c d e f h i j k l m n n.length 0).bind fun
  |.inl _=> some (-1:Int)
  |.inr o=> some o:=me 128
theorem Qjz a b:QgI a b=
 (Qdd a b a.length 0).bind fun
  |.inl c=> some c
  |.inr _=> some (-1:Int):=me 130
theorem QjK a b:Qhg a b=
 (Qcw a b b.length 0).bind fun
  |.inl _=> some (-1:Int)
  |.inr c=> some c:=me 133
theorem Qp4 a b:QhV a b=
 (bif (decide (b<(0:Int))) then some false else some (!(decide ((a.length:Int)<b)))).bind fun c=>some c:=me 135
theorem Qkr a b c d e f h i j k l m n:Qfy a b c d e f h i j k l m n=
 (QpW n).bind fun o=>bif o then (QpX n).bind fun p=>(QbL a b c d e f h i j k l m n p p.length 0).bind fun
   |.inl _=> some (b,(9:Int))
   |.inr _=> (Qe7 n).bind fun q=>(QbM a b c d e f h i j k l m n q q q.length 0).bind fun
    |.inl _=> some (b,(2:Int))
    |.inr _=> (Qnm).bind fun _=>(Sy.at' (((1:Int),(false,(false,(false,(false,(false,(false,(false,false))))))))::(((0:Int),(true,(false,(true,(false,(false,(false,(true,false))))))))::(((2:Int),(true,(false,(true,(false,(false,(false,(true,false))))))))::(((-1:Int),(true,(true,(false,(false,(false,(false,(true,false))))))))::(((1:Int),(true,(false,(false,(false,(false,(false,(true,false))))))))::(((1:Int),(false,(false,(false,(false,(false,(false,(true,false))))))))::(((-1:Int),(true,(false,(false,(true,(false,(false,(true,false))))))))::(((-1:Int),(false,(false,(false,(true,(false,(false,(false,false))))))))::(((-1:Int),(false,(true,(true,(true,(true,(false,(false,false))))))))::(((1:Int),(false,(false,(false,(false,(false,(true,(false,true))))))))::([]:List (QAg)))))))))))) n.1).bind fun r=>bif r.2.2.2.2.1 then bif (decide (n.2.2.2.2.2.1<(0:Int))) then some (b,(2:Int)) else bif (decide (n.2.2.2.2.2.1<(e.length:Int))) then bif (decide (n.1=(2:Int))) then bif (decide (n.2.2.2.2.1<(0:Int))) then some (b,(2:Int)) else bif (decide (n.2.2.2.2.1<(8:Int))) then (QaD a b c d e f h i j k l m n q q q.length 0).bind fun
               |.inl s=> some (s,(8:Int))
               |.inr s=> (QaV a s c d e f h i j k l m n).bind fun t=>bif t then (Qaq a s c d e f h i j k l m n q q.length 0).bind fun
                 |.inl _=> some (s,(11:Int))
                 |.inr _=> some (s,(0:Int)) else some (s,(10:Int)) else some (b,(2:Int)) else (QaD a b c d e f h i j k l m n q q q.length 0).bind fun
              |.inl s=> some (s,(8:Int))
              |.inr s=> (QaV a s c d e f h i j k l m n).bind fun t=>bif t then (Qaq a s c d e f h i j k l m n q q.length 0).bind fun
                |.inl _=> some (s,(11:Int))
                |.inr _=> some (s,(0:Int)) else some (s,(10:Int)) else some (b,(2:Int)) else bif (decide (n.1=(2:Int))) then bif (decide (n.2.2.2.2.1<(0:Int))) then some (b,(2:Int)) else bif (decide (n.2.2.2.2.1<(8:Int))) then (QaD a b c d e f h i j k l m n q q q.length 0).bind fun
              |.inl s=> some (s,(8:Int))
              |.inr s=> (QaV a s c d e f h i j k l m n).bind fun t=>bif t then (Qaq a s c d e f h i j k l m n q q.length 0).bind fun
                |.inl _=> some (s,(11:Int))
                |.inr _=> some (s,(0:Int)) else some (s,(10:Int)) else some (b,(2:Int)) else (QaD a b c d e f h i j k l m n q q q.length 0).bind fun
          |.inl s=> some (s,(8:Int))
          |.inr s=> (QaV a s c d e f h i j k l m n).bind fun t=>bif t then (Qaq a s c d e f h i j k l m n q q.length 0).bind fun
            |.inl _=> some (s,(11:Int))
            |.inr _=> some (s,(0:Int)) else some (s,(10:Int)) else some (b,(3:Int)):=me 140
theorem QeB a b c d e f h i j k l m n o p:Qcv a b c d e f h i j k l m n o p=
 bif decide (p<o) then (Sy.at' n p).bind fun q=>(Qgh a b c d e f h i j k l m q).bind fun r=>bif r then some (.inr p) else Qcv a b c d e f h i j k l m n o (Ev.wr .i64 (p+1)) else some (.inl ()):=me 143
theorem Qc6 a b c d:Qdd a b c d=
 bif decide (d<c) then (Sy.at' a d).bind fun e=>bif (b==e) then some (.inl d) else Qdd a b c (Ev.wr .i64 (d+1)) else some (.inr ()):=me 145
theorem QeC a b c d:Qcw a b c d=
 bif decide (d<c) then (Sy.at' b d).bind fun e=>(Qlo a e).bind fun f=>bif f then some (.inr d) else Qcw a b c (Ev.wr .i64 (d+1)) else some (.inl ()):=me 146
theorem QsL a:Qf2 a=
 bif (decide (a.1=(1:Int))) then some (a.2.2.2.2.2.2.2.2.2::([]:List (Int))) else bif (decide (a.1=(2:Int))) then some (a.2.2.2.2.2.2.2.2.2::([]:List (Int))) else bif (decide (a.1=(3:Int))) then some (a.2.2.2.2.2.2.2.2.2::([]:List (Int))) else bif (decide (a.1=(4:Int))) then some (a.2.2.2.2.2.2.2.2.2::([]:List (Int))) else bif (decide (a.1=(5:Int))) then some (a.2.2.2.2.2.2.2.2.2::([]:List (Int))) else bif (decide (a.1=(6:Int))) then some (a.2.2.2.2.2.2.2.2.2::([]:List (Int))) else bif (decide (a.1=(9:Int))) then (Qfz ([]:List (Int)) a 0).bind fun b=>some b else some ([]:List (Int)):=me 149
theorem Qt8 a:QpW a=
 (Qnl a.1).bind fun ⟨b,c⟩=>(bif c then bif (decide (b.1<(0:Int))) then some (.inl false) else some (.inl (!(decide ((a.2.2.1.length:Int)=b.1)))) else some (.inr ()):Option (((Bool))⊕(Unit))).bind fun
  |.inl d=> bif d then some false else (bif b.2.1 then some true else some (decide (a.2.1=(0:Int)))).bind fun e=>(bif e then bif b.2.2.1 then some (.inl true) else some (.inl (decide (a.2.2.2.1=(0:Int)))) else some (.inr ()):Option (((Bool))⊕(Unit))).bind fun
    |.inl f=> (bif f then bif b.2.2.2.1 then some (.inl true) else some (.inl (decide (a.2.2.2.2.1=(0:Int)))) else some (.inr ()):Option (((Bool))⊕(Unit))).bind fun
     |.inl h=> (bif h then bif b.2.2.2.2.1 then some (.inl true) else some (.inl (decide (a.2.2.2.2.2.1=(0:Int)))) else some (.inr ()):Option (((Bool))⊕(Unit))).bind fun
      |.inl i=> (bif i then bif b.2.2.2.2.2.1 then some (.inl true) else some (.inl (decide ((a.2.2.2.2.2.2.1.length:Int)=(0:Int)))) else some (.inr ()):Option (((Bool))⊕(Unit))).bind fun
       |.inl j=> (bif j then bif b.2.2.2.2.2.2.1 then some (.inl true) else some (.inl (!a.2.2.2.2.2.2.2.1)) else some (.inr ()):Option (((Bool))⊕(Unit))).bind fun
        |.inl k=> (bif k then bif b.2.2.2.2.2.2.2.1 then some (.inl true) else some (.inl (decide (a.2.2.2.2.2.2.2.2.2=(0:Int)))) else some (.inr ()):Option (((Bool))⊕(Unit))).bind fun
         |.inl l=> (bif l then bif b.2.2.2.2.2.2.2.2 then some (.inl true) else some (.inl (decide ((a.2.2.2.2.2.2.2.2.1.length:Int)=(0:Int)))) else some (.inr ()):Option (((Bool))⊕(Unit))).bind fun
          |.inl m=> some m
          |.inr _=> some false
         |.inr _=> some false
        |.inr _=> some false
       |.inr _=> some false
      |.inr _=> some false
     |.inr _=> some false
    |.inr _=> some false
  |.inr _=> some false:=me 153
theorem QiE a b c d e f h i j k l m n:Qgh a b c d e f h i j k l m n=
 (QeV a b c d e f h i j k l m n.1).bind fun o=>some (!o):=me 155
theorem Qnq a b:Qlo a b=
 (Qds a b.2).bind fun c=>some (!c):=me 157
theorem QqH a:Qhh a=
 bif (decide (a.1=(1:Int))) then some (a.2.1::([]:List (Int))) else bif (decide (a.1=(2:Int))) then some (a.2.1::([]:List (Int))) else bif (decide (a.1=(3:Int))) then some (a.2.1::([]:List (Int))) else bif (decide (a.1=(4:Int))) then some (a.2.1::([]:List (Int))) else bif (decide (a.1=(6:Int))) then some (a.2.1::([]:List (Int))) else bif (decide (a.1=(9:Int))) then (Qeq ([]:List (Int)) a 0).bind fun b=>some b else some ([]:List (Int)):=me 158
theorem Qt9 a:QpX a=
 (Qnl a.1).bind fun ⟨b,c⟩=>(bif c then some (decide (b.1=(0:Int))) else some true).bind fun d=>bif d then some ([]:List (Int)) else bif b.2.2.2.2.2.1 then bif (decide ((a.2.2.1.length * (8:Nat))≤(35184372088832:Nat))) then bif (decide (((a.2.2.1.length+a.2.2.2.2.2.2.1.length) * (8:Nat))≤(35184372088832:Nat))) then (Qe8 ([]:List (Int)) (a.2.2.1++a.2.2.2.2.2.2.1) ((a.2.2.1++a.2.2.2.2.2.2.1).length:Int) 0).bind fun e=>some e else none else none else bif (decide ((a.2.2.1.length * (8:Nat))≤(35184372088832:Nat))) then some a.2.2.1 else none:=me 162
theorem QsM a:Qe7 a=
 (Qnl a.1).bind fun ⟨b,c⟩=>(bif b.2.1 then some (a.2.1::([]:List (Int))) else some ([]:List (Int)):Option (((List (Int))))).bind fun d=>(bif b.2.2.2.2.2.2.2.2 then (QfA d a.2.2.2.2.2.2.2.2.1 a.2.2.2.2.2.2.2.2.1.length 0).bind fun e=>some e else some d:Option (((List (Int))))).bind fun e=>some e:=me 166
theorem QjA a b c:Qfz a b c=
 bif (decide (c<(b.2.2.2.2.2.2.2.2.1.length:Int))) then (Sy.at' b.2.2.2.2.2.2.2.2.1 c).bind fun d=>bif (decide (((a.length+(1:Nat)) * (8:Nat))≤(35184372088832:Nat))) then Qfz (a++(d.2::([]:List (Int)))) b (Ev.wr .i64 (c+1)) else none else some a:=me 167
theorem QxT a:Qnl a=
 (bif (decide (a<(0:Int))) then some true else some (!(decide (a<(10:Int))))).bind fun b=>bif b then some (((0:Int),(false,(false,(false,(false,(false,(false,(false,false)))))))),false) else (Qnm).bind fun _=>(Sy.at' (((1:Int),(false,(false,(false,(false,(false,(false,(false,false))))))))::(((0:Int),(true,(false,(true,(false,(false,(false,(true,false))))))))::(((2:Int),(true,(false,(true,(false,(false,(false,(true,false))))))))::(((-1:Int),(true,(true,(false,(false,(false,(false,(true,false))))))))::(((1:Int),(true,(false,(false,(false,(false,(false,(true,false))))))))::(((1:Int),(false,(false,(false,(false,(false,(false,(true,false))))))))::(((-1:Int),(true,(false,(false,(true,(false,(false,(true,false))))))))::(((-1:Int),(false,(false,(false,(true,(false,(false,(false,false))))))))::(((-1:Int),(false,(true,(true,(true,(true,(false,(false,false))))))))::(((1:Int),(false,(false,(false,(false,(false,(true,(false,true))))))))::([]:List (QAg)))))))))))) a).bind fun c=>some (c,true):=me 170
theorem Qie a b:Qds a b=
 (Qhj a b).bind fun c=>some (!(decide (c<(0:Int)))):=me 172
theorem Qe9 a b c d e f h i j k l m n o p q:QbL a b c d e f h i j k l m n o p q=
 bif decide (q<p) then (Sy.at' o q).bind fun r=>(bif (decide (r<(0:Int))) then some true else some (!(decide (r<(c.length:Int))))).bind fun s=>(bif s then some true else (Sy.at' c r).bind fun t=>some (!t)).bind fun t=>bif t then some (.inl ()) else QbL a b c d e f h i j k l m n o p (Ev.wr .i64 (q+1)) else some (.inr ()):=me 175
theorem Qua a:Qhi a=
 (Qnl a.1).bind fun ⟨b,c⟩=>(bif b.2.2.2.2.2.2.2.1 then some (a.2.2.2.2.2.2.2.2.2::([]:List (Int))) else some ([]:List (Int)):Option (((List (Int))))).bind fun d=>(bif b.2.2.2.2.2.2.2.2 then (Qgi d a.2.2.2.2.2.2.2.2.1 a.2.2.2.2.2.2.2.2.1.length 0).bind fun e=>some e else some d:Option (((List (Int))))).bind fun e=>some e:=me 177
theorem QiF a b c:Qeq a b c=
 bif (decide (c<(b.2.2.2.2.2.2.2.2.1.length:Int))) then (Sy.at' b.2.2.2.2.2.2.2.2.1 c).bind fun d=>bif (decide (((a.length+d.1.length) * (8:Nat))≤(35184372088832:Nat))) then Qeq (a++d.1) b (Ev.wr .i64 (c+1)) else none else some a:=me 179
theorem Qks a b c d:Qe8 a b c d=
 bif decide (d<c) then (Sy.at' b d).bind fun e=>bif (decide (e<(0:Int))) then Qe8 a b c (Ev.wr .i64 (d+1)) else bif (decide (((a.length+(1:Nat)) * (8:Nat))≤(35184372088832:Nat))) then Qe8 (a++(e::([]:List (Int)))) b c (Ev.wr .i64 (d+1)) else none else some a:=me 182
theorem QjB a b c d:QfA a b c d=
 bif decide (d<c) then (Sy.at' b d).bind fun e=>bif (decide (((a.length+e.1.length) * (8:Nat))≤(35184372088832:Nat))) then QfA (a++e.1) b c (Ev.wr .i64 (d+1)) else none else some a:=me 186
theorem QmB:Qnm=
 some ():=me 187
theorem QjL a b:Qhj a b=
 (Qcx a b b.length 0).bind fun
  |.inl _=> some (-1:Int)
  |.inr c=> some c:=me 189
theorem Qif a b c d e f h i j k l m n:Qdt a b c d e f h i j k l m n=
 (Qhk a b c d e f h i j k l m n).bind fun o=>some (!(decide (o<(0:Int)))):=me 190
theorem Qkt a b c d:Qgi a b c d=
 bif decide (d<c) then (Sy.at' b d).bind fun e=>bif (decide (((a.length+(1:Nat)) * (8:Nat))≤(35184372088832:Nat))) then Qgi (a++(e.2::([]:List (Int)))) b c (Ev.wr .i64 (d+1)) else none else some a:=me 193
theorem QeD a b c d:Qcx a b c d=
 bif decide (d<c) then (Sy.at' b d).bind fun e=>(Qjv a e).bind fun f=>bif f then some (.inr d) else Qcx a b c (Ev.wr .i64 (d+1)) else some (.inl ()):=me 197
theorem Qfa a b c d e f h i j k l m n o p q r:QbM a b c d e f h i j k l m n o p q r=
 bif decide (r<q) then (Sy.at' p r).bind fun s=>(bif (decide (s<(0:Int))) then some true else some (!(decide (s<(j.length:Int))))).bind fun t=>bif t then some (.inl ()) else QbM a b c d e f h i j k l m n o p q (Ev.wr .i64 (r+1)) else some (.inr ()):=me 201
theorem QjM a b c d e f h i j k l m n:Qhk a b c d e f h i j k l m n=
 (Qcy a b c d e f h i j k l m n n.length 0).bind fun
  |.inl _=> some (-1:Int)
  |.inr o=> some o:=me 203
theorem QlP a b:Qjv a b=
 (Sy.at' a b).bind fun c=>some (!c):=me 206
theorem QfE a b c d e f h i j k l m n o p q r s:QaN a b c d e f h i j k l m n o p q r s=
 bif decide (s<r) then (Sy.at' q s).bind fun t=>(bif (decide (t<(0:Int))) then some true else some (!(decide (t<(k.length:Int))))).bind fun u=>(bif u then some true else (Sy.at' a t).bind fun v=>some v).bind fun v=>bif v then some (.inl a) else (Sy.at' a t).bind fun w=>QaN (List.set a t.toNat true) b c d e f h i j k l m n o p q r (Ev.wr .i64 (s+1)) else some (.inr a):=me 208
theorem QeE a b c d e f h i j k l m n o p:Qcy a b c d e f h i j k l m n o p=
 bif decide (p<o) then (Sy.at' n p).bind fun q=>(Qgj a b c d e f h i j k l m q).bind fun r=>bif r then some (.inr p) else Qcy a b c d e f h i j k l m n o (Ev.wr .i64 (p+1)) else some (.inl ()):=me 210
theorem QcX a b c d e f h i j k l m n o p q r:QaD a b c d e f h i j k l m n o p q r=
 bif decide (r<q) then (Sy.at' p r).bind fun s=>(Sy.at' b s).bind fun t=>bif t then some (.inl b) else QaD a (List.set b s.toNat true) c d e f h i j k l m n o p q (Ev.wr .i64 (r+1)) else some (.inr b):=me 214
theorem QiG a b c d e f h i j k l m n:Qgj a b c d e f h i j k l m n=
 bif n.2 then (QgP d n.1).bind fun o=>some o else some false:=me 216
theorem Qc7 a b c d e f h i j k l m n o p q:Qb1 a b c d e f h i j k l m n o p q=
 bif decide (q<p) then (Sy.at' o q).bind fun r=>(Qe7 n).bind fun s=>(bif (decide (n.1=(9:Int))) then (Sy.at' n.2.2.2.2.2.2.2.2.1 q).bind fun t=>some t.1 else some s:Option (((List (Int))))).bind fun t=>(Qb2 a b c d e f h i j k l m n r t o p q t t.length 0).bind fun u=>(QcU a b u d e f h i j k l m r).bind fun ⟨v,w,x,y,z⟩=>bif decide (z=0) then (Qb4 v w x d e f h i j k l m n o p q t t.length 0).bind fun A=>Qb1 v w A d e f h i j k l m n o p (Ev.wr .i64 (q+1)) else some (.inr (v,w,x,y,z)) else some (.inl (a,b,c)):=me 218
theorem QsN a b:QgP a b=
 ((QhV a b).bind fun c=>bif c then (Qnn a b).bind fun d=>(Qdu d).bind fun e=>some (!e) else some false).bind fun c=>some c:=me 222
theorem Qku a b c d e f h i j k l m n:QaV a b c d e f h i j k l m n=
 bif (decide (n.1=(0:Int))) then (Sy.at' n.2.2.1 0).bind fun o=>(Qav a b c d e f h i j k l m o).bind fun p=>some (decide (p=i)) else bif (decide (n.1=(1:Int))) then (Qav a b c d e f h i j k l m n.2.1).bind fun o=>some (decide (o=0)) else bif (decide (n.1=(2:Int))) then (bif (decide (n.2.2.2.2.1<(5:Int))) then some (0:Int) else some (1:Int)).bind fun o=>((Qdy a b c ((0:Int)::((0:Int)::([]:List (Int)))) d e f h i j k l m n.2.2.1 (-1:Int)).bind fun p=>bif p then (Qav a b c d e f h i j k l m n.2.1).bind fun q=>some (decide (q=o)) else some false).bind fun p=>some p else bif (decide (n.1=(3:Int))) then (Qav a b c d e f h i j k l m n.2.1).bind fun o=>(Qc2 a b c d e f h i j k l m o n.2.2.2.1).bind fun
   |.inl _=> some false
   |.inr p=> (Qb5 a b c d e f h i j k l m n.2.2.1 p (-1:Int)).bind fun q=>some q else bif (decide (n.1=(4:Int))) then (Sy.at' n.2.2.1 0).bind fun o=>(Qav a b c d e f h i j k l m n.2.1).bind fun p=>(Qav a b c d e f h i j k l m o).bind fun q=>bif decide (p=q) then (Qb3 a b c d e f h i j k l m n.2.1).bind fun r=>some (!r) else some false else bif (decide (n.1=(5:Int))) then (Sy.at' n.2.2.1 0).bind fun o=>(Qb3 a b c d e f h i j k l m o).bind fun p=>some (!p) else bif (decide (n.1=(6:Int))) then (QcV a b c d e f h i j k l m n.2.2.2.2.2.1 n.2.2.1).bind fun o=>bif o then (Sy.at' e n.2.2.2.2.2.1).bind fun p=>(Qav a b c d e f h i j k l m n.2.1).bind fun q=>some (decide (q=p.2.2.1)) else some false else bif (decide (n.1=(7:Int))) then (QcV a b c d e f h i j k l m n.2.2.2.2.2.1 n.2.2.1).bind fun o=>bif o then (Sy.at' e n.2.2.2.2.2.1).bind fun p=>some (decide (i=p.2.2.1)) else some false else bif (decide (n.1=(8:Int))) then (Qc2 a b c d e f h i j k l m i n.2.2.2.1).bind fun
             |.inl _=> some false
             |.inr o=> (bif (decide (n.2.2.2.2.1<(0:Int))) then some true else some (!(decide (n.2.2.2.2.1<(o.length:Int))))).bind fun p=>(bif p then some true else (Qb5 a b c d e f h i j k l m n.2.2.1 o n.2.2.2.2.1).bind fun q=>some (!q)).bind fun q=>bif q then some false else (QcV a b c d e f h i j k l m n.2.2.2.2.2.1 n.2.2.2.2.2.2.1).bind fun r=>bif r then (Sy.at' e n.2.2.2.2.2.1).bind fun s=>(Sy.at' o n.2.2.2.2.1).bind fun t=>some (decide (s.2.2.1=t)) else some false else (Sy.at' n.2.2.1 0).bind fun o=>(Qav a b c d e f h i j k l m o).bind fun p=>bif (decide (p<(1:Int))) then some false else (Sy.at' d (Ev.wr .i64 (p - 1))).bind fun q=>bif (decide ((n.2.2.2.2.2.2.2.2.1.length:Int)=(q.2.length:Int))) then bif n.2.2.2.2.2.2.2.1 then (Qb3 a b c d e f h i j k l m o).bind fun r=>bif r then some false else (Qa3 a b c d e f h i j k l m p n.2.2.2.2.2.2.2.2.1 n.2.2.2.2.2.2.2.2.1.length 0).bind fun
               |.inl _=> some false
               |.inr _=> some true else (Qa3 a b c d e f h i j k l m p n.2.2.2.2.2.2.2.2.1 n.2.2.2.2.2.2.2.2.1.length 0).bind fun
                   |.inl _=> some false
                   |.inr _=> some true else some false:=me 223
theorem QfF a b c d e f h i j k l m n o p q r s t u v:Qb2 a b c d e f h i j k l m n o p q r s t u v=
 bif decide (v<u) then (Sy.at' t v).bind fun w=>(Sy.at' c w).bind fun x=>Qb2 a b (List.set c w.toNat true) d e f h i j k l m n o p q r s t u (Ev.wr .i64 (v+1)) else some c:=me 226
theorem QsO a b:Qnn a b=
 (bif (decide (b<(1:Int))) then some true else some (decide ((a.length:Int)<b))).bind fun c=>bif c then some ([]:List (GCon)) else (Sy.at' a (Ev.wr .i64 (b - 1))).bind fun d=>some d.2:=me 229
theorem Qig a:Qdu a=
 (Qhl a).bind fun b=>some (!(decide (b<(0:Int)))):=me 231
theorem Qji a b c d e f h i j k l m n:Qav a b c d e f h i j k l m n=
 (Sy.at' j n).bind fun o=>some o.1:=me 232
theorem Qkv a b c d e f h i j k l m n o p:Qdy a b c d e f h i j k l m n o p=
 bif (decide ((o.length:Int)=(d.length:Int))) then (QbN a b c d e f h i j k l m n p o o.length 0).bind fun
   |.inl _=> some false
   |.inr _=> some true else some false:=me 233
theorem Qjj a b c d e f h i j k l m n:Qb3 a b c d e f h i j k l m n=
 (Qav a b c d e f h i j k l m n).bind fun o=>(QgP d o).bind fun p=>some p:=me 234
theorem Qld a b c d e f h i j k l m n o:QcV a b c d e f h i j k l m n o=
 (QeW a b c d e f h i j k l m n).bind fun ⟨p,q⟩=>(bif q then (Qdy a b c p d e f h i j k l m o (-1:Int)).bind fun r=>some r else some false).bind fun r=>some r:=me 235
theorem QjN a b c d e f h i j k l m n o:Qc2 a b c d e f h i j k l m n o=
 (bif (decide (n<(1:Int))) then some true else some (decide (o<(0:Int)))).bind fun p=>(bif p then some true else (Sy.at' d (Ev.wr .i64 (n - 1))).bind fun q=>some (!(decide (o<(q.2.length:Int))))).bind fun q=>bif q then some (.inl ()) else (Sy.at' d (Ev.wr .i64 (n - 1))).bind fun r=>(Sy.at' r.2 o).bind fun s=>some (.inr s.2):=me 236
theorem QfG a b c d e f h i j k l m n o p q r s t:Qb4 a b c d e f h i j k l m n o p q r s t=
 bif decide (t<s) then (Sy.at' r t).bind fun u=>(Sy.at' c u).bind fun v=>Qb4 a b (List.set c u.toNat false) d e f h i j k l m n o p q r s (Ev.wr .i64 (t+1)) else some c:=me 237
theorem QjO a:Qhl a=
 (Qcz a a.length 0).bind fun
  |.inl _=> some (-1:Int)
  |.inr b=> some b:=me 239
theorem Qfb a b c d e f h i j k l m n o p q r:QbN a b c d e f h i j k l m n o p q r=
 bif decide (r<q) then (Sy.at' p r).bind fun s=>bif decide (r=o) then bif (decide (s=(-1:Int))) then QbN a b c d e f h i j k l m n o p q (Ev.wr .i64 (r+1)) else some (.inl ()) else bif (decide (s<(0:Int))) then some (.inl ()) else (Sy.at' k s).bind fun t=>(Sy.at' d r).bind fun u=>bif decide (t.1=u) then QbN a b c d e f h i j k l m n o p q (Ev.wr .i64 (r+1)) else some (.inl ()) else some (.inr ()):=me 240
theorem QjP a b c d e f h i j k l m n:QeW a b c d e f h i j k l m n=
 (Sy.at' e n).bind fun o=>(bif (decide (o.2.1<(0:Int))) then some true else some (decide ((o.2.2.2.1.length:Int)<o.2.1))).bind fun p=>bif p then some (([]:List (Int)),false) else bif (decide (o.2.1<(0:Int))) then none else bif (decide ((o.2.2.2.1.length:Int)<o.2.1)) then none else (Qbw a b c ([]:List (Int)) d e f h i j k l m (List.take o.2.1.toNat o.2.2.2.1) ((List.take o.2.1.toNat o.2.2.2.1).length:Int) 0).bind fun q=>some (q,true):=me 241
theorem Qjk a b c d e f h i j k l m n o p:Qb5 a b c d e f h i j k l m n o p=
 bif (decide ((n.length:Int)=(o.length:Int))) then (Qbo a b c d e f h i j k l m o p n n.length 0).bind fun
   |.inl _=> some false
   |.inr _=> some true else some false:=me 242
theorem Qfc a b c d e f h i j k l m n o p q:Qa3 a b c d e f h i j k l m n o p q=
 bif decide (q<p) then (Sy.at' o q).bind fun r=>(Sy.at' d (Ev.wr .i64 (n - 1))).bind fun s=>(Sy.at' s.2 q).bind fun t=>(Qb5 a b c d e f h i j k l m r.1 t.2 (-1:Int)).bind fun u=>bif u then Qa3 a b c d e f h i j k l m n o p (Ev.wr .i64 (q+1)) else some (.inl ()) else some (.inr ()):=me 243
theorem QeF a b c:Qcz a b c=
 bif decide (c<b) then (Sy.at' a c).bind fun d=>(Qn0 d).bind fun e=>bif e then some (.inr c) else Qcz a b (Ev.wr .i64 (c+1)) else some (.inl ()):=me 244
theorem QeG a b c d e f h i j k l m n o p q:Qbw a b c d e f h i j k l m n o p q=
 bif decide (q<p) then (Sy.at' o q).bind fun r=>bif (decide (((d.length+(1:Nat)) * (8:Nat))≤(35184372088832:Nat))) then Qbw a b c (d++(r.1::([]:List (Int)))) e f h i j k l m n o p (Ev.wr .i64 (q+1)) else none else some d:=me 245
theorem Qfd a b c d e f h i j k l m n o p q:Qaq a b c d e f h i j k l m n o p q=
 bif decide (q<p) then (Sy.at' o q).bind fun r=>(Sy.at' j r).bind fun s=>bif (decide (n.1=(9:Int))) then bif n.2.2.2.2.2.2.2.1 then bif (!s.2) then Qaq a b c d e f h i j k l m n o p (Ev.wr .i64 (q+1)) else some (.inl ()) else (QgP d s.1).bind fun t=>bif (s.2==(!t)) then Qaq a b c d e f h i j k l m n o p (Ev.wr .i64 (q+1)) else some (.inl ()) else bif (!s.2) then Qaq a b c d e f h i j k l m n o p (Ev.wr .i64 (q+1)) else some (.inl ()) else some (.inr ()):=me 246
theorem Qd7 a b c d e f h i j k l m n o p q r:Qbo a b c d e f h i j k l m n o p q r=
 bif decide (r<q) then (Sy.at' p r).bind fun s=>bif decide (r=o) then bif (decide (s=(-1:Int))) then Qbo a b c d e f h i j k l m n o p q (Ev.wr .i64 (r+1)) else some (.inl ()) else bif (decide (s<(0:Int))) then some (.inl ()) else (Sy.at' j s).bind fun t=>(Sy.at' n r).bind fun u=>bif decide (t.1=u) then Qbo a b c d e f h i j k l m n o p q (Ev.wr .i64 (r+1)) else some (.inl ()) else some (.inr ()):=me 247
theorem Qp5 a:Qn0 a=
 some (decide ((0:Int)<(a.2.length:Int))):=me 248
theorem Qub a:QpY a=
 (Qgk a 0).bind fun
  |.inl _=> some false
  |.inr _=> (Qgl a 0).bind fun
   |.inl _=> some false
   |.inr _=> (bif (decide ((5:Int)<(a.2.length:Int))) then some false else some (!(decide ((10:Int)<(a.1.length:Int))))).bind fun b=>some b:=me 256
theorem QmC a b:Qhm a b=
 (Qk4 a).bind fun c=>bif decide (c=0) then (bif (decide (b<(0:Int))) then some true else some (!(decide (b<(a.2.length:Int))))).bind fun d=>bif d then some ((0:Int),(2:Int)) else (Qf7 a b).bind fun ⟨e,f,h,i,j,k,l,m,n,o,p⟩=>(QeX e f h i j k l m n o p (true)).bind fun ⟨q,r⟩=>some (q,r) else some ((0:Int),(3:Int)):=me 257
theorem Qkw a b:Qgk a b=
 bif (decide (b<(a.1.length:Int))) then ((Sy.at' a.1 b).bind fun c=>bif (decide ((16:Int)<(c.2.length:Int))) then some true else some (decide ((60:Int)<(c.1.length:Int)))).bind fun c=>bif c then some (.inl ()) else Qgk a (Ev.wr .i64 (b+1)) else some (.inr ()):=me 258
theorem Qnr a b:Qf7 a b=
 (Sy.at' a.2 b).bind fun c=>(QcW ([]:List (Bool)) ([]:List (Int)) a a.1 a.2 c.1 c.2.1 c.2.2.1 c.2.2.2.1 c.2.2.2.2.1 c.2.2.2.2.2.1 c.2.2.2.2.2.2 c.2.2.2.1 c.2.2.2.1.length 0).bind fun ⟨d,e⟩=>bif c.2.2.2.2.2.2 then some (d,e,a.1,a.2,c.1,c.2.1,c.2.2.1,c.2.2.2.1,c.2.2.2.2.1,c.2.2.2.2.2.1,c.2.2.2.2.2.2) else (QcG d e a.1 a.2 c.1 c.2.1 c.2.2.1 c.2.2.2.1 c.2.2.2.2.1 c.2.2.2.2.2.1 c.2.2.2.2.2.2 c.2.2.2.2.2.1).bind fun f=>some (d,f,a.1,a.2,c.1,c.2.1,c.2.2.1,c.2.2.2.1,c.2.2.2.2.1,c.2.2.2.2.2.1,c.2.2.2.2.2.2):=me 260
theorem Qkx a b:Qgl a b=
 bif (decide (b<(a.2.length:Int))) then (Sy.at' a.2 b).bind fun c=>(bif (decide ((60:Int)<(c.2.2.2.2.1.length:Int))) then some true else some (decide ((60:Int)<(c.2.2.2.1.length:Int)))).bind fun d=>(bif d then some true else some (decide ((70:Int)<(c.1.length:Int)))).bind fun e=>bif e then some (.inl ()) else (Qgm a c b 0).bind fun
      |.inl _=> some (.inl ())
      |.inr _=> Qgl a (Ev.wr .i64 (b+1)) else some (.inr ()):=me 262
theorem QqI a b c:QpZ a b c=
 (Sy.at' a.2 b).bind fun d=>bif d.2.2.2.2.2.2 then some ((0:Int),(0:Int)) else (Qd4 a d).bind fun e=>(Qkp d).bind fun f=>(QeY a d f).bind fun h=>(QeP (a,(d,(e,(c,((0:Int),(0:Int)))))) d.2.2.2.2.2.1 h).bind fun i=>some (i.2.2.2.2.1,i.2.2.2.2.2):=me 263
theorem Qgx a b c d e f h i j k l m n o p:QcW a b c d e f h i j k l m n o p=
 bif decide (p<o) then (Sy.at' n p).bind fun q=>(QgP c.1 q.1).bind fun r=>bif (decide (((a.length+(1:Nat)) * (1:Nat))≤(35184372088832:Nat))) then (bif r then some (-1:Int) else some p).bind fun s=>bif (decide (((b.length+(1:Nat)) * (8:Nat))≤(35184372088832:Nat))) then QcW (a++(r::([]:List (Bool)))) (b++(s::([]:List (Int)))) c d e f h i j k l m n o (Ev.wr .i64 (p+1)) else none else none else some (a,b):=me 264
theorem Qky a b c d:Qgm a b c d=
 bif (decide (d<(b.2.2.2.2.1.length:Int))) then (Sy.at' b.2.2.2.2.1 d).bind fun e=>(bif (decide ((10:Int)<(e.2.2.1.length:Int))) then some true else some (decide ((10:Int)<(e.2.2.2.2.2.2.1.length:Int)))).bind fun f=>(bif f then some true else some (decide ((16:Int)<(e.2.2.2.2.2.2.2.2.1.length:Int)))).bind fun h=>bif h then some (.inl ()) else Qgm a b c (Ev.wr .i64 (d+1)) else some (.inr ()):=me 267
theorem Qob a b:Qd4 a b=
 (Qde ([]:List (Int)) a b 0).bind fun c=>(bif b.2.2.2.2.2.2 then some (.inl ()) else (Qf3 c a b b.2.2.2.2.2.1).bind fun d=>some (.inr d):Option ((Unit)⊕((List (Int))))).bind fun
  |.inl _=> some c
  |.inr d=> bif decide (c.length≤d.length) then some (List.take c.length d) else none:=me 268
theorem QlQ a b c d e f h i j k l m:QcG a b c d e f h i j k l m=
 (Sy.at' j m).bind fun n=>((bif (decide (n.1=(9:Int))) then some (!n.2.2.2.2.2.2.2.1) else some false).bind fun o=>bif o then (Qe7 n).bind fun p=>(QbF a b c d e f h i j k l n p p.length 0).bind fun q=>some q else some b:Option (((List (Int))))).bind fun o=>(Qhi n).bind fun p=>(Qci a o c d e f h i j k l p p.length 0).bind fun q=>some q:=me 269
theorem Qp6 a:Qkp a=
 (QdJ ([]:List (Int)) a 0).bind fun b=>some b:=me 270
theorem Qhp a b c d:Qde a b c d=
 bif (decide (d<(c.2.2.2.1.length:Int))) then ((QgQ b c d).bind fun e=>bif e then some (-1:Int) else some d).bind fun e=>bif (decide (((a.length+(1:Nat)) * (8:Nat))≤(35184372088832:Nat))) then Qde (a++(e::([]:List (Int)))) b c (Ev.wr .i64 (d+1)) else none else some a:=me 273
theorem QjQ a b c d e f h i j k l m:QeX a b c d e f h i j k l m=
 bif l then some ((0:Int),(0:Int)) else (QeZ a b c d e f h i j k l).bind fun
   | (.inl ⟨n,o⟩)=>(QcL n o a b c d e f h i j k l m k).bind fun ⟨p,q⟩=>some (p,q)
   | (.inr ⟨n,o,p⟩)=>(Qcb n o a b c d e f h i j k l m k p).bind fun ⟨q,r⟩=>some (q,r):=me 274
theorem QqJ a b c:QeY a b c=
 (Qdk ([]:List (Int)) a b c 0).bind fun d=>some d:=me 275
theorem QfP a b c d e f h i j k l m n o p:QbF a b c d e f h i j k l m n o p=
 bif decide (p<o) then (Sy.at' n p).bind fun q=>(Sy.at' a q).bind fun r=>bif r then QbF a b c d e f h i j k l m n o (Ev.wr .i64 (p+1)) else (Sy.at' m.2.2.1 0).bind fun s=>(Sy.at' b s).bind fun t=>(Sy.at' b q).bind fun u=>QbF a (List.set b q.toNat t) c d e f h i j k l m n o (Ev.wr .i64 (p+1)) else some b:=me 276
theorem QfQ a b c d e f h i j k l m n o:Qci a b c d e f h i j k l m n o=
 bif decide (o<n) then (Sy.at' m o).bind fun p=>(QcG a b c d e f h i j k l p).bind fun q=>Qci a q c d e f h i j k l m n (Ev.wr .i64 (o+1)) else some b:=me 277
theorem Qh0 a b c:QdJ a b c=
 bif decide (c<b.2.1) then bif (decide (((a.length+(1:Nat)) * (8:Nat))≤(35184372088832:Nat))) then QdJ (a++(c::([]:List (Int)))) b (Ev.wr .i64 (c+1)) else none else some a:=me 278
theorem QsP a b c:QgQ a b c=
 (Sy.at' b.2.2.2.1 c).bind fun d=>(Qno a.1 d.1).bind fun e=>some e:=me 279
theorem QlR a b c:QeP a b c=
 bif (decide (a.2.2.2.2.2=(0:Int))) then (Sy.at' a.2.1.2.2.2.2.1 b).bind fun d=>(Qgs a d c).bind fun e=>bif decide (e=0) then (QcO a.1 a.2.1 d).bind fun f=>bif (decide ((f.length * (8:Nat))≤(35184372088832:Nat))) then bif (decide (d.1=(9:Int))) then (QbG f a c d.2.2.2.2.2.2.2.2.1 d.2.2.2.2.2.2.2.2.1.length 0).bind fun h=>some h else bif (decide ((c.length * (8:Nat))≤(35184372088832:Nat))) then (Qhh d).bind fun h=>(QeY a.1 a.2.1 h).bind fun i=>bif (decide (((c.length+i.length) * (8:Nat))≤(35184372088832:Nat))) then (Qf2 d).bind fun j=>(QbH f (c++i) a j j.length 0).bind fun k=>some k else none else none else none else some (a.1,(a.2.1,(a.2.2.1,(a.2.2.2.1,(b,e))))) else some a:=me 280
theorem QqK a b c d:Qf3 a b c d=
 (Sy.at' c.2.2.2.2.1 d).bind fun e=>((bif (decide (e.1=(9:Int))) then some (!e.2.2.2.2.2.2.2.1) else some false).bind fun f=>bif f then (Qer a b c e e.2.2.2.2.2.2.2.2.1 e.2.2.2.2.2.2.2.2.1.length 0).bind fun h=>some h else some a:Option (((List (Int))))).bind fun f=>(Qf2 e).bind fun h=>(Qh9 f b c h h.length 0).bind fun i=>some i:=me 281
theorem QjR a b c d e f h i j k l:QeZ a b c d e f h i j k l=
 bif (decide ((i.length:Int)<(0:Int))) then none else bif (decide (((i.length:Int).toNat * (1:Nat))≤(140737488355328:Nat))) then (QfN a b ([]:List (Bool)) ([]:List (Bool)) (List.replicate (i.length:Int).toNat false) (List.replicate (i.length:Int).toNat false) c d e f h i j k l f 0).bind fun
      |.inl _=> some (.inl ((List.replicate (i.length:Int).toNat false),(List.replicate (i.length:Int).toNat false)))
      | (.inr ⟨m,n⟩)=>some (.inr ((List.replicate (i.length:Int).toNat false),m,n)) else none:=me 282
theorem QiH a b c d e:Qdk a b c d e=
 bif (decide (e<(d.length:Int))) then (Sy.at' d e).bind fun f=>(Sy.at' c.2.2.2.1 f).bind fun h=>bif h.2 then Qdk a b c d (Ev.wr .i64 (e+1)) else (QgQ b c f).bind fun i=>bif i then Qdk a b c d (Ev.wr .i64 (e+1)) else bif (decide (((a.length+(1:Nat)) * (8:Nat))≤(35184372088832:Nat))) then Qdk (a++(f::([]:List (Int)))) b c d (Ev.wr .i64 (e+1)) else none else some a:=me 283
theorem QsQ a b:Qno a b=
 bif decide (b=0) then some true else (Sy.at' a (Ev.wr .i64 (b - 1))).bind fun c=>(QgJ c.2 0).bind fun
   |.inl _=> some false
   |.inr _=> some true:=me 284
theorem QlS a b c:Qgs a b c=
 (QcO a.1 a.2.1 b).bind fun d=>(Qjg a.1 a.2.1 b).bind fun e=>(Qcj ([]:List (Int)) a b c d e 0).bind fun
  |.inl _=> some (11:Int)
  |.inr _=> bif (decide ((d.length * (8:Nat))≤(35184372088832:Nat))) then bif (decide (((d.length+e.length) * (8:Nat))≤(35184372088832:Nat))) then (Qcm ([]:List (Int)) (d++e) a b c d e 0).bind fun
        |.inl _=> (Qcn ([]:List (Int)) a b c d e 0).bind fun
         |.inl _=> some (12:Int)
         |.inr _=> ((bif (decide (b.1=(7:Int))) then some true else some (decide (b.1=(8:Int)))).bind fun f=>bif f then (Qcp ([]:List (Int)) a b c d e 0).bind fun
           |.inl _=> some (.inl ())
           |.inr _=> some (.inr ()) else some (.inr ()):Option ((Unit)⊕(Unit))).bind fun
          |.inl _=> some (12:Int)
          |.inr _=> ((bif a.2.2.2.1 then bif (decide (b.1=(0:Int))) then some (.inl true) else some (.inl (decide (b.1=(7:Int)))) else some (.inr ()):Option (((Bool))⊕(Unit))).bind fun
                |.inl f=> (bif f then some true else some (decide (b.1=(8:Int)))).bind fun h=>bif h then (Qb6 ([]:List (Int)) a c d 0).bind fun
                  |.inl _=> some (.inl ())
                  |.inr _=> some (.inr ()) else some (.inr ())
                |.inr _=> some (.inr ()):Option ((Unit)⊕(Unit))).bind fun
           |.inl _=> some (12:Int)
           |.inr _=> some (0:Int)
        |.inr _=> some (12:Int) else none else none:=me 285
theorem QiI a b c d e f h:Qer a b c d e f h=
 bif decide (h<f) then (Sy.at' e h).bind fun i=>(Qdl a b c d e f h i.1 i.1.length 0).bind fun j=>Qer j b c d e f (Ev.wr .i64 (h+1)) else some a:=me 286
theorem Qns a b c d e f:Qh9 a b c d e f=
 bif decide (f<e) then (Sy.at' d f).bind fun h=>(Qf3 a b c h).bind fun i=>(QbX i b c a.length d e (Ev.wr .i64 (f+1))).bind fun j=>some j else some a:=me 287
theorem Qih a b c d e f h i j k l m n o p q r:QfN a b c d e f h i j k l m n o p q r=
 bif decide (r<q) then (QfB a b e f (r::([]:List (Int))) h i j k l m n o p).bind fun s=>(QbU a b c d e s h i j k l m n o p f.length q (Ev.wr .i64 (r+1))).bind fun t=>some (.inr (t,f.length)) else some (.inl ()):=me 288
theorem QjC a b:QgJ a b=
 bif (decide (b<(a.length:Int))) then (Sy.at' a b).bind fun c=>bif (decide ((0:Int)<(c.2.length:Int))) then some (.inl ()) else QgJ a (Ev.wr .i64 (b+1)) else some (.inr ()):=me 289
theorem Qnt a b c:QcO a b c=
 bif (decide (c.1=(0:Int))) then (Qc3 a b c.2.2.1).bind fun d=>some d else bif (decide (c.1=(5:Int))) then (Qc3 a b c.2.2.1).bind fun d=>some d else bif (decide (c.1=(3:Int))) then (Qc3 a b c.2.2.1).bind fun d=>some d else bif (decide (c.1=(9:Int))) then bif c.2.2.2.2.2.2.2.1 then (Qc3 a b c.2.2.1).bind fun d=>some d else some ([]:List (Int)) else bif (decide (c.1=(6:Int))) then (QcZ a b c.2.2.2.2.2.1 c.2.2.1 (false)).bind fun d=>some d else bif (decide (c.1=(7:Int))) then (QcZ a b c.2.2.2.2.2.1 c.2.2.1 (false)).bind fun d=>some d else bif (decide (c.1=(8:Int))) then (Qc3 a b c.2.2.1).bind fun d=>(QcZ a b c.2.2.2.2.2.1 c.2.2.2.2.2.2.1 (false)).bind fun e=>bif (decide (((d.length+e.length) * (8:Nat))≤(35184372088832:Nat))) then some (d++e) else none else some ([]:List (Int)):=me 290
theorem QiJ a b c d e f h i j k:Qdl a b c d e f h i j k=
 bif decide (k<j) then (Sy.at' i k).bind fun l=>(Sy.at' a l).bind fun m=>bif (decide (m<(0:Int))) then Qdl a b c d e f h i j (Ev.wr .i64 (k+1)) else (Sy.at' d.2.2.1 0).bind fun n=>(Sy.at' a n).bind fun o=>Qdl (List.set a l.toNat o) b c d e f h i j (Ev.wr .i64 (k+1)) else some a:=me 291
theorem Qkz a b c d e f h i j k l m n o:QfB a b c d e f h i j k l m n o=
 (QbO a b c d e f h i j k l m n o e.length 0).bind fun p=>some p:=me 292
theorem QqL a b c:Qjg a b c=
 bif (decide (c.1=(4:Int))) then (Qc3 a b c.2.2.1).bind fun d=>some d else bif (decide (c.1=(9:Int))) then bif c.2.2.2.2.2.2.2.1 then some ([]:List (Int)) else (Qc3 a b c.2.2.1).bind fun d=>some d else bif (decide (c.1=(6:Int))) then (QcZ a b c.2.2.2.2.2.1 c.2.2.1 (true)).bind fun d=>some d else bif (decide (c.1=(7:Int))) then (QcZ a b c.2.2.2.2.2.1 c.2.2.1 (true)).bind fun d=>some d else bif (decide (c.1=(8:Int))) then (QcZ a b c.2.2.2.2.2.1 c.2.2.2.2.2.2.1 (true)).bind fun d=>some d else some ([]:List (Int)):=me 293
theorem QqM a b c:Qc3 a b c=
 (Qdm ([]:List (Int)) a b c 0).bind fun d=>some d:=me 294
theorem Qp7 a b c d e:QcZ a b c d e=
 (Qck ([]:List (Int)) a b c d e 0).bind fun f=>some f:=me 295
theorem Qfe a b c d e f h i j k l m n o p q:QbO a b c d e f h i j k l m n o p q=
 bif decide (q<p) then (Sy.at' e q).bind fun r=>(Qcl a b f h i j k l m n o r).bind fun s=>bif s then (Sy.at' d r).bind fun t=>QbO a b c (List.set d r.toNat true) e f h i j k l m n o p (Ev.wr .i64 (q+1)) else QbO a b c d e f h i j k l m n o p (Ev.wr .i64 (q+1)) else some d:=me 296
theorem QiK a b c d e f h i j k l m n o p:QcL a b c d e f h i j k l m n o p=
 (Sy.at' l p).bind fun q=>(Qe0 c d a b e f h i j k l m n q o).bind fun r=>bif decide (r=0) then (Qhi q).bind fun s=>(Qa4 a b c d e f h i j k l m n o q s s.length 0).bind fun
   |.inl _=> some ((0:Int),(0:Int))
   | (.inr ⟨t,u⟩)=>some (t,u) else some (p,r):=me 297
theorem QfR a b c d e f h:Qcj a b c d e f h=
 bif (decide (h<(e.length:Int))) then (Sy.at' e h).bind fun i=>(Sy.at' b.2.1.2.2.2.1 i).bind fun j=>bif j.2 then some (.inl ()) else Qcj a b c d e f (Ev.wr .i64 (h+1)) else some (.inr ()):=me 298
theorem QiL a b c d e:Qdm a b c d e=
 bif (decide (e<(d.length:Int))) then (Sy.at' d e).bind fun f=>bif (decide (f<(0:Int))) then Qdm a b c d (Ev.wr .i64 (e+1)) else (QgQ b c f).bind fun h=>bif h then Qdm a b c d (Ev.wr .i64 (e+1)) else bif (decide (((a.length+(1:Nat)) * (8:Nat))≤(35184372088832:Nat))) then Qdm (a++(f::([]:List (Int)))) b c d (Ev.wr .i64 (e+1)) else none else some a:=me 299
theorem Qh1 a b c d e f h:Qck a b c d e f h=
 bif (decide (h<(e.length:Int))) then (Sy.at' b.2 d).bind fun i=>(Sy.at' i.2.2.2.1 h).bind fun j=>bif (j.2==f) then (Sy.at' e h).bind fun k=>(QgQ b c k).bind fun l=>bif l then Qck a b c d e f (Ev.wr .i64 (h+1)) else bif (decide (((a.length+(1:Nat)) * (8:Nat))≤(35184372088832:Nat))) then Qck (a++(k::([]:List (Int)))) b c d e f (Ev.wr .i64 (h+1)) else none else Qck a b c d e f (Ev.wr .i64 (h+1)) else some a:=me 300
theorem QjS a b c d e f h i j k l m:Qcl a b c d e f h i j k l m=
 ((Sy.at' a m).bind fun n=>bif n then some false else (Sy.at' i m).bind fun o=>some (!o.2)).bind fun n=>some n:=me 301
theorem QjT a b c d e f h i j k l m n o p:Qe0 a b c d e f h i j k l m n o p=
 (QaH a b e f h i j k l m n o).bind fun ⟨q,r⟩=>(Qbx c d a b q r e f h i j k l m n o p q.length 0).bind fun
  |.inl _=> some (11:Int)
  |.inr _=> (Qet (q::(r::([]:List (List (Int)))))).bind fun s=>(Qbz c d a b q r e f h i j k l m n o p s s.length 0).bind fun
   |.inl _=> some (12:Int)
   |.inr _=> (QbA c d a b q r e f h i j k l m n o p q.length 0).bind fun
    |.inl _=> (Qeu o).bind fun t=>bif t then (bif (decide (o.1=(0:Int))) then some (.inl ()) else (QbC c d a b q r e f h i j k l m n p r.length 0).bind fun
              |.inl _=> some (.inr ())
              |.inr _=> some (.inl ()):Option ((Unit)⊕(Unit))).bind fun
      |.inl _=> (bif p then (Qbq c d a b q e f h i j k l m n d.length 0).bind fun
        |.inl _=> some (.inl ())
        |.inr _=> some (.inr ()) else some (.inr ()):Option ((Unit)⊕(Unit))).bind fun
       |.inl _=> some (12:Int)
       |.inr _=> some (0:Int)
      |.inr _=> some (12:Int) else some (0:Int)
    |.inr _=> some (12:Int):=me 302
theorem QfS a b c d e f h i:Qcm a b c d e f h i=
 bif (decide (i<(b.length:Int))) then (Sy.at' b i).bind fun j=>(Sy.at' c.2.2.1 j).bind fun k=>(Qes a k).bind fun l=>bif l then some (.inr ()) else Qcm a b c d e f h (Ev.wr .i64 (i+1)) else some (.inl ()):=me 303
theorem Qe1 a b c d e f h:QbX a b c d e f h=
 bif decide (h<f) then (Sy.at' e h).bind fun i=>(QgK a b c i d).bind fun j=>QbX j b c d e f (Ev.wr .i64 (h+1)) else some a:=me 304
theorem QiM a b c d e f h i j k l m:QaH a b c d e f h i j k l m=
 bif (decide (m.1=(0:Int))) then (QaJ a b c d e f h i j k l m.2.2.1).bind fun n=>some (n,([]:List (Int))) else bif (decide (m.1=(5:Int))) then (QaJ a b c d e f h i j k l m.2.2.1).bind fun n=>some (n,([]:List (Int))) else bif (decide (m.1=(3:Int))) then (QaJ a b c d e f h i j k l m.2.2.1).bind fun n=>some (n,([]:List (Int))) else bif (decide (m.1=(4:Int))) then (QaJ a b c d e f h i j k l m.2.2.1).bind fun n=>some (([]:List (Int)),n) else bif (decide (m.1=(6:Int))) then (Qca a b ([]:List (Int)) ([]:List (Int)) c d e f h i j k l m m.2.2.1).bind fun ⟨n,o⟩=>some (o,n) else bif (decide (m.1=(7:Int))) then (Qca a b ([]:List (Int)) ([]:List (Int)) c d e f h i j k l m m.2.2.1).bind fun ⟨n,o⟩=>some (o,n) else bif (decide (m.1=(8:Int))) then (QaJ a b c d e f h i j k l m.2.2.1).bind fun n=>(Qca a b ([]:List (Int)) n c d e f h i j k l m m.2.2.2.2.2.2.1).bind fun ⟨o,p⟩=>some (p,o) else bif (decide (m.1=(9:Int))) then bif m.2.2.2.2.2.2.2.1 then (QaJ a b c d e f h i j k l m.2.2.1).bind fun n=>some (n,([]:List (Int))) else (QaJ a b c d e f h i j k l m.2.2.1).bind fun n=>some (([]:List (Int)),n) else some (([]:List (Int)),([]:List (Int))):=me 305
theorem Quc a b:Qes a b=
 (QhW a b 0).bind fun
  |.inl _=> some true
  |.inr _=> some false:=me 306
theorem Qoc a b c d e:QgK a b c d e=
 (Sy.at' c.2.2.2.2.1 d).bind fun f=>((bif (decide (f.1=(9:Int))) then some (!f.2.2.2.2.2.2.2.1) else some false).bind fun h=>bif h then (Qdf a b c f e f.2.2.2.2.2.2.2.2.1 f.2.2.2.2.2.2.2.2.1.length 0).bind fun i=>some i else some a:Option (((List (Int))))).bind fun h=>(Qf2 f).bind fun i=>(QbX h b c e i i.length 0).bind fun j=>some j:=me 307
theorem QjU a b c d e f h i j k l m:QaJ a b c d e f h i j k l m=
 (Qby a b ([]:List (Int)) c d e f h i j k l m m.length 0).bind fun n=>some n:=me 308
theorem QcE a b c d e f h i j k l m n o p:Qca a b c d e f h i j k l m n o p=
 (Qar a b c d e f h i j k l m n o p p.length 0).bind fun ⟨q,r⟩=>some (q,r):=me 309
theorem QfT a b c d e f h:Qcn a b c d e f h=
 bif (decide (h<(e.length:Int))) then bif (decide (h<(0:Int))) then none else bif (decide ((e.length:Int)<h)) then none else (Sy.at' e h).bind fun i=>(Qes (List.take h.toNat e) i).bind fun j=>bif j then some (.inl ()) else (Qco a b c d e f h 0).bind fun
   |.inl _=> some (.inl ())
   |.inr _=> Qcn a b c d e f (Ev.wr .i64 (h+1)) else some (.inr ()):=me 310
theorem QdO a b c d e f h i j k l m n o p q r s:QbU a b c d e f h i j k l m n o p q r s=
 bif decide (s<r) then (Qef a b e f (s::([]:List (Int))) h i j k l m n o p q).bind fun t=>QbU a b c d e t h i j k l m n o p q r (Ev.wr .i64 (s+1)) else some f:=me 311
theorem QeH a b c d e f h i j k l m n o p q r s t:Qbx a b c d e f h i j k l m n o p q r s t=
 bif decide (t<s) then (Sy.at' e t).bind fun u=>(Sy.at' m u).bind fun v=>bif v.2 then some (.inl ()) else Qbx a b c d e f h i j k l m n o p q r s (Ev.wr .i64 (t+1)) else some (.inr ()):=me 312
theorem QkA a b c:QhW a b c=
 bif (decide (c<(a.length:Int))) then (Sy.at' a c).bind fun d=>bif decide (d=b) then some (.inl ()) else QhW a b (Ev.wr .i64 (c+1)) else some (.inr ()):=me 313
theorem Qhq a b c d e f h i:Qdf a b c d e f h i=
 bif decide (i<h) then (Sy.at' f i).bind fun j=>(QcH a b c d e f h i j.1 j.1.length 0).bind fun k=>Qdf k b c d e f h (Ev.wr .i64 (i+1)) else some a:=me 314
theorem QeI a b c d e f h i j k l m n o p:Qby a b c d e f h i j k l m n o p=
 bif decide (p<o) then (Sy.at' n p).bind fun q=>(bif (decide (q<(0:Int))) then some false else (Sy.at' a q).bind fun r=>some (!r)).bind fun r=>bif r then bif (decide (((c.length+(1:Nat)) * (8:Nat))≤(35184372088832:Nat))) then Qby a b (c++(q::([]:List (Int)))) d e f h i j k l m n o (Ev.wr .i64 (p+1)) else none else Qby a b c d e f h i j k l m n o (Ev.wr .i64 (p+1)) else some c:=me 315
theorem Qdg a b c d e f h i j k l m n o p q r:Qar a b c d e f h i j k l m n o p q r=
 bif decide (r<q) then (Sy.at' p r).bind fun s=>(Sy.at' a s).bind fun t=>bif t then Qar a b c d e f h i j k l m n o p q (Ev.wr .i64 (r+1)) else (Sy.at' f o.2.2.2.2.2.1).bind fun u=>(Sy.at' u.2.2.2.1 r).bind fun v=>bif v.2 then bif (decide (((c.length+(1:Nat)) * (8:Nat))≤(35184372088832:Nat))) then Qar a b (c++(s::([]:List (Int)))) d e f h i j k l m n o p q (Ev.wr .i64 (r+1)) else none else bif (decide (((d.length+(1:Nat)) * (8:Nat))≤(35184372088832:Nat))) then Qar a b c (d++(s::([]:List (Int)))) e f h i j k l m n o p q (Ev.wr .i64 (r+1)) else none else some (c,d):=me 316
theorem QfU a b c d e f h i:Qco a b c d e f h i=
 bif (decide (i<(f.length:Int))) then (Sy.at' f i).bind fun j=>(Sy.at' b.2.2.1 j).bind fun k=>(Sy.at' e h).bind fun l=>bif decide (k=l) then some (.inl ()) else Qco a b c d e f h (Ev.wr .i64 (i+1)) else some (.inr ()):=me 317
theorem Qjl a b c d e f h i j k l m n o p:Qef a b c d e f h i j k l m n o p=
 (Qbp a b c d e f h i j k l m n o p e.length 0).bind fun q=>some q:=me 318
theorem Qhr a b c d e f h i j k l:QcH a b c d e f h i j k l=
 bif decide (l<k) then (Sy.at' j l).bind fun m=>bif (decide (m<(0:Int))) then none else bif (decide (m<(e:Int))) then (Sy.at' a m).bind fun n=>bif (decide (n<(0:Int))) then QcH a b c d e f h i j k (Ev.wr .i64 (l+1)) else (Sy.at' d.2.2.1 0).bind fun o=>bif (decide (o<(0:Int))) then none else bif (decide (o<(e:Int))) then (Sy.at' a o).bind fun p=>QcH (List.set a m.toNat p) b c d e f h i j k (Ev.wr .i64 (l+1)) else none else none else some a:=me 319
theorem QcA a b c d e f:QbG a b c d e f=
 bif decide (f<e) then (Sy.at' d f).bind fun h=>bif (decide ((c.length * (8:Nat))≤(35184372088832:Nat))) then (QeY b.1 b.2.1 h.1).bind fun i=>bif (decide (((c.length+i.length) * (8:Nat))≤(35184372088832:Nat))) then (Qas a (c++i) b h.2).bind fun j=>QbG a j c d e (Ev.wr .i64 (f+1)) else none else none else some b:=me 320
theorem QcB a b c d e f:QbH a b c d e f=
 bif decide (f<e) then (Sy.at' d f).bind fun h=>(Qas a b c h).bind fun i=>QbH a b i d e (Ev.wr .i64 (f+1)) else some c:=me 321
theorem QfV a b c d e f h:Qcp a b c d e f h=
 bif (decide (h<(f.length:Int))) then (Sy.at' f h).bind fun i=>(Sy.at' b.2.2.1 i).bind fun j=>(bif decide (j<b.2.1.2.1) then (Sy.at' b.2.1.2.2.2.1 j).bind fun k=>some (!k.2) else some true).bind fun k=>bif k then some (.inl ()) else Qcp a b c d e f (Ev.wr .i64 (h+1)) else some (.inr ()):=me 322
theorem QfH a b c d e:Qb6 a b c d e=
 bif (decide (e<(c.length:Int))) then ((Sy.at' c e).bind fun f=>(Qes a f).bind fun h=>bif h then some false else (Qes d f).bind fun i=>some (!i)).bind fun f=>bif f then some (.inl ()) else Qb6 a b c d (Ev.wr .i64 (e+1)) else some (.inr ()):=me 323
theorem Qnu a:Qet a=
 (Qd5 a 0 a a.length 0).bind fun b=>(Qn1 b).bind fun
  | (.inl ⟨c,d⟩)=>(Qiz c d a a.length 0).bind fun
   |.inl _=> bif decide (d≤c.length) then some (List.take d c) else none
   |.inr e=> some e
  |.inr _=> (QbI ([]:List (Int)) a a.length 0).bind fun c=>some c:=me 324
theorem Qd8 a b c d e f h i j k l m n o p q r:Qbp a b c d e f h i j k l m n o p q r=
 bif decide (r<q) then (Sy.at' e r).bind fun s=>(Qcl a b f h i j k l m n o s).bind fun t=>bif t then bif (decide (s<(0:Int))) then none else bif (decide (s<(p:Int))) then (Sy.at' d s).bind fun u=>Qbp a b c (List.set d s.toNat true) e f h i j k l m n o p q (Ev.wr .i64 (r+1)) else none else Qbp a b c d e f h i j k l m n o p q (Ev.wr .i64 (r+1)) else some d:=me 325
theorem QeJ a b c d e f h i j k l m n o p q r s t u:Qbz a b c d e f h i j k l m n o p q r s t u=
 bif decide (u<t) then (Sy.at' s u).bind fun v=>(Sy.at' d v).bind fun w=>(Sy.at' a w).bind fun x=>bif x then some (.inl ()) else Qbz a b c d e f h i j k l m n o p q r s t (Ev.wr .i64 (u+1)) else some (.inr ()):=me 326
theorem Qgn a b c d:Qas a b c d=
 bif (decide (c.2.2.2.2.2=(0:Int))) then (Sy.at' c.2.1.2.2.2.2.1 d).bind fun e=>(QfC a b c e).bind fun f=>bif decide (f=0) then bif (decide ((a.length * (8:Nat))≤(35184372088832:Nat))) then (QcO c.1 c.2.1 e).bind fun h=>bif (decide (((a.length+h.length) * (8:Nat))≤(35184372088832:Nat))) then bif (decide (e.1=(9:Int))) then (Qa7 a b (a++h) c e.2.2.2.2.2.2.2.2.1 e.2.2.2.2.2.2.2.2.1.length 0).bind fun i=>some i else bif (decide ((b.length * (8:Nat))≤(35184372088832:Nat))) then (Qhh e).bind fun i=>(QeY c.1 c.2.1 i).bind fun j=>bif (decide (((b.length+j.length) * (8:Nat))≤(35184372088832:Nat))) then (Qf2 e).bind fun k=>(Qa8 a b (a++h) (b++j) c k k.length 0).bind fun l=>some l else none else none else none else none else some (c.1,(c.2.1,(c.2.2.1,(c.2.2.2.1,(d,f))))) else some c:=me 327
theorem Qei a b c d e:Qd5 a b c d e=
 bif decide (e<d) then (Sy.at' c e).bind fun f=>bif (decide ((Ev.wr .i64 (b+(f.length:Int)))<(0:Int))) then none else Qd5 a (Ev.wr .i64 (b+(f.length:Int))) c d (Ev.wr .i64 (e+1)) else some b:=me 328
theorem Qhz a b c d e f h i j k l m n o p q:Qcb a b c d e f h i j k l m n o p q=
 (Sy.at' l p).bind fun r=>(QdK c d a b e f h i j k l m n r q o).bind fun s=>bif decide (s=0) then (Qhi r).bind fun t=>(QaS a b c d e f h i j k l m n o q r t t.length 0).bind fun
   |.inl _=> some ((0:Int),(0:Int))
   | (.inr ⟨u,v⟩)=>some (u,v) else some (p,s):=me 329
theorem QkB a b c d:QfC a b c d=
 (QcO c.1 c.2.1 d).bind fun e=>(Qjg c.1 c.2.1 d).bind fun f=>(QbP a b c d e f 0).bind fun
  |.inl _=> some (11:Int)
  |.inr _=> bif (decide ((e.length * (8:Nat))≤(35184372088832:Nat))) then bif (decide (((e.length+f.length) * (8:Nat))≤(35184372088832:Nat))) then (QbQ a b (e++f) c d e f 0).bind fun
        |.inl _=> some (12:Int)
        |.inr _=> (QbR a b c d e f 0).bind fun
         |.inl _=> some (12:Int)
         |.inr _=> ((bif (decide (d.1=(7:Int))) then some true else some (decide (d.1=(8:Int)))).bind fun h=>bif h then (QbT a b c d e f 0).bind fun
           |.inl _=> some (.inl ())
           |.inr _=> some (.inr ()) else some (.inr ()):Option ((Unit)⊕(Unit))).bind fun
          |.inl _=> some (12:Int)
          |.inr _=> ((bif c.2.2.2.1 then bif (decide (d.1=(0:Int))) then some (.inl true) else some (.inl (decide (d.1=(7:Int)))) else some (.inr ()):Option (((Bool))⊕(Unit))).bind fun
                |.inl h=> (bif h then some true else some (decide (d.1=(8:Int)))).bind fun i=>bif i then (QbD a b c e 0).bind fun
                  |.inl _=> some (.inl ())
                  |.inr _=> some (.inr ()) else some (.inr ())
                |.inr _=> some (.inr ()):Option ((Unit)⊕(Unit))).bind fun
           |.inl _=> some (12:Int)
           |.inr _=> some (0:Int) else none else none:=me 330
theorem QeK a b c d e f h i j k l m n o p q r s t:QbA a b c d e f h i j k l m n o p q r s t=
 bif decide (t<s) then (Sy.at' e t).bind fun u=>bif (decide (t<(0:Int))) then none else bif (decide ((e.length:Int)<t)) then none else bif decide (t.toNat≤e.length) then (QaW (List.take t.toNat e) u).bind fun v=>bif v then some (.inr ()) else (QbB a b c d e f h i j k l m n o p q r u s t f.length 0).bind fun
            |.inl _=> some (.inr ())
            |.inr _=> QbA a b c d e f h i j k l m n o p q r s (Ev.wr .i64 (t+1)) else none else some (.inl ()):=me 331
theorem Qp8 a:Qn1 a=
 bif (decide (a<(0:Int))) then none else (bif (decide ((0:Int)<(Ev.wr .i64 (a - 0)))) then bif (decide ((Ev.wr .i64 (a - 0))<(1:Int))) then none else bif (decide (((Ev.wr .i64 (a - 0)).toNat * (8:Nat))≤(140737488355328:Nat))) then bif (decide (((List.replicate (Ev.wr .i64 (a - 0)).toNat (0:Int)).length:Int)<(0:Int))) then none else some (.inl ()) else none else some (.inr ()):Option ((Unit)⊕(Unit))).bind fun
   |.inl _=> some (.inl ((List.replicate (Ev.wr .i64 (a - 0)).toNat (0:Int)),(0:Nat)))
   |.inr _=> some (.inr ()):=me 332
theorem QiN a b c d e f h i j k l m n o p q:QdK a b c d e f h i j k l m n o p q=
 (QaH a b e f h i j k l m n o).bind fun ⟨r,s⟩=>(Qa5 c d a b r s e f h i j k l m n o p q r.length 0).bind fun
  |.inl _=> some (11:Int)
  |.inr _=> (Qet (r::(s::([]:List (List (Int)))))).bind fun t=>(Qa6 c d a b r s e f h i j k l m n o p q t t.length 0).bind fun
   |.inl _=> some (12:Int)
   |.inr _=> (Qa9 c d a b r s e f h i j k l m n o p q r.length 0).bind fun
    |.inl _=> some (12:Int)
    |.inr _=> (Qeu o).bind fun u=>bif u then (bif (decide (o.1=(0:Int))) then some (.inl ()) else (Qbb c d a b r s e f h i j k l m n p q s.length 0).bind fun
              |.inl _=> some (.inr ())
              |.inr _=> some (.inl ()):Option ((Unit)⊕(Unit))).bind fun
      |.inl _=> (bif q then (QaZ c d a b r e f h i j k l m n p p (p:Int) 0).bind fun
        |.inl _=> some (.inl ())
        |.inr _=> some (.inr ()) else some (.inr ()):Option ((Unit)⊕(Unit))).bind fun
       |.inl _=> some (12:Int)
       |.inr _=> some (0:Int)
      |.inr _=> some (12:Int) else some (0:Int):=me 333
theorem Qff a b c d e f h:QbP a b c d e f h=
 bif (decide (h<(e.length:Int))) then (Sy.at' e h).bind fun i=>(Sy.at' c.2.1.2.2.2.1 i).bind fun j=>bif j.2 then some (.inl ()) else QbP a b c d e f (Ev.wr .i64 (h+1)) else some (.inr ()):=me 334
theorem QdP a b c d e f h i j k l m n o p q r s:Qa4 a b c d e f h i j k l m n o p q r s=
 bif decide (s<r) then (Sy.at' q s).bind fun t=>(Qeg c d a b e f h i j k l m n p s).bind fun ⟨u,v,w,x⟩=>(Qao u v c d e f h i j k l m n o t w x).bind fun ⟨y,z⟩=>bif decide (z=0) then Qa4 a b c d e f h i j k l m n o p q r (Ev.wr .i64 (s+1)) else some (.inr (y,z)) else some (.inl ()):=me 335
theorem QkC a b:QaW a b=
 (Qkq a b).bind fun c=>some (!(decide (c<(0:Int)))):=me 336
theorem QdQ a b c d e f h i j k l m n o p q r s t u:Qa5 a b c d e f h i j k l m n o p q r s t u=
 bif decide (u<t) then (Sy.at' e u).bind fun v=>(Sy.at' m v).bind fun w=>bif w.2 then some (.inl ()) else Qa5 a b c d e f h i j k l m n o p q r s t (Ev.wr .i64 (u+1)) else some (.inr ()):=me 337
theorem Qnv a:Qeu a=
 (bif (decide (a.1=(0:Int))) then some true else some (decide (a.1=(7:Int)))).bind fun b=>(bif b then some true else some (decide (a.1=(8:Int)))).bind fun c=>some c:=me 338
theorem Qle a b c d e:Qiz a b c d e=
 bif decide (e<d) then (Sy.at' c e).bind fun f=>bif (decide (((b+f.length) * (8:Nat))≤(35184372088832:Nat))) then bif decide (b≤a.length) then (QbI ((List.take b a)++f) c d (Ev.wr .i64 (e+1))).bind fun h=>some (.inr h) else none else none else some (.inl ()):=me 339
theorem Qdx a b c d:QbI a b c d=
 bif decide (d<c) then (Sy.at' b d).bind fun e=>bif (decide (((a.length+e.length) * (8:Nat))≤(35184372088832:Nat))) then QbI (a++e) b c (Ev.wr .i64 (d+1)) else none else some a:=me 340
theorem Qfg a b c d e f h i:QbQ a b c d e f h i=
 bif (decide (i<(c.length:Int))) then (Sy.at' c i).bind fun j=>(Sy.at' d.2.2.1 j).bind fun k=>(Qes a k).bind fun l=>bif l then some (.inl ()) else QbQ a b c d e f h (Ev.wr .i64 (i+1)) else some (.inr ()):=me 341
theorem QeL a b c d e f h i j k l m n o p q r s t u v w:QbB a b c d e f h i j k l m n o p q r s t u v w=
 bif decide (w<v) then (Sy.at' f w).bind fun x=>(Sy.at' d x).bind fun y=>bif decide (y=s) then some (.inl ()) else QbB a b c d e f h i j k l m n o p q r s t u v (Ev.wr .i64 (w+1)) else some (.inr ()):=me 342
theorem Qjm a b c d e f h i j k l m n o p:Qeg a b c d e f h i j k l m n o p=
 (QdL c d).bind fun ⟨q,r,s,t⟩=>(QaH a b e f h i j k l m n o).bind fun ⟨u,v⟩=>(QaK c d a b ([]:List (Bool)) ([]:List (Bool)) q r u e f h i j k l m n o s t p u.length 0).bind fun w=>(bif (decide (o.1=(9:Int))) then (Sy.at' o.2.2.2.2.2.2.2.2.1 p).bind fun x=>(QaO a b w r e f h i j k l m n s t x.1).bind fun y=>some y else (Qe7 o).bind fun x=>(QaO a b w r e f h i j k l m n s t x).bind fun y=>some y:Option (((List (Bool))))).bind fun x=>some (w,x,s,t):=me 343
theorem QmD a b:Qkq a b=
 (Qdz a b a.length 0).bind fun
  |.inl c=> some c
  |.inr _=> some (-1:Int):=me 344
theorem Qd9 a b c d e f h i j k l m n o p q:Qbq a b c d e f h i j k l m n o p q=
 bif decide (q<p) then (Sy.at' b q).bind fun r=>(bif r then (Sy.at' a q).bind fun s=>some (!s) else some false).bind fun s=>(bif s then (QaW e q).bind fun t=>some (!t) else some false).bind fun t=>bif t then some (.inl ()) else Qbq a b c d e f h i j k l m n o p (Ev.wr .i64 (q+1)) else some (.inr ()):=me 345
theorem QeM a b c d e f h i j k l m n o p q r s:QbC a b c d e f h i j k l m n o p q r s=
 bif decide (s<r) then (Sy.at' f s).bind fun t=>(Sy.at' d t).bind fun u=>(bif decide (u<k) then (Sy.at' m u).bind fun v=>some (!v.2) else some true).bind fun v=>bif v then some (.inl ()) else QbC a b c d e f h i j k l m n o p q r (Ev.wr .i64 (s+1)) else some (.inr ()):=me 346
theorem QdR a b c d e f h i j k l m n o p q r s t u v:Qa6 a b c d e f h i j k l m n o p q r s t u v=
 bif decide (v<u) then (Sy.at' t v).bind fun w=>(Sy.at' d w).bind fun x=>(Sy.at' a x).bind fun y=>bif y then some (.inl ()) else Qa6 a b c d e f h i j k l m n o p q r s t u (Ev.wr .i64 (v+1)) else some (.inr ()):=me 347
theorem QiO a b:QdL a b=
 bif (decide ((a.length:Int)<(0:Int))) then none else bif (decide (((a.length:Int).toNat * (1:Nat))≤(140737488355328:Nat))) then bif (decide ((b.length:Int)<(0:Int))) then none else bif (decide (((b.length:Int).toNat * (1:Nat))≤(140737488355328:Nat))) then some (((List.take (0:Nat) (List.replicate (a.length:Int).toNat false))++((List.take (List.replicate (a.length:Int).toNat false).length a)++(List.drop (List.take (List.replicate (a.length:Int).toNat false).length a).length (List.replicate (a.length:Int).toNat false)))),((List.take (0:Nat) (List.replicate (b.length:Int).toNat false))++((List.take (List.replicate (b.length:Int).toNat false).length b)++(List.drop (List.take (List.replicate (b.length:Int).toNat false).length b).length (List.replicate (b.length:Int).toNat false)))),(List.replicate (a.length:Int).toNat false).length,(List.replicate (b.length:Int).toNat false).length) else none else none:=me 348
theorem Qgo a b c d:Qdz a b c d=
 bif decide (d<c) then (Sy.at' a d).bind fun e=>bif decide (b=e) then some (.inl d) else Qdz a b c (Ev.wr .i64 (d+1)) else some (.inr ()):=me 349
theorem Qfh a b c d e f h:QbR a b c d e f h=
 bif (decide (h<(e.length:Int))) then bif (decide (h<(0:Int))) then none else bif (decide ((e.length:Int)<h)) then none else (Sy.at' e h).bind fun i=>(Qes (List.take h.toNat e) i).bind fun j=>bif j then some (.inl ()) else (QbS a b c d e f h 0).bind fun
   |.inl _=> some (.inl ())
   |.inr _=> QbR a b c d e f (Ev.wr .i64 (h+1)) else some (.inr ()):=me 350
theorem QbV a b c d e f h:Qa7 a b c d e f h=
 bif decide (h<f) then (Sy.at' e h).bind fun i=>bif (decide ((b.length * (8:Nat))≤(35184372088832:Nat))) then (QeY d.1 d.2.1 i.1).bind fun j=>bif (decide (((b.length+j.length) * (8:Nat))≤(35184372088832:Nat))) then (Qas c (b++j) d i.2).bind fun k=>Qa7 a b c k e f (Ev.wr .i64 (h+1)) else none else none else some d:=me 351
theorem QbW a b c d e f h i:Qa8 a b c d e f h i=
 bif decide (i<h) then (Sy.at' f i).bind fun j=>(Qas c d e j).bind fun k=>Qa8 a b c d k f h (Ev.wr .i64 (i+1)) else some e:=me 352
theorem QdS a b c d e f h i j k l m n o p q r s t u:Qa9 a b c d e f h i j k l m n o p q r s t u=
 bif decide (u<t) then (Sy.at' e u).bind fun v=>bif (decide (u<(0:Int))) then none else bif (decide ((e.length:Int)<u)) then none else bif decide (u.toNat≤e.length) then (QaW (List.take u.toNat e) v).bind fun w=>bif w then some (.inl ()) else (Qba a b c d e f h i j k l m n o p q r s v t u f.length 0).bind fun
            |.inl _=> some (.inl ())
            |.inr _=> Qa9 a b c d e f h i j k l m n o p q r s t (Ev.wr .i64 (u+1)) else none else some (.inr ()):=me 353
theorem Qea a b c d e f h i j k l m n o p q r s t u v w x y:QaK a b c d e f h i j k l m n o p q r s t u v w x y=
 bif decide (y<x) then (Sy.at' j y).bind fun z=>bif (decide (z<(0:Int))) then none else bif (decide (z<(u:Int))) then (Sy.at' h z).bind fun A=>QaK a b c d e f (List.set h z.toNat true) i j k l m n o p q r s t u v w x (Ev.wr .i64 (y+1)) else none else some h:=me 354
theorem Qfi a b c d e f h i:QbS a b c d e f h i=
 bif (decide (i<(f.length:Int))) then (Sy.at' f i).bind fun j=>(Sy.at' c.2.2.1 j).bind fun k=>(Sy.at' e h).bind fun l=>bif decide (k=l) then some (.inl ()) else QbS a b c d e f h (Ev.wr .i64 (i+1)) else some (.inr ()):=me 355
theorem Qdh a b c d e f h i j k l m n o p q r s t:QaS a b c d e f h i j k l m n o p q r s t=
 bif decide (t<s) then (Sy.at' r t).bind fun u=>(Qdv c d a b e f h i j k l m n q t p).bind fun ⟨v,w,x,y⟩=>(Qao v w c d e f h i j k l m n o u x y).bind fun ⟨z,A⟩=>bif decide (A=0) then QaS a b c d e f h i j k l m n o p q r s (Ev.wr .i64 (t+1)) else some (.inr (z,A)) else some (.inl ()):=me 356
theorem Qfj a b c d e f h:QbT a b c d e f h=
 bif (decide (h<(f.length:Int))) then (Sy.at' f h).bind fun i=>(Sy.at' c.2.2.1 i).bind fun j=>(bif decide (j<c.2.1.2.1) then (Sy.at' c.2.1.2.2.2.1 j).bind fun k=>some (!k.2) else some true).bind fun k=>bif k then some (.inl ()) else QbT a b c d e f (Ev.wr .i64 (h+1)) else some (.inr ()):=me 357
theorem QeN a b c d e:QbD a b c d e=
 bif (decide (e<(b.length:Int))) then ((Sy.at' b e).bind fun f=>(Qes a f).bind fun h=>bif h then some false else (Qes d f).bind fun i=>some (!i)).bind fun f=>bif f then some (.inl ()) else QbD a b c d (Ev.wr .i64 (e+1)) else some (.inr ()):=me 358
theorem QdT a b c d e f h i j k l m n o p q r s t u v w x:Qba a b c d e f h i j k l m n o p q r s t u v w x=
 bif decide (x<w) then (Sy.at' f x).bind fun y=>(Sy.at' d y).bind fun z=>bif decide (z=t) then some (.inl ()) else Qba a b c d e f h i j k l m n o p q r s t u v w (Ev.wr .i64 (x+1)) else some (.inr ()):=me 359
theorem QdA a b c d e f h i j k l m n o p q r s:QaZ a b c d e f h i j k l m n o p q r s=
 bif decide (s<r) then bif (decide (s<(0:Int))) then none else bif (decide (s<(q:Int))) then (Sy.at' b s).bind fun t=>(bif t then (Sy.at' a s).bind fun u=>some (!u) else some false).bind fun u=>(bif u then (QaW e s).bind fun v=>some (!v) else some false).bind fun v=>bif v then some (.inl ()) else QaZ a b c d e f h i j k l m n o p q r (Ev.wr .i64 (s+1)) else none else some (.inr ()):=me 360
theorem QdU a b c d e f h i j k l m n o p q r s t:Qbb a b c d e f h i j k l m n o p q r s t=
 bif decide (t<s) then (Sy.at' f t).bind fun u=>(Sy.at' d u).bind fun v=>(bif decide (v<k) then (Sy.at' m v).bind fun w=>some (!w.2) else some true).bind fun w=>bif w then some (.inl ()) else Qbb a b c d e f h i j k l m n o p q r s (Ev.wr .i64 (t+1)) else some (.inr ()):=me 361
theorem Qjn a b c d e f h i j k l m n o p q:QaO a b c d e f h i j k l m n o p q=
 (Qbr a b c d e f h i j k l m n o p q q.length 0).bind fun r=>some r:=me 362
theorem Qii a b c d e f h i j k l m n o p q:Qdv a b c d e f h i j k l m n o p q=
 (Qc4 c d q).bind fun ⟨r,s,t,u⟩=>(QaH a b e f h i j k l m n o).bind fun ⟨v,w⟩=>(QaK c d a b ([]:List (Bool)) ([]:List (Bool)) r s v e f h i j k l m n o t u p v.length 0).bind fun x=>(bif (decide (o.1=(9:Int))) then (Sy.at' o.2.2.2.2.2.2.2.2.1 p).bind fun y=>(QaO a b x s e f h i j k l m n t u y.1).bind fun z=>some z else (Qe7 o).bind fun y=>(QaO a b x s e f h i j k l m n t u y).bind fun z=>some z:Option (((List (Bool))))).bind fun y=>some (x,y,t,u):=me 363
theorem Qeb a b c d e f h i j k l m n o p q r s:Qbr a b c d e f h i j k l m n o p q r s=
 bif decide (s<r) then (Sy.at' q s).bind fun t=>(Qcl a b e f h i j k l m n t).bind fun u=>bif u then bif (decide (t<(0:Int))) then none else bif (decide (t<(p:Int))) then (Sy.at' d t).bind fun v=>Qbr a b c (List.set d t.toNat true) e f h i j k l m n o p q r (Ev.wr .i64 (s+1)) else none else Qbr a b c d e f h i j k l m n o p q r (Ev.wr .i64 (s+1)) else some d:=me 364
theorem QhA a b c:Qc4 a b c=
 bif (decide ((a.length:Int)<(0:Int))) then none else bif (decide (((a.length:Int).toNat * (1:Nat))≤(140737488355328:Nat))) then bif (decide ((c:Int)<(0:Int))) then none else bif (decide (((c:Int).toNat * (1:Nat))≤(140737488355328:Nat))) then bif decide (c≤b.length) then some (((List.take (0:Nat) (List.replicate (a.length:Int).toNat false))++((List.take (List.replicate (a.length:Int).toNat false).length a)++(List.drop (List.take (List.replicate (a.length:Int).toNat false).length a).length (List.replicate (a.length:Int).toNat false)))),((List.take (0:Nat) (List.replicate (c:Int).toNat false))++((List.take (List.replicate (c:Int).toNat false).length (List.take c b))++(List.drop (List.take (List.replicate (c:Int).toNat false).length (List.take c b)).length (List.replicate (c:Int).toNat false)))),(List.replicate (a.length:Int).toNat false).length,(List.replicate (c:Int).toNat false).length) else none else none else none:=me 365
theorem QhB a b c d e f h i j k l m n o p q r:Qao a b c d e f h i j k l m n o p q r=
 (Sy.at' l p).bind fun s=>(QdM c d a b e f h i j k l m n s q r o).bind fun t=>bif decide (t=0) then (Qhi s).bind fun u=>(QaT a b c d e f h i j k l m n o q r s u u.length 0).bind fun
   |.inl _=> some ((0:Int),(0:Int))
   | (.inr ⟨v,w⟩)=>some (v,w) else some (p,t):=me 366
theorem QiP a b c d e f h i j k l m n o p q r:QdM a b c d e f h i j k l m n o p q r=
 (QaH a b e f h i j k l m n o).bind fun ⟨s,t⟩=>(Qbc c d a b s t e f h i j k l m n o p q r s.length 0).bind fun
  |.inl _=> some (11:Int)
  |.inr _=> (Qet (s::(t::([]:List (List (Int)))))).bind fun u=>(Qbd c d a b s t e f h i j k l m n o p q r u u.length 0).bind fun
   |.inl _=> some (12:Int)
   |.inr _=> (Qbe c d a b s t e f h i j k l m n o p q r s.length 0).bind fun
    |.inl _=> some (12:Int)
    |.inr _=> (Qeu o).bind fun v=>bif v then (bif (decide (o.1=(0:Int))) then some (.inl ()) else (Qbg c d a b s t e f h i j k l m n p q r t.length 0).bind fun
              |.inl _=> some (.inr ())
              |.inr _=> some (.inl ()):Option ((Unit)⊕(Unit))).bind fun
      |.inl _=> (bif r then (Qa0 c d a b s e f h i j k l m n p q q (q:Int) 0).bind fun
        |.inl _=> some (.inl ())
        |.inr _=> some (.inr ()) else some (.inr ()):Option ((Unit)⊕(Unit))).bind fun
       |.inl _=> some (12:Int)
       |.inr _=> some (0:Int)
      |.inr _=> some (12:Int) else some (0:Int):=me 367
theorem QdV a b c d e f h i j k l m n o p q r s t u v:Qbc a b c d e f h i j k l m n o p q r s t u v=
 bif decide (v<u) then (Sy.at' e v).bind fun w=>(Sy.at' m w).bind fun x=>bif x.2 then some (.inl ()) else Qbc a b c d e f h i j k l m n o p q r s t u (Ev.wr .i64 (v+1)) else some (.inr ()):=me 368
theorem QdW a b c d e f h i j k l m n o p q r s t u v w:Qbd a b c d e f h i j k l m n o p q r s t u v w=
 bif decide (w<v) then (Sy.at' u w).bind fun x=>(Sy.at' d x).bind fun y=>bif (decide (y<(0:Int))) then none else bif (decide (y<(r:Int))) then (Sy.at' a y).bind fun z=>bif z then some (.inl ()) else Qbd a b c d e f h i j k l m n o p q r s t u v (Ev.wr .i64 (w+1)) else none else some (.inr ()):=me 369
theorem QdX a b c d e f h i j k l m n o p q r s t u v:Qbe a b c d e f h i j k l m n o p q r s t u v=
 bif decide (v<u) then (Sy.at' e v).bind fun w=>bif (decide (v<(0:Int))) then none else bif (decide ((e.length:Int)<v)) then none else bif decide (v.toNat≤e.length) then (QaW (List.take v.toNat e) w).bind fun x=>bif x then some (.inl ()) else (Qbf a b c d e f h i j k l m n o p q r s t w u v f.length 0).bind fun
            |.inl _=> some (.inl ())
            |.inr _=> Qbe a b c d e f h i j k l m n o p q r s t u (Ev.wr .i64 (v+1)) else none else some (.inr ()):=me 370
theorem Qdi a b c d e f h i j k l m n o p q r s t u:QaT a b c d e f h i j k l m n o p q r s t u=
 bif decide (u<t) then (Sy.at' s u).bind fun v=>(Qdw c d a b e f h i j k l m n r u p q).bind fun ⟨w,x,y,z⟩=>(Qao w x c d e f h i j k l m n o v y z).bind fun ⟨A,C⟩=>bif decide (C=0) then QaT a b c d e f h i j k l m n o p q r s t (Ev.wr .i64 (u+1)) else some (.inr (A,C)) else some (.inl ()):=me 371
theorem QdY a b c d e f h i j k l m n o p q r s t u v w x y:Qbf a b c d e f h i j k l m n o p q r s t u v w x y=
 bif decide (y<x) then (Sy.at' f y).bind fun z=>(Sy.at' d z).bind fun A=>bif decide (A=u) then some (.inl ()) else Qbf a b c d e f h i j k l m n o p q r s t u v w x (Ev.wr .i64 (y+1)) else some (.inr ()):=me 372
theorem QdB a b c d e f h i j k l m n o p q r s t:Qa0 a b c d e f h i j k l m n o p q r s t=
 bif decide (t<s) then bif (decide (t<(0:Int))) then none else bif (decide (t<(r:Int))) then (Sy.at' b t).bind fun u=>(bif u then bif (decide (t<(p:Int))) then (Sy.at' a t).bind fun v=>some (!v) else none else some false).bind fun v=>(bif v then (QaW e t).bind fun w=>some (!w) else some false).bind fun w=>bif w then some (.inl ()) else Qa0 a b c d e f h i j k l m n o p q r s (Ev.wr .i64 (t+1)) else none else some (.inr ()):=me 373
theorem QdZ a b c d e f h i j k l m n o p q r s t u:Qbg a b c d e f h i j k l m n o p q r s t u=
 bif decide (u<t) then (Sy.at' f u).bind fun v=>(Sy.at' d v).bind fun w=>(bif decide (w<k) then (Sy.at' m w).bind fun x=>some (!x.2) else some true).bind fun x=>bif x then some (.inl ()) else Qbg a b c d e f h i j k l m n o p q r s t (Ev.wr .i64 (u+1)) else some (.inr ()):=me 374
theorem Qij a b c d e f h i j k l m n o p q r:Qdw a b c d e f h i j k l m n o p q r=
 (Qc5 c d q r).bind fun ⟨s,t,u,v⟩=>(QaH a b e f h i j k l m n o).bind fun ⟨w,x⟩=>(QaK c d a b ([]:List (Bool)) ([]:List (Bool)) s t w e f h i j k l m n o u v p w.length 0).bind fun y=>(bif (decide (o.1=(9:Int))) then (Sy.at' o.2.2.2.2.2.2.2.2.1 p).bind fun z=>(QaO a b y t e f h i j k l m n u v z.1).bind fun A=>some A else (Qe7 o).bind fun z=>(QaO a b y t e f h i j k l m n u v z).bind fun A=>some A:Option (((List (Bool))))).bind fun z=>some (y,z,u,v):=me 375
theorem QhC a b c d:Qc5 a b c d=
 bif (decide ((c:Int)<(0:Int))) then none else bif (decide (((c:Int).toNat * (1:Nat))≤(140737488355328:Nat))) then bif (decide ((d:Int)<(0:Int))) then none else bif (decide (((d:Int).toNat * (1:Nat))≤(140737488355328:Nat))) then bif decide (c≤a.length) then bif decide (d≤b.length) then some (((List.take (0:Nat) (List.replicate (c:Int).toNat false))++((List.take (List.replicate (c:Int).toNat false).length (List.take c a))++(List.drop (List.take (List.replicate (c:Int).toNat false).length (List.take c a)).length (List.replicate (c:Int).toNat false)))),((List.take (0:Nat) (List.replicate (d:Int).toNat false))++((List.take (List.replicate (d:Int).toNat false).length (List.take d b))++(List.drop (List.take (List.replicate (d:Int).toNat false).length (List.take d b)).length (List.replicate (d:Int).toNat false)))),(List.replicate (c:Int).toNat false).length,(List.replicate (d:Int).toNat false).length) else none else none else none else none:=me 376
theorem Qjo a:Qeh a=
 (QlO).bind fun b=>bif b then ((QpY a).bind fun c=>bif c then (Qk4 a).bind fun d=>some (!(decide (d=0))) else some true).bind fun c=>bif c then some true else (QaQ a 0).bind fun
   |.inl _=> some true
   |.inr _=> some false else some false:=me 377
theorem Qec a b:QaQ a b=
 bif (decide (b<(a.2.length:Int))) then (Sy.at' a.2 b).bind fun c=>(Qhm a b).bind fun ⟨d,e⟩=>(bif decide (e=0) then some c.2.2.2.2.2.2 else some true).bind fun f=>bif f then QaQ a (Ev.wr .i64 (b+1)) else (Qbs ([]:List (Int)) a c b 0).bind fun h=>bif (decide ((c.2.2.2.1.length:Int)<(0:Int))) then none else bif (decide (((c.2.2.2.1.length:Int).toNat * (8:Nat))≤(140737488355328:Nat))) then (QdN a c c.2.2.2.2.2.1 (List.replicate (c.2.2.2.1.length:Int).toNat (0:Int)) h).bind fun i=>bif i then QaQ a (Ev.wr .i64 (b+1)) else some (.inr ()) else none else some (.inl ()):=me 378
theorem Qed a b c d e:Qbs a b c d e=
 bif decide (e<c.2.1) then bif (decide (((a.length+(1:Nat)) * (8:Nat))≤(35184372088832:Nat))) then Qbs (a++(e::([]:List (Int)))) b c d (Ev.wr .i64 (e+1)) else none else some a:=me 379
theorem QqN a b c d e:QdN a b c d e=
 (Sy.at' b.2.2.2.2.1 c).bind fun f=>bif (decide ((d.length * (8:Nat))≤(35184372088832:Nat))) then (QcO a b f).bind fun h=>(Qev d a b f e h h.length 0).bind fun i=>bif (decide (f.1=(9:Int))) then (Qew i a b e f.2.2.2.2.2.2.2.2.1 f.2.2.2.2.2.2.2.2.1.length 0).bind fun
   |.inl _=> some false
   |.inr _=> some true else bif (decide ((e.length * (8:Nat))≤(35184372088832:Nat))) then (Qhh f).bind fun j=>bif (decide (((e.length+j.length) * (8:Nat))≤(35184372088832:Nat))) then (Qf2 f).bind fun k=>bif (decide ((0:Int)<(k.length:Int))) then (Sy.at' k 0).bind fun l=>(QdN a b l i (e++j)).bind fun m=>some m else (Qd4 a b).bind fun l=>(Qex i (e++j) b l ((e++j).length:Int) 0).bind fun
         |.inl _=> some false
         |.inr _=> some true else none else none else none:=me 380
theorem QiQ a b c d e f h i:Qev a b c d e f h i=
 bif decide (i<h) then (Sy.at' f i).bind fun j=>(Sy.at' a j).bind fun k=>Qev (List.set a j.toNat (Ev.wr .i64 (k+1))) b c d e f h (Ev.wr .i64 (i+1)) else some a:=me 381
theorem QiR a b c d e f h:Qew a b c d e f h=
 bif decide (h<f) then (Sy.at' e h).bind fun i=>bif (decide ((d.length * (8:Nat))≤(35184372088832:Nat))) then bif (decide (((d.length+i.1.length) * (8:Nat))≤(35184372088832:Nat))) then (QdN b c i.2 a (d++i.1)).bind fun j=>bif j then Qew a b c d e f (Ev.wr .i64 (h+1)) else some (.inl ()) else none else none else some (.inr ()):=me 382
theorem QiS a b c d e f:Qex a b c d e f=
 bif decide (f<e) then (Sy.at' b f).bind fun h=>(((Sy.at' d h).bind fun i=>bif decide (i=h) then (Sy.at' c.2.2.2.1 h).bind fun j=>some (!j.2) else some false).bind fun i=>bif i then some (1:Int) else some (0:Int)).bind fun i=>(Sy.at' a h).bind fun j=>bif decide (j=i) then Qex a b c d e (Ev.wr .i64 (f+1)) else some (.inl ()) else some (.inr ()):=me 383
theorem QqO (s sep:List UInt8):strings_Cut s sep=cutM s sep:=QDs ctx tb G 2 (by kernel_rfl) (s,sep)
theorem Qp9 (s cs:List UInt8):QnY s cs=QvG s cs:=QDs ctx tb G 3 (by kernel_rfl) (s,cs)
end
end Go.Proofs.YtkecfadnfnnfaaaGreatDoor.LabB
