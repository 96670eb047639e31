/- The models of this program's functions and loops, and their equations. -/
import Derived.Test.YtkecfadnfnnfaaaGreatDoorFamB
import Derived.Test.YtkecfadnfnnfaaaGreatDoorSyW
import Derived.KernelRfl
set_option maxRecDepth 100000
set_option linter.all false
namespace Go.Proofs.YtkecfadnfnnfaaaGreatDoor.LabB
open Go Go.Ev Go.Sy
abbrev QvE:Type:=(List UInt8)×(Int)
abbrev GVar:Type:=(Int)×(Bool)
abbrev QDJ:Type:=(Int)×(Int)
abbrev Qak:Type:=(List (Int))×(Int)
abbrev GCon:Type:=(List UInt8)×(List (Int))
abbrev QGU:Type:=(List (Bool))×(List (Bool))
abbrev QDK:Type:=(Int)×((Int)×((Bool)×(Int)))
abbrev Qai:Type:=(List UInt8)×(List (GCon))
abbrev QGA:Type:=(List (Bool))×((List (Bool))×((Int)×(Int)))
abbrev QAL:Type:=(Int)×((Bool)×((Bool)×((Bool)×((Bool)×((Bool)×((Bool)×((Bool)×(Bool))))))))
abbrev Qab:Type:=(Int)×((Int)×((List (Int))×((Int)×((Int)×((Int)×((List (Int))×((Bool)×((List (Qak))×(Int)))))))))
abbrev GFun:Type:=(List UInt8)×((Int)×((Int)×((List (GVar))×((List (Qab))×(GVar)))))
abbrev QGV:Type:=(GFun)×((List (Int))×(Bool))
abbrev Qae:Type:=(List (Qai))×(List (GFun))
abbrev QGB:Type:=(GFun)×((List (Int))×((List (Int))×((List (Int))×(GVar))))
abbrev Gfun:Type:=(Qae)×((GFun)×((List (Bool))×(List (Int))))
abbrev QHl:Type:=(Qae)×((GFun)×((List (Int))×((Bool)×((Int)×(Int)))))
abbrev QGC:Type:=(Qae)×((GFun)×((List (Bool))×(QGU)))
abbrev QGW:Type:=(Qae)×((GFun)×((List (Int))×(List (Qab))))
theorem P2:tb.P 2=[.str,.str]:=by kernel_rfl
theorem O2':tb.O 2=[[.str,.str,.bool]]:=by kernel_rfl
theorem P3:tb.P 3=[.str,.str]:=by kernel_rfl
theorem O3':tb.O 3=[[.str]]:=by kernel_rfl
theorem O1':tb.O 1=[[.bool]]:=by kernel_rfl
def G1:Pr (tb.P 1)→Option (Sm (tb.O 1)):=fun _=>O1'▸(some true:Option (Sm [[.bool]]))
def G2:Pr (tb.P 2)→Option (Sm (tb.O 2)):=fun x=>O2'▸(let y:List UInt8×List UInt8:=(P2▸x:Pr [.str,.str]); (cutM y.1 y.2:Option (Sm [[.str,.str,.bool]])))
def G3:Pr (tb.P 3)→Option (Sm (tb.O 3)):=fun x=>O3'▸(let y:List UInt8×List UInt8:=(P3▸x:Pr [.str,.str]); (QvD y.1 y.2:Option (Sm [[.str]])))
noncomputable section
noncomputable def G:Mod tb:=fun i=>match i with |1=>G1 |2=>G2 |3=>G3 |_=>fun _=>none
theorem me (i:Nat){x:Pr (tb.P i)}{r:Option (Sm (tb.O i))}(h:(tb.fam i).ext=false:=by kernel_rfl)(e:(body ctx tb i).den tb.P tb.O (M ctx tb G) (tb.O i) (env0 (tb.P i) x)=r:=by kernel_rfl):M ctx tb G i x=r:=(M_eq ctx tb G i h x).trans e
def QkA (v0 v1:Qae):Option Bool:=M ctx tb G 0 (v0,v1)
def Qil:Option Bool:=M ctx tb G 1 ()
def strings_Cut (v0 v1:List UInt8):Option (List UInt8×List UInt8×Bool):=M ctx tb G 2 (v0,v1)
def QnG (v0 v1:List UInt8):Option (List UInt8):=M ctx tb G 3 (v0,v1)
def QjH (v0:Qae):Option Bool:=M ctx tb G 4 v0
def Qcg (v0 v1:Qae):Option Bool:=M ctx tb G 5 (v0,v1)
def Qfd (v0:Qae)(v1:List Qai)(v2 v3:Int):Option (Unit⊕Unit):=M ctx tb G 6 (v0,v1,v2,v3)
def Qro (v0 v1:Qae):Option Bool:=M ctx tb G 7 (v0,v1)
def QeR (v0:Qae):Option Int:=M ctx tb G 8 v0
def Qfe (v0:Qae)(v1:List Qai)(v2 v3:Int)(v4:List GCon)(v5 v6:Int):Option (Unit⊕Unit):=M ctx tb G 9 (v0,v1,v2,v3,v4,v5,v6)
def Qff (v0:List GFun)(v1 v2:Int):Option (Unit⊕Unit):=M ctx tb G 10 (v0,v1,v2)
def QeS (v0 v1:List Qai):Option Bool:=M ctx tb G 11 (v0,v1)
def Qlh (v0:Qae):Option Int:=M ctx tb G 12 v0
def Qli (v0:List Qai):Option Int:=M ctx tb G 13 v0
def QjI (v0 v1:List Qai):Option Bool:=M ctx tb G 14 (v0,v1)
def Qeh (v0:Qae)(v1 v2:Int):Option (Unit⊕Int):=M ctx tb G 15 (v0,v1,v2)
def Qfg (v0:List GFun)(v1 v2:Int)(v3:List Qab)(v4 v5:Int):Option (Unit⊕Unit):=M ctx tb G 16 (v0,v1,v2,v3,v4,v5)
def Qb0 (v0 v1:List Qai)(v2 v3:Int):Option (Unit⊕Unit):=M ctx tb G 17 (v0,v1,v2,v3)
def QpL (v0:List Qai):Option Int:=M ctx tb G 18 v0
def Qm1 (v0:List Qai):Option Bool:=M ctx tb G 19 v0
def Qim (v0 v1:Qae)(v2:Int):Option (Unit⊕Unit):=M ctx tb G 20 (v0,v1,v2)
def Qhi (v0:Qae)(v1:Int):Option (Unit⊕Int):=M ctx tb G 21 (v0,v1)
def QjJ (v0:List Qai):Option Bool:=M ctx tb G 22 v0
def Qei (v0 v1:List Qai)(v2:Int):Option (Unit⊕Unit):=M ctx tb G 23 (v0,v1,v2)
def Qin (v0:Qae)(v1:Int):Option (Int×Int):=M ctx tb G 24 (v0,v1)
def Qfh (v0:List GFun)(v1 v2:Int)(v3:List Qab)(v4 v5:Int)(v6:List Qak)(v7 v8:Int):Option (Unit⊕Unit):=M ctx tb G 25 (v0,v1,v2,v3,v4,v5,v6,v7,v8)
def Ql8 (v0 v1:Qai):Option Bool:=M ctx tb G 26 (v0,v1)
def Qrp (v0:List Qai):Option Bool:=M ctx tb G 27 v0
def QfJ (v0:List Qai)(v1 v2:Int):Option (Unit⊕Unit):=M ctx tb G 28 (v0,v1,v2)
def Qlj (v0:List Qai):Option Bool:=M ctx tb G 29 v0
def QnH (v0:List Qai):Option Bool:=M ctx tb G 30 v0
def QjK (v0:GFun):Option (GFun×Int):=M ctx tb G 31 v0
def QkP (v0:Qae)(v1:Int):Option (Int×Int):=M ctx tb G 32 (v0,v1)
def QcN (v0:List Qai)(v1 v2:Int):Option (Unit⊕Unit):=M ctx tb G 33 (v0,v1,v2)
def Qej (v0 v1:List Qai)(v2 v3:Int):Option (Unit⊕Unit):=M ctx tb G 34 (v0,v1,v2,v3)
def QdE (v0 v1 v2:List Bool)(v3:List Qai)(v4:List GFun)(v5:List UInt8)(v6 v7:Int)(v8:List GVar)(v9:List Qab)(v10:Int)(v11:Bool)(v12:Int):Option Int:=M ctx tb G 35 (v0,v1,v2,v3,v4,v5,v6,v7,v8,v9,v10,v11,v12)
def QdF (v0 v1:List GCon):Option Bool:=M ctx tb G 36 (v0,v1)
def Qio (v0:List Qai)(v1:Int):Option (Unit⊕Unit):=M ctx tb G 37 (v0,v1)
def Qc2 (v0:List GCon):Option Bool:=M ctx tb G 38 v0
def Qgd (v0 v1:List GFun):Option Bool:=M ctx tb G 39 (v0,v1)
def Qdb (v0 v1:List Qai)(v2 v3:Int):Option (Unit⊕Unit):=M ctx tb G 40 (v0,v1,v2,v3)
def QpM (v0:List Qai):Option Bool:=M ctx tb G 41 v0
def Ql9 (v0 v1:GFun):Option Bool:=M ctx tb G 42 (v0,v1)
def Qdc (v0 v1:List (List UInt8×Bool))(v2:List Qai)(v3 v4:Int):Option (Unit⊕Unit):=M ctx tb G 43 (v0,v1,v2,v3,v4)
def Qge (v0:List Qai)(v1:Int):Option (Unit⊕Unit):=M ctx tb G 44 (v0,v1)
def QsC (v0:GFun):Option (List Int×List Int×List Int×List UInt8×Int×Int×List GVar×List Qab×Int×Bool×Int×Bool):=M ctx tb G 45 v0
def QnI (v0:Qae)(v1:Int):Option Int:=M ctx tb G 46 (v0,v1)
def Qkq (v0:List UInt8):Option Bool:=M ctx tb G 47 v0
def Qek (v0 v1:GCon)(v2 v3:List Qai)(v4 v5 v6:Int):Option (Unit⊕Unit):=M ctx tb G 48 (v0,v1,v2,v3,v4,v5,v6)
def QpN (v0:List UInt8):Option Bool:=M ctx tb G 49 v0
def QbB (v0 v1:List GCon)(v2 v3:Int):Option (Unit⊕Unit):=M ctx tb G 50 (v0,v1,v2,v3)
def Qip (v0:List Qai)(v1 v2:Int):Option (Unit⊕Unit):=M ctx tb G 51 (v0,v1,v2)
def QhK (v0:List GCon):Option Int:=M ctx tb G 52 v0
def QpO (v0:List Qai):Option Bool:=M ctx tb G 53 v0
def QeT (v0 v1:List Bool)(v2:List Int)(v3:Qae)(v4:GFun)(v5 v6 v7:Int):Option (List Int):=M ctx tb G 54 (v0,v1,v2,v3,v4,v5,v6,v7)
def Qcy (v0:List GCon):Option Bool:=M ctx tb G 55 v0
def Qa1 (v0 v1 v2:List Bool)(v3:List Qai)(v4:List GFun)(v5:List UInt8)(v6 v7:Int)(v8:List GVar)(v9:List Qab)(v10:Int)(v11:Bool)(v12:GFun)(v13:List GFun)(v14 v15:Int):Option (Unit⊕Unit):=M ctx tb G 56 (v0,v1,v2,v3,v4,v5,v6,v7,v8,v9,v10,v11,v12,v13,v14,v15)
def Qa2 (v0 v1:List GFun)(v2 v3:Int):Option (Unit⊕Unit):=M ctx tb G 57 (v0,v1,v2,v3)
def Qe3 (v0 v1:List Qai)(v2 v3:Int)(v4:List GCon)(v5 v6:Int):Option (Unit⊕Unit):=M ctx tb G 58 (v0,v1,v2,v3,v4,v5,v6)
def Qhj (v0 v1:List (List UInt8))(v2:List Qai)(v3:Int):Option (Unit⊕Unit):=M ctx tb G 59 (v0,v1,v2,v3)
def Qfu (v0 v1:GFun)(v2:Int):Option (Unit⊕Unit):=M ctx tb G 60 (v0,v1,v2)
def Qdd (v0 v1:List (List UInt8×Bool))(v2:List Qai)(v3 v4:Int)(v5:List GCon)(v6 v7:Int):Option (Unit⊕List (List UInt8×Bool)):=M ctx tb G 61 (v0,v1,v2,v3,v4,v5,v6,v7)
def QjL (v0:List UInt8):Option Bool:=M ctx tb G 62 v0
def QeU (v0 v1 v2 v3:List Int)(v4:GFun)(v5:List UInt8)(v6 v7:Int)(v8:List GVar)(v9:List Qab)(v10:Int)(v11:Bool)(v12:Int)(v13:Bool)(v14:Int):Option (List Int×List Int):=M ctx tb G 63 (v0,v1,v2,v3,v4,v5,v6,v7,v8,v9,v10,v11,v12,v13,v14)
def Qrq (v0:List UInt8):Option Bool:=M ctx tb G 64 v0
def Qch (v0:List UInt8)(v1 v2:Int):Option (Unit⊕Unit):=M ctx tb G 65 (v0,v1,v2)
def Qg4 (v0:List UInt8)(v1 v2:Int):Option Bool:=M ctx tb G 66 (v0,v1,v2)
def QjM (v0 v1:GCon):Option Bool:=M ctx tb G 67 (v0,v1)
def Qb1 (v0:List GCon)(v1 v2:Int):Option (Unit⊕Int):=M ctx tb G 68 (v0,v1,v2)
def QjN (v0:List Qai):Option Bool:=M ctx tb G 69 v0
def QnJ (v0:List Qai):Option Bool:=M ctx tb G 70 v0
def Qgf (v0:List Qai)(v1 v2:Int):Option (Unit⊕Unit):=M ctx tb G 71 (v0,v1,v2)
def Qgg (v0:Qae)(v1:GFun)(v2 v3:Int):Option (Unit⊕Unit):=M ctx tb G 72 (v0,v1,v2,v3)
def Qhk (v0:List Qai)(v1:Int):Option (Unit⊕Unit):=M ctx tb G 73 (v0,v1)
def Qgh (v0:List GCon):Option Int:=M ctx tb G 74 v0
def Qma (v0 v1:GFun):Option Bool:=M ctx tb G 75 (v0,v1)
def Qcz (v0:List Qai)(v1:List Int):Option Bool:=M ctx tb G 76 (v0,v1)
def QsD (v0:List (List UInt8))(v1:List UInt8):Option Bool:=M ctx tb G 77 (v0,v1)
def QcO (v0:List UInt8)(v1:Int):Option (Unit⊕Unit):=M ctx tb G 78 (v0,v1)
def Qiq (v0:List UInt8)(v1:Int):Option (Unit⊕Bool):=M ctx tb G 79 (v0,v1)
def Qir (v0 v1:List Int):Option Bool:=M ctx tb G 80 (v0,v1)
def QnK (v0:GCon):Option Bool:=M ctx tb G 81 v0
def Qgi (v0 v1:List Bool)(v2:List Int)(v3 v4:Int)(v5:Qae)(v6:GFun)(v7:Int):Option (List Bool×List Bool×Int×Int):=M ctx tb G 82 (v0,v1,v2,v3,v4,v5,v6,v7)
def QdG (v0 v1 v2:List Bool)(v3:List Qai)(v4:List GFun)(v5:List UInt8)(v6 v7:Int)(v8:List GVar)(v9:List Qab)(v10:Int)(v11:Bool)(v12:Int):Option Bool:=M ctx tb G 83 (v0,v1,v2,v3,v4,v5,v6,v7,v8,v9,v10,v11,v12)
def Qfv (v0 v1:GFun)(v2:Int):Option (Unit⊕Unit):=M ctx tb G 84 (v0,v1,v2)
def Qgj (v0 v1 v2 v3:List Int)(v4:GFun)(v5:List UInt8)(v6 v7:Int)(v8:List GVar)(v9:List Qab)(v10:Int)(v11:Bool)(v12:Int)(v13:Bool)(v14:Int):Option (List Int):=M ctx tb G 85 (v0,v1,v2,v3,v4,v5,v6,v7,v8,v9,v10,v11,v12,v13,v14)
def Qhl (v0 v1:List (List UInt8))(v2:List Qai)(v3 v4:Int):Option (Unit⊕List (List UInt8)):=M ctx tb G 86 (v0,v1,v2,v3,v4)
def Qel (v0:List Bool)(v1:List Qai)(v2:Bool):Option (List Bool):=M ctx tb G 87 (v0,v1,v2)
def Qgk (v0:List Bool)(v1:List Qai)(v2:Int):Option (List Bool):=M ctx tb G 88 (v0,v1,v2)
def Qhm (v0:List Qai)(v1 v2:Int):Option (Unit⊕Unit):=M ctx tb G 89 (v0,v1,v2)
def QbC (v0:List GCon)(v1 v2:Int):Option (Unit⊕Int):=M ctx tb G 90 (v0,v1,v2)
def Qbb (v0:GFun):Option (GFun×Int):=M ctx tb G 91 v0
def Qgl (v0:List Qai)(v1:List Int):Option Int:=M ctx tb G 92 (v0,v1)
def Qlk (v0:List (List UInt8))(v1:List UInt8)(v2:Int):Option (Unit⊕Unit):=M ctx tb G 93 (v0,v1,v2)
def Qkr (v0:List UInt8)(v1 v2:Int):Option Bool:=M ctx tb G 94 (v0,v1,v2)
def Qdy (v0 v1:List Int)(v2 v3:Int):Option (Unit⊕Unit):=M ctx tb G 95 (v0,v1,v2,v3)
def Qcn (v0 v1 v2:List Bool)(v3:GFun)(v4:List Qai)(v5:List GFun)(v6:List UInt8)(v7 v8:Int)(v9:List GVar)(v10:List Qab)(v11:Int)(v12:Bool)(v13 v14:Int):Option (List Bool×List Bool):=M ctx tb G 96 (v0,v1,v2,v3,v4,v5,v6,v7,v8,v9,v10,v11,v12,v13,v14)
def QdS (v0:Qae)(v1:Int):Option Bool:=M ctx tb G 97 (v0,v1)
def Qll (v0 v1:GFun):Option Bool:=M ctx tb G 98 (v0,v1)
def QiN (v0 v1:List Bool)(v2:List Int)(v3 v4:Int)(v5:Qae)(v6:GFun)(v7:Qab):Option (List Bool×Int):=M ctx tb G 99 (v0,v1,v2,v3,v4,v5,v6,v7)
def QkQ (v0 v1:Qab):Option Bool:=M ctx tb G 100 (v0,v1)
def Qb6 (v0:List Bool)(v1:List Qai)(v2:Bool)(v3 v4:Int):Option (List Bool×Bool):=M ctx tb G 101 (v0,v1,v2,v3,v4)
def Qgm (v0:List Bool)(v1:List Qai)(v2 v3:Int):Option (List Bool):=M ctx tb G 102 (v0,v1,v2,v3)
def Qhn (v0:List Qai)(v1 v2:Int)(v3:List Int)(v4:Int):Option (Unit⊕Unit):=M ctx tb G 103 (v0,v1,v2,v3,v4)
def QkR (v0:GCon):Option Bool:=M ctx tb G 104 v0
def QfK (v0:GFun):Option (List Int×List Int×Bool):=M ctx tb G 105 v0
def QbD (v0:List Qai)(v1:List Int)(v2 v3:Int):Option (Unit⊕Int):=M ctx tb G 106 (v0,v1,v2,v3)
def Qis (v0:List UInt8)(v1:Int):Option (Unit⊕Unit):=M ctx tb G 107 (v0,v1)
def QcA (v0 v1 v2:List Bool)(v3:List Qai)(v4:List GFun)(v5:List UInt8)(v6 v7:Int)(v8:List GVar)(v9:List Qab)(v10:Int)(v11:Bool)(v12:List GVar):Option Bool:=M ctx tb G 108 (v0,v1,v2,v3,v4,v5,v6,v7,v8,v9,v10,v11,v12)
def Qco (v0 v1 v2 v3:List Int)(v4:List UInt8)(v5 v6:Int)(v7:List GVar)(v8:List Qab)(v9:Int)(v10:Bool)(v11:Int)(v12:Bool)(v13:Int):Option (List Int×List Int×List Int×Int×Bool):=M ctx tb G 109 (v0,v1,v2,v3,v4,v5,v6,v7,v8,v9,v10,v11,v12,v13)
def Qb7 (v0:Qae)(v1:GFun)(v2:Int):Option (Unit⊕Unit):=M ctx tb G 110 (v0,v1,v2)
def Qcp (v0:List Bool)(v1:Bool):Option Bool:=M ctx tb G 111 (v0,v1)
def Qgn (v0:List Bool)(v1:Int):Option (Unit⊕Unit):=M ctx tb G 112 (v0,v1)
def Qcq (v0:List GVar)(v1:List Qab)(v2:List GVar)(v3:List Qab)(v4:GFun)(v5:List UInt8)(v6 v7 v8:Int)(v9:Bool)(v10:List UInt8)(v11 v12 v13:Int)(v14:Bool)(v15 v16:List Int)(v17 v18:Int):Option (List GVar):=M ctx tb G 113 (v0,v1,v2,v3,v4,v5,v6,v7,v8,v9,v10,v11,v12,v13,v14,v15,v16,v17,v18)
def Qgo (v0 v1:List GVar):Option Bool:=M ctx tb G 114 (v0,v1)
def Qrr (v0:Qab):Option Bool:=M ctx tb G 115 v0
def Qe4 (v0 v1:List Int):Option Bool:=M ctx tb G 116 (v0,v1)
def QcB (v0:List Bool)(v1:List GCon):Option Bool:=M ctx tb G 117 (v0,v1)
def Qgp (v0:List Bool)(v1:List Qai)(v2 v3 v4:Int):Option (List Bool):=M ctx tb G 118 (v0,v1,v2,v3,v4)
def QjO (v0:List Qai)(v1:Int):Option Bool:=M ctx tb G 119 (v0,v1)
def QbM (v0 v1:List Int)(v2 v3 v4:List Bool)(v5:GFun)(v6 v7:Int):Option (List Bool×List Bool):=M ctx tb G 120 (v0,v1,v2,v3,v4,v5,v6,v7)
def Qmb (v0:List Qai)(v1:Int):Option Bool:=M ctx tb G 121 (v0,v1)
def QnL (v0:Int):Option Bool:=M ctx tb G 122 v0
def Qb8 (v0 v1 v2:List Bool)(v3:List Qai)(v4:List GFun)(v5:List UInt8)(v6 v7:Int)(v8:List GVar)(v9:List Qab)(v10:Int)(v11:Bool)(v12:Int):Option (List Bool×List Bool×List Bool×Int×Int):=M ctx tb G 123 (v0,v1,v2,v3,v4,v5,v6,v7,v8,v9,v10,v11,v12)
def Qem (v0:List GVar)(v1:List Qab)(v2 v3 v4:List Int)(v5:List GVar)(v6:List Qab)(v7:GFun)(v8:List UInt8)(v9 v10 v11:Int)(v12:Bool)(v13:List UInt8)(v14 v15:Int)(v16:List GVar)(v17:List Qab)(v18:Int)(v19:Bool)(v20:Int)(v21:Bool)(v22:List UInt8)(v23 v24 v25:Int)(v26:Bool)(v27:Int):Option (List GVar):=M ctx tb G 124 (v0,v1,v2,v3,v4,v5,v6,v7,v8,v9,v10,v11,v12,v13,v14,v15,v16,v17,v18,v19,v20,v21,v22,v23,v24,v25,v26,v27)
def QdH (v0 v1:List Qab):Option Bool:=M ctx tb G 125 (v0,v1)
def Qks (v0:Qab):Option (List Int):=M ctx tb G 126 v0
def QeV (v0 v1:Qab)(v2:Int):Option (Unit⊕Unit):=M ctx tb G 127 (v0,v1,v2)
def Qgq (v0 v1 v2:List Bool)(v3:List Qai)(v4:List GFun)(v5:List UInt8)(v6 v7:Int)(v8:List GVar)(v9:List Qab)(v10:Int)(v11:Bool)(v12:List GVar):Option Int:=M ctx tb G 128 (v0,v1,v2,v3,v4,v5,v6,v7,v8,v9,v10,v11,v12)
def Qa8 (v0 v1 v2 v3:List Int)(v4:List UInt8)(v5 v6:Int)(v7:List GVar)(v8:List Qab)(v9:Int)(v10:Bool)(v11:Int)(v12:Bool)(v13:Qab)(v14:List Int)(v15:Int):Option Bool:=M ctx tb G 129 (v0,v1,v2,v3,v4,v5,v6,v7,v8,v9,v10,v11,v12,v13,v14,v15)
def QfL (v0:List Bool)(v1:Bool):Option Int:=M ctx tb G 130 (v0,v1)
def QcF (v0 v1:List GVar)(v2 v3:Int):Option (Unit⊕Unit):=M ctx tb G 131 (v0,v1,v2,v3)
def QeW (v0 v1:List Int)(v2:Int):Option (Unit⊕Unit):=M ctx tb G 132 (v0,v1,v2)
def Qgr (v0:List Bool)(v1:List GCon):Option Int:=M ctx tb G 133 (v0,v1)
def Qgs (v0:List Bool)(v1:List Qai)(v2 v3 v4:Int)(v5:Bool)(v6:List Int)(v7:Int):Option Bool:=M ctx tb G 134 (v0,v1,v2,v3,v4,v5,v6,v7)
def Qg5 (v0:List Qai)(v1:Int):Option Bool:=M ctx tb G 135 (v0,v1)
def Qbw (v0:Qae)(v1:GFun)(v2:Int):Option (Unit⊕Unit):=M ctx tb G 136 (v0,v1,v2)
def Qit (v0:GFun):Option (List Int×List Int×Int):=M ctx tb G 137 v0
def QdI (v0:List Int)(v1 v2:List Bool)(v3 v4:Int)(v5:Qae)(v6:GFun)(v7:Qab)(v8:List Int)(v9:Int):Option (Unit⊕Unit):=M ctx tb G 138 (v0,v1,v2,v3,v4,v5,v6,v7,v8,v9)
def QcP (v0:List Bool)(v1:GFun)(v2:Int):Option (List Bool×Bool):=M ctx tb G 139 (v0,v1,v2)
def Qen (v0 v1 v2:List Bool)(v3:List Qai)(v4:List GFun)(v5:List UInt8)(v6 v7:Int)(v8:List GVar)(v9:List Qab)(v10:Int)(v11:Bool)(v12:Qab):Option (List Bool×Int):=M ctx tb G 140 (v0,v1,v2,v3,v4,v5,v6,v7,v8,v9,v10,v11,v12)
def QbE (v0 v1:List Qab)(v2 v3:Int):Option (Unit⊕Unit):=M ctx tb G 141 (v0,v1,v2,v3)
def QcV (v0:List Int)(v1:Qab)(v2:Int):Option (List Int):=M ctx tb G 142 (v0,v1,v2)
def QbF (v0 v1 v2:List Bool)(v3:List Qai)(v4:List GFun)(v5:List UInt8)(v6 v7:Int)(v8:List GVar)(v9:List Qab)(v10:Int)(v11:Bool)(v12:List GVar)(v13 v14:Int):Option (Unit⊕Int):=M ctx tb G 143 (v0,v1,v2,v3,v4,v5,v6,v7,v8,v9,v10,v11,v12,v13,v14)
def QsE (v0:List Int)(v1:Int):Option Bool:=M ctx tb G 144 (v0,v1)
def Qcr (v0:List Bool)(v1:Bool)(v2 v3:Int):Option (Int⊕Unit):=M ctx tb G 145 (v0,v1,v2,v3)
def QbG (v0:List Bool)(v1:List GCon)(v2 v3:Int):Option (Unit⊕Int):=M ctx tb G 146 (v0,v1,v2,v3)
def QjP (v0:List GVar)(v1:List Qab)(v2 v3 v4:List Int)(v5:List GVar)(v6:List Qab)(v7:GFun)(v8:List UInt8)(v9 v10 v11:Int)(v12:Bool)(v13:List UInt8)(v14 v15:Int)(v16:List GVar)(v17:List Qab)(v18:Int)(v19:Bool)(v20:Int)(v21:Bool)(v22:List UInt8)(v23 v24 v25:Int)(v26:Bool)(v27:Int):Option (List Qab):=M ctx tb G 147 (v0,v1,v2,v3,v4,v5,v6,v7,v8,v9,v10,v11,v12,v13,v14,v15,v16,v17,v18,v19,v20,v21,v22,v23,v24,v25,v26,v27)
def QaK (v0:List GVar)(v1:List Qab)(v2:List GVar)(v3:List Qab)(v4:GFun)(v5:List UInt8)(v6 v7 v8:Int)(v9:Bool)(v10:List UInt8)(v11 v12 v13:Int)(v14:Bool)(v15 v16 v17:List Int)(v18 v19:Int):Option (List Qab):=M ctx tb G 148 (v0,v1,v2,v3,v4,v5,v6,v7,v8,v9,v10,v11,v12,v13,v14,v15,v16,v17,v18,v19)
def QhL (v0:Qab):Option (List Int):=M ctx tb G 149 v0
def QfQ (v0:List Qai)(v1:Int):Option Bool:=M ctx tb G 150 (v0,v1)
def Qde (v0 v1:List Int)(v2:GFun)(v3 v4:List Int)(v5 v6:Int):Option (List Int):=M ctx tb G 151 (v0,v1,v2,v3,v4,v5,v6)
def QwS (v0:List Int)(v1:Int):Option Bool:=M ctx tb G 152 (v0,v1)
def QpP (v0:Qab):Option Bool:=M ctx tb G 153 v0
def Qiu (v0 v1:Qab):Option Bool:=M ctx tb G 154 (v0,v1)
def Qfi (v0 v1 v2:List Bool)(v3:List Qai)(v4:List GFun)(v5:List UInt8)(v6 v7:Int)(v8:List GVar)(v9:List Qab)(v10:Int)(v11:Bool)(v12:GVar):Option Bool:=M ctx tb G 155 (v0,v1,v2,v3,v4,v5,v6,v7,v8,v9,v10,v11,v12)
def Qiv (v0:List Int)(v1 v2:Int):Option (Unit⊕Unit):=M ctx tb G 156 (v0,v1,v2)
def QkS (v0:List Bool)(v1:GCon):Option Bool:=M ctx tb G 157 (v0,v1)
def QeX (v0:Qab):Option (List Int):=M ctx tb G 158 v0
def Qb9 (v0:List Int)(v1 v2 v3:List Bool)(v4:List Int)(v5:GFun)(v6:Bool)(v7:Int):Option (List Int×List Bool×List Bool×List Bool×List Int×Bool):=M ctx tb G 159 (v0,v1,v2,v3,v4,v5,v6,v7)
def Qbx (v0 v1 v2 v3:List Int)(v4:List UInt8)(v5 v6:Int)(v7:List GVar)(v8:List Qab)(v9:Int)(v10:Bool)(v11:Int)(v12:Bool)(v13:Qab)(v14:List Int)(v15:Int):Option (List Int×List Int×List Int×Int×Bool):=M ctx tb G 160 (v0,v1,v2,v3,v4,v5,v6,v7,v8,v9,v10,v11,v12,v13,v14,v15)
def QcW (v0:List Int)(v1:Qab)(v2:Int):Option (List Int):=M ctx tb G 161 (v0,v1,v2)
def QjQ (v0:Qab):Option (List Int):=M ctx tb G 162 v0
def Qm2 (v0:Qab)(v1 v2:List Int):Option Qab:=M ctx tb G 163 (v0,v1,v2)
def Qby (v0 v1:List Int):Option (List Int):=M ctx tb G 164 (v0,v1)
def Qcs (v0:List GVar)(v1:List Qab)(v2:List GVar)(v3:List Qab)(v4:List Qak)(v5:GFun)(v6:List UInt8)(v7 v8 v9:Int)(v10:Bool)(v11:List UInt8)(v12 v13 v14:Int)(v15:Bool)(v16 v17:Int)(v18:List Int)(v19 v20 v21:Int)(v22:List Int)(v23:Bool)(v24:Int)(v25 v26 v27:List Int)(v28 v29:Int)(v30:List Qak)(v31 v32:Int):Option (List Qak):=M ctx tb G 165 (v0,v1,v2,v3,v4,v5,v6,v7,v8,v9,v10,v11,v12,v13,v14,v15,v16,v17,v18,v19,v20,v21,v22,v23,v24,v25,v26,v27,v28,v29,v30,v31,v32)
def QdT (v0:Qab):Option (List Int):=M ctx tb G 166 v0
def Qeo (v0:List Int)(v1:Qab)(v2:Int):Option (List Int):=M ctx tb G 167 (v0,v1,v2)
def Qiw (v0:List Qai)(v1 v2:Int):Option (Unit⊕Unit):=M ctx tb G 168 (v0,v1,v2)
def Qlm (v0:List Int)(v1 v2:Int):Option (Unit⊕Unit):=M ctx tb G 169 (v0,v1,v2)
def Qm3 (v0:Int):Option (QAL×Bool):=M ctx tb G 170 v0
def QcQ (v0 v1:List Int):Option Bool:=M ctx tb G 171 (v0,v1)
def QcC (v0:List Bool)(v1:List Int):Option Bool:=M ctx tb G 172 (v0,v1)
def QdJ (v0:List Int)(v1 v2:List Bool)(v3 v4:Int)(v5:Qae)(v6:GFun)(v7:Qab)(v8:List Int)(v9:Int):Option (Unit⊕Unit):=M ctx tb G 173 (v0,v1,v2,v3,v4,v5,v6,v7,v8,v9)
def Qcv (v0 v1:List Int)(v2:GFun)(v3 v4:List Int)(v5 v6:Int):Option (List Int):=M ctx tb G 174 (v0,v1,v2,v3,v4,v5,v6)
def Qbc (v0 v1 v2:List Bool)(v3:List Qai)(v4:List GFun)(v5:List UInt8)(v6 v7:Int)(v8:List GVar)(v9:List Qab)(v10:Int)(v11:Bool)(v12:Qab)(v13:List Int)(v14 v15:Int):Option (Unit⊕Unit):=M ctx tb G 175 (v0,v1,v2,v3,v4,v5,v6,v7,v8,v9,v10,v11,v12,v13,v14,v15)
def QeY (v0:List GVar)(v1:List Qab)(v2 v3 v4:List Int)(v5:List GVar)(v6:List Qab)(v7:GFun)(v8:List UInt8)(v9 v10 v11:Int)(v12:Bool)(v13:List UInt8)(v14 v15:Int)(v16:List GVar)(v17:List Qab)(v18:Int)(v19:Bool)(v20:Int)(v21:Bool)(v22:List UInt8)(v23 v24 v25:Int)(v26:Bool)(v27:Int):Option (List Qab):=M ctx tb G 176 (v0,v1,v2,v3,v4,v5,v6,v7,v8,v9,v10,v11,v12,v13,v14,v15,v16,v17,v18,v19,v20,v21,v22,v23,v24,v25,v26,v27)
def Qep (v0:Qab):Option (List Int):=M ctx tb G 177 v0
def QdK (v0 v1:List Qak):Option Bool:=M ctx tb G 178 (v0,v1)
def Qdf (v0:List Int)(v1:Qab)(v2:Int):Option (List Int):=M ctx tb G 179 (v0,v1,v2)
def QbR (v0:List Int)(v1 v2 v3:List Bool)(v4:List Int)(v5:GFun)(v6:Bool)(v7:Qab)(v8:List Int)(v9 v10:Int):Option (Unit⊕Unit):=M ctx tb G 180 (v0,v1,v2,v3,v4,v5,v6,v7,v8,v9,v10)
def Qbz (v0 v1 v2 v3 v4:List Int)(v5:List UInt8)(v6 v7:Int)(v8:List GVar)(v9:List Qab)(v10:Int)(v11:Bool)(v12:Int)(v13:Bool)(v14:Qab)(v15:List Int)(v16:Int)(v17:List Int)(v18:Int):Option (List Int×List Int×Int×Bool):=M ctx tb G 181 (v0,v1,v2,v3,v4,v5,v6,v7,v8,v9,v10,v11,v12,v13,v14,v15,v16,v17,v18)
def QdU (v0 v1:List Int)(v2 v3:Int):Option (List Int):=M ctx tb G 182 (v0,v1,v2,v3)
def Qoo (v0 v1:List Int):Option (List Int):=M ctx tb G 183 (v0,v1)
def Qix (v0 v1:List Int)(v2 v3:List Qak)(v4:Qab)(v5 v6 v7 v8 v9:Int)(v10:Bool)(v11 v12 v13:Int)(v14:List Int)(v15 v16 v17:Int)(v18:List Int)(v19:Bool)(v20:Int)(v21 v22:List Int)(v23:Int):Option (List Qak):=M ctx tb G 184 (v0,v1,v2,v3,v4,v5,v6,v7,v8,v9,v10,v11,v12,v13,v14,v15,v16,v17,v18,v19,v20,v21,v22,v23)
def QbS (v0 v1 v2:List Int)(v3 v4:Int):Option (List Int):=M ctx tb G 185 (v0,v1,v2,v3,v4)
def Qeq (v0:List Int)(v1:List Qak)(v2 v3:Int):Option (List Int):=M ctx tb G 186 (v0,v1,v2,v3)
def Qm4:Option Unit:=M ctx tb G 187 ()
def QcG (v0 v1:List Int)(v2 v3:Int):Option (Unit⊕Unit):=M ctx tb G 188 (v0,v1,v2,v3)
def Qgt (v0:List Bool)(v1:List Int):Option Int:=M ctx tb G 189 (v0,v1)
def QcD (v0 v1 v2:List Bool)(v3:List Qai)(v4:List GFun)(v5:List UInt8)(v6 v7:Int)(v8:List GVar)(v9:List Qab)(v10:Int)(v11:Bool)(v12:List GVar):Option Bool:=M ctx tb G 190 (v0,v1,v2,v3,v4,v5,v6,v7,v8,v9,v10,v11,v12)
def Qer (v0:List Int)(v1 v2:List Bool)(v3 v4:Int)(v5:Qae)(v6:GFun)(v7:Qab)(v8:List Int)(v9:Int):Option (List Bool⊕List Bool):=M ctx tb G 191 (v0,v1,v2,v3,v4,v5,v6,v7,v8,v9)
def Qiy (v0:List Qak):Option (List Qak):=M ctx tb G 192 v0
def Qfj (v0:List Int)(v1:List Qak)(v2 v3:Int):Option (List Int):=M ctx tb G 193 (v0,v1,v2,v3)
def QbH (v0 v1:List Qak)(v2 v3:Int):Option (Unit⊕Unit):=M ctx tb G 194 (v0,v1,v2,v3)
def Qgu (v0 v1 v2:List Int)(v3:List UInt8)(v4 v5:Int)(v6:List GVar)(v7:List Qab)(v8:Int)(v9:Bool)(v10:Int)(v11:Bool)(v12:Int):Option (List Int×Int×Bool):=M ctx tb G 195 (v0,v1,v2,v3,v4,v5,v6,v7,v8,v9,v10,v11,v12)
def Qln (v0 v1 v2:List Int)(v3:Int):Option (List Int):=M ctx tb G 196 (v0,v1,v2,v3)
def QbI (v0:List Bool)(v1:List Int)(v2 v3:Int):Option (Unit⊕Int):=M ctx tb G 197 (v0,v1,v2,v3)
def QeZ (v0 v1:List Bool)(v2:GFun)(v3 v4 v5:Int):Option (Int⊕Unit):=M ctx tb G 198 (v0,v1,v2,v3,v4,v5)
def Qa9 (v0:List Int)(v1 v2:List Bool)(v3 v4:Int)(v5:Qae)(v6:GFun)(v7:Qab)(v8:List Int)(v9:Int):Option (List Bool⊕List Bool):=M ctx tb G 199 (v0,v1,v2,v3,v4,v5,v6,v7,v8,v9)
def Qdg (v0 v1:List Int)(v2:GFun)(v3 v4:List Int)(v5 v6:Int):Option (List Int):=M ctx tb G 200 (v0,v1,v2,v3,v4,v5,v6)
def Qbd (v0 v1 v2:List Bool)(v3:List Qai)(v4:List GFun)(v5:List UInt8)(v6 v7:Int)(v8:List GVar)(v9:List Qab)(v10:Int)(v11:Bool)(v12:Qab)(v13 v14:List Int)(v15 v16:Int):Option (Unit⊕Unit):=M ctx tb G 201 (v0,v1,v2,v3,v4,v5,v6,v7,v8,v9,v10,v11,v12,v13,v14,v15,v16)
def QbT (v0:List Int)(v1 v2 v3:List Bool)(v4:List Int)(v5:GFun)(v6:Bool)(v7:Qab)(v8:List Int)(v9 v10:Int):Option (List Int×List Bool×List Bool×List Bool×List Int×Bool⊕List Int×List Bool×List Bool×List Bool×List Int×Bool):=M ctx tb G 202 (v0,v1,v2,v3,v4,v5,v6,v7,v8,v9,v10)
def Qgv (v0 v1 v2:List Bool)(v3:List Qai)(v4:List GFun)(v5:List UInt8)(v6 v7:Int)(v8:List GVar)(v9:List Qab)(v10:Int)(v11:Bool)(v12:List GVar):Option Int:=M ctx tb G 203 (v0,v1,v2,v3,v4,v5,v6,v7,v8,v9,v10,v11,v12)
def Qct (v0 v1:List Qak)(v2 v3:Int):Option (List Qak):=M ctx tb G 204 (v0,v1,v2,v3)
def QjR (v0 v1:Qak):Option Bool:=M ctx tb G 205 (v0,v1)
def QiO (v0:List Bool)(v1:Int):Option Bool:=M ctx tb G 206 (v0,v1)
def Qes (v0:List Int)(v1 v2:List Bool)(v3 v4:Int)(v5:Qae)(v6:GFun)(v7:Qab)(v8:List Int)(v9:Int):Option (List Bool×List Bool×Int×Int⊕List Bool×List Bool×Int×Int):=M ctx tb G 207 (v0,v1,v2,v3,v4,v5,v6,v7,v8,v9)
def QaH (v0 v1 v2:List Bool)(v3:List Qai)(v4:List GFun)(v5:List UInt8)(v6 v7:Int)(v8:List GVar)(v9:List Qab)(v10:Int)(v11:Bool)(v12:Qab)(v13:Int)(v14 v15:List Int)(v16 v17:Int):Option (List Bool⊕List Bool):=M ctx tb G 208 (v0,v1,v2,v3,v4,v5,v6,v7,v8,v9,v10,v11,v12,v13,v14,v15,v16,v17)
def Qgw (v0 v1:List Bool)(v2:List Int)(v3:GFun)(v4:List Int):Option (List Bool×List Bool×List Int×Bool):=M ctx tb G 209 (v0,v1,v2,v3,v4)
def QbJ (v0 v1 v2:List Bool)(v3:List Qai)(v4:List GFun)(v5:List UInt8)(v6 v7:Int)(v8:List GVar)(v9:List Qab)(v10:Int)(v11:Bool)(v12:List GVar)(v13 v14:Int):Option (Unit⊕Int):=M ctx tb G 210 (v0,v1,v2,v3,v4,v5,v6,v7,v8,v9,v10,v11,v12,v13,v14)
def Qe0 (v0 v1:List Bool)(v2:GFun)(v3 v4 v5:Int):Option (Unit⊕Unit):=M ctx tb G 211 (v0,v1,v2,v3,v4,v5)
def Qgx (v0:Qae)(v1:GFun)(v2:Qab):Option Bool:=M ctx tb G 212 (v0,v1,v2)
def Qdh (v0 v1:List Int)(v2:GFun)(v3:List Int)(v4 v5:Int):Option (List Int):=M ctx tb G 213 (v0,v1,v2,v3,v4,v5)
def Qay (v0 v1 v2:List Bool)(v3:List Qai)(v4:List GFun)(v5:List UInt8)(v6 v7:Int)(v8:List GVar)(v9:List Qab)(v10:Int)(v11:Bool)(v12:Qab)(v13 v14:List Int)(v15 v16:Int):Option (List Bool⊕List Bool):=M ctx tb G 214 (v0,v1,v2,v3,v4,v5,v6,v7,v8,v9,v10,v11,v12,v13,v14,v15,v16)
def QbU (v0 v1:List Bool)(v2:List Int)(v3:GFun)(v4:List Int)(v5 v6:Int):Option (List Bool×List Bool×List Int⊕List Bool×List Bool×List Int):=M ctx tb G 215 (v0,v1,v2,v3,v4,v5,v6)
def Qfk (v0 v1 v2:List Bool)(v3:List Qai)(v4:List GFun)(v5:List UInt8)(v6 v7:Int)(v8:List GVar)(v9:List Qab)(v10:Int)(v11:Bool)(v12:GVar):Option Bool:=M ctx tb G 216 (v0,v1,v2,v3,v4,v5,v6,v7,v8,v9,v10,v11,v12)
def Qgy (v0:Qae)(v1:GFun)(v2:Qab):Option Bool:=M ctx tb G 217 (v0,v1,v2)
def Qbj (v0 v1 v2:List Bool)(v3:List Qai)(v4:List GFun)(v5:List UInt8)(v6 v7:Int)(v8:List GVar)(v9:List Qab)(v10:Int)(v11:Bool)(v12:Qab)(v13:List Int)(v14 v15:Int):Option (List Bool×List Bool×List Bool⊕List Bool×List Bool×List Bool×Int×Int):=M ctx tb G 218 (v0,v1,v2,v3,v4,v5,v6,v7,v8,v9,v10,v11,v12,v13,v14,v15)
def Qba (v0:GFun)(v1:Int):Option Int:=M ctx tb G 219 (v0,v1)
def Qg6 (v0:Qae)(v1:GFun)(v2:Int)(v3:List Int):Option Bool:=M ctx tb G 220 (v0,v1,v2,v3)
def Qg7 (v0:Qae)(v1:GFun)(v2 v3:Int)(v4:List Int)(v5:Int):Option Bool:=M ctx tb G 221 (v0,v1,v2,v3,v4,v5)
def QhM (v0:List Qai)(v1:Int):Option Bool:=M ctx tb G 222 (v0,v1)
def QaO (v0 v1 v2:List Bool)(v3:List Qai)(v4:List GFun)(v5:List UInt8)(v6 v7:Int)(v8:List GVar)(v9:List Qab)(v10:Int)(v11:Bool)(v12:Qab):Option Bool:=M ctx tb G 223 (v0,v1,v2,v3,v4,v5,v6,v7,v8,v9,v10,v11,v12)
def Qe5 (v0:Qae)(v1:GFun)(v2:Qab)(v3 v4:Int):Option (Unit⊕Unit):=M ctx tb G 224 (v0,v1,v2,v3,v4)
def Qdi (v0:Qae)(v1:GFun)(v2:Qab)(v3:List Int)(v4:Int):Option (Unit⊕Unit):=M ctx tb G 225 (v0,v1,v2,v3,v4)
def Qbk (v0 v1 v2:List Bool)(v3:List Qai)(v4:List GFun)(v5:List UInt8)(v6 v7:Int)(v8:List GVar)(v9:List Qab)(v10:Int)(v11:Bool)(v12:Qab)(v13:Int)(v14 v15:List Int)(v16 v17:Int)(v18:List Int)(v19 v20:Int):Option (List Bool):=M ctx tb G 226 (v0,v1,v2,v3,v4,v5,v6,v7,v8,v9,v10,v11,v12,v13,v14,v15,v16,v17,v18,v19,v20)
def Qgz (v0 v1:GFun)(v2:List Int)(v3:Int):Option (Unit⊕Unit):=M ctx tb G 227 (v0,v1,v2,v3)
def Qet (v0:Qae)(v1:GFun)(v2 v3:Int)(v4:List Int)(v5 v6:Int):Option (Unit⊕Unit):=M ctx tb G 228 (v0,v1,v2,v3,v4,v5,v6)
def Qm5 (v0:List Qai)(v1:Int):Option (List GCon):=M ctx tb G 229 (v0,v1)
def QgA (v0:List Bool)(v1:List Int):Option (List Bool):=M ctx tb G 230 (v0,v1)
def QcE (v0:List GCon):Option Bool:=M ctx tb G 231 v0
def Qaq (v0 v1 v2:List Bool)(v3:List Qai)(v4:List GFun)(v5:List UInt8)(v6 v7:Int)(v8:List GVar)(v9:List Qab)(v10:Int)(v11:Bool)(v12:Int):Option Int:=M ctx tb G 232 (v0,v1,v2,v3,v4,v5,v6,v7,v8,v9,v10,v11,v12)
def QcH (v0 v1 v2:List Bool)(v3:List Int)(v4:List Qai)(v5:List GFun)(v6:List UInt8)(v7 v8:Int)(v9:List GVar)(v10:List Qab)(v11:Int)(v12:Bool)(v13:List Int)(v14:Int):Option Bool:=M ctx tb G 233 (v0,v1,v2,v3,v4,v5,v6,v7,v8,v9,v10,v11,v12,v13,v14)
def Qbl (v0 v1 v2:List Bool)(v3:List Qai)(v4:List GFun)(v5:List UInt8)(v6 v7:Int)(v8:List GVar)(v9:List Qab)(v10:Int)(v11:Bool)(v12:Int):Option Bool:=M ctx tb G 234 (v0,v1,v2,v3,v4,v5,v6,v7,v8,v9,v10,v11,v12)
def Qca (v0 v1 v2:List Bool)(v3:List Qai)(v4:List GFun)(v5:List UInt8)(v6 v7:Int)(v8:List GVar)(v9:List Qab)(v10:Int)(v11:Bool)(v12:Int)(v13:List Int):Option Bool:=M ctx tb G 235 (v0,v1,v2,v3,v4,v5,v6,v7,v8,v9,v10,v11,v12,v13)
def Qci (v0 v1 v2:List Bool)(v3:List Qai)(v4:List GFun)(v5:List UInt8)(v6 v7:Int)(v8:List GVar)(v9:List Qab)(v10:Int)(v11:Bool)(v12 v13:Int):Option (Unit⊕List Int):=M ctx tb G 236 (v0,v1,v2,v3,v4,v5,v6,v7,v8,v9,v10,v11,v12,v13)
def Qbm (v0 v1 v2:List Bool)(v3:List Qai)(v4:List GFun)(v5:List UInt8)(v6 v7:Int)(v8:List GVar)(v9:List Qab)(v10:Int)(v11:Bool)(v12:Qab)(v13:List Int)(v14 v15:Int)(v16:List Int)(v17 v18:Int):Option (List Bool):=M ctx tb G 237 (v0,v1,v2,v3,v4,v5,v6,v7,v8,v9,v10,v11,v12,v13,v14,v15,v16,v17,v18)
def QbV (v0:List Bool)(v1:List Int)(v2 v3:Int):Option (List Bool):=M ctx tb G 238 (v0,v1,v2,v3)
def QgB (v0:List GCon):Option Int:=M ctx tb G 239 v0
def Qbe (v0 v1 v2:List Bool)(v3:List Int)(v4:List Qai)(v5:List GFun)(v6:List UInt8)(v7 v8:Int)(v9:List GVar)(v10:List Qab)(v11:Int)(v12:Bool)(v13:Int)(v14:List Int)(v15 v16:Int):Option (Unit⊕Unit):=M ctx tb G 240 (v0,v1,v2,v3,v4,v5,v6,v7,v8,v9,v10,v11,v12,v13,v14,v15,v16)
def QdL (v0 v1 v2:List Bool)(v3:List Qai)(v4:List GFun)(v5:List UInt8)(v6 v7:Int)(v8:List GVar)(v9:List Qab)(v10:Int)(v11:Bool)(v12:Int):Option (List Int×Bool):=M ctx tb G 241 (v0,v1,v2,v3,v4,v5,v6,v7,v8,v9,v10,v11,v12)
def Qbn (v0 v1 v2:List Bool)(v3:List Qai)(v4:List GFun)(v5:List UInt8)(v6 v7:Int)(v8:List GVar)(v9:List Qab)(v10:Int)(v11:Bool)(v12 v13:List Int)(v14:Int):Option Bool:=M ctx tb G 242 (v0,v1,v2,v3,v4,v5,v6,v7,v8,v9,v10,v11,v12,v13,v14)
def QaR (v0 v1 v2:List Bool)(v3:List Qai)(v4:List GFun)(v5:List UInt8)(v6 v7:Int)(v8:List GVar)(v9:List Qab)(v10:Int)(v11:Bool)(v12:Int)(v13:List Qak)(v14 v15:Int):Option (Unit⊕Unit):=M ctx tb G 243 (v0,v1,v2,v3,v4,v5,v6,v7,v8,v9,v10,v11,v12,v13,v14,v15)
def QbK (v0:List GCon)(v1 v2:Int):Option (Unit⊕Int):=M ctx tb G 244 (v0,v1,v2)
def Qa3 (v0 v1 v2:List Bool)(v3:List Int)(v4:List Qai)(v5:List GFun)(v6:List UInt8)(v7 v8:Int)(v9:List GVar)(v10:List Qab)(v11:Int)(v12:Bool)(v13:List GVar)(v14 v15:Int):Option (List Int):=M ctx tb G 245 (v0,v1,v2,v3,v4,v5,v6,v7,v8,v9,v10,v11,v12,v13,v14,v15)
def Qam (v0 v1 v2:List Bool)(v3:List Qai)(v4:List GFun)(v5:List UInt8)(v6 v7:Int)(v8:List GVar)(v9:List Qab)(v10:Int)(v11:Bool)(v12:Qab)(v13:List Int)(v14 v15:Int):Option (Unit⊕Unit):=M ctx tb G 246 (v0,v1,v2,v3,v4,v5,v6,v7,v8,v9,v10,v11,v12,v13,v14,v15)
def QaY (v0 v1 v2:List Bool)(v3:List Qai)(v4:List GFun)(v5:List UInt8)(v6 v7:Int)(v8:List GVar)(v9:List Qab)(v10:Int)(v11:Bool)(v12:List Int)(v13:Int)(v14:List Int)(v15 v16:Int):Option (Unit⊕Unit):=M ctx tb G 247 (v0,v1,v2,v3,v4,v5,v6,v7,v8,v9,v10,v11,v12,v13,v14,v15,v16)
def QnM (v0:GCon):Option Bool:=M ctx tb G 248 v0
def Qe1 (v0:Qae):Option Bool:=M ctx tb G 249 v0
def Qb2 (v0 v1:List GFun)(v2:Qae)(v3 v4:List Qai)(v5:Int):Option (Unit⊕List GFun×List GFun):=M ctx tb G 250 (v0,v1,v2,v3,v4,v5)
def Qcw (v0:GFun):Option GFun:=M ctx tb G 251 v0
def QcX (v0:List GVar)(v1 v2:List Qab)(v3:GFun)(v4:List UInt8)(v5 v6 v7:Int)(v8:Bool)(v9:List UInt8)(v10 v11:Int)(v12:List GVar)(v13:Int)(v14:Bool)(v15 v16:Int):Option (List Qab):=M ctx tb G 252 (v0,v1,v2,v3,v4,v5,v6,v7,v8,v9,v10,v11,v12,v13,v14,v15,v16)
def QcY (v0:List GVar)(v1 v2:List Qab)(v3:List Qak)(v4:GFun)(v5:List UInt8)(v6 v7 v8:Int)(v9:Bool)(v10:List UInt8)(v11 v12:Int)(v13:List GVar)(v14:Int)(v15:Bool)(v16:Qab)(v17 v18 v19:Int):Option (List Qak):=M ctx tb G 253 (v0,v1,v2,v3,v4,v5,v6,v7,v8,v9,v10,v11,v12,v13,v14,v15,v16,v17,v18,v19)
theorem QsF v0 v1:QkA v0 v1=
 (Qil).bind fun v2=>bif v2 then (QjH v0).bind fun v3=>bif v3 then (QjH v1).bind fun v4=>bif v4 then (Qcg v0 v1).bind fun v5=>(Qro v0 v1).bind fun v6=>some (v5==v6) else some true else some true else some false:=me 0
theorem Qt4 v0:QjH v0=
 (bif (decide ((12:Int)<(v0.1.length:Int))) then some true else some (decide ((6:Int)<(v0.2.length:Int)))).bind fun v1=>bif v1 then some false else (Qfd v0 v0.1 v0.1.length 0).bind fun
   |.inl _=> some false
   |.inr _=> (Qff v0.2 v0.2.length 0).bind fun
    |.inl _=> some false
    |.inr _=> some true:=me 4
theorem Qqv v0 v1:Qcg v0 v1=
 ((QeR v0).bind fun v2=>bif decide (v2=0) then (QeR v1).bind fun v3=>some (!(decide (v3=0))) else some true).bind fun v2=>bif v2 then some false else ((QeS v0.1 v1.1).bind fun v3=>bif v3 then (Qgd v0.2 v1.2).bind fun v4=>some v4 else some false).bind fun v3=>some v3:=me 5
theorem QjS v0 v1 v2 v3:Qfd v0 v1 v2 v3=
 bif decide (v3<v2) then (Sy.at' v1 v3).bind fun v4=>(bif (decide ((60:Int)<(v4.1.length:Int))) then some true else some (decide ((20:Int)<(v4.2.length:Int)))).bind fun v5=>bif v5 then some (.inl ()) else (Qfe v0 v1 v2 v3 v4.2 v4.2.length 0).bind fun
   |.inl _=> some (.inl ())
   |.inr _=> Qfd v0 v1 v2 (Ev.wr .i64 (v3+1)) else some (.inr ()):=me 6
theorem QCV v0 v1:Qro v0 v1=
 ((Qlh v0).bind fun v2=>bif decide (v2=0) then (Qlh v1).bind fun v3=>some (!(decide (v3=0))) else some true).bind fun v2=>(bif v2 then some true else (QjI v0.1 v1.1).bind fun v3=>some (!v3)).bind fun v3=>(bif v3 then some true else some (!(decide ((v0.2.length:Int)=(v1.2.length:Int))))).bind fun v4=>bif v4 then some false else (Qim v0 v1 0).bind fun
   |.inl _=> some true
   |.inr _=> some false:=me 7
theorem QsG v0:QeR v0=
 (Qli v0.1).bind fun v1=>bif decide (v1=0) then bif (decide ((128:Int)<(v0.2.length:Int))) then some (6:Int) else (Qeh v0 v0.2.length 0).bind fun
   |.inl _=> some (0:Int)
   |.inr v2=> some v2 else some v1:=me 8
theorem QjT v0 v1 v2 v3 v4 v5 v6:Qfe v0 v1 v2 v3 v4 v5 v6=
 bif decide (v6<v5) then (Sy.at' v4 v6).bind fun v7=>(bif (decide ((60:Int)<(v7.1.length:Int))) then some true else some (decide ((10:Int)<(v7.2.length:Int)))).bind fun v8=>bif v8 then some (.inl ()) else Qfe v0 v1 v2 v3 v4 v5 (Ev.wr .i64 (v6+1)) else some (.inr ()):=me 9
theorem QjU v0 v1 v2:Qff v0 v1 v2=
 bif decide (v2<v1) then (Sy.at' v0 v2).bind fun v3=>(bif (decide ((100:Int)<(v3.1.length:Int))) then some true else some (decide ((120:Int)<(v3.2.2.2.1.length:Int)))).bind fun v4=>(bif v4 then some true else some (decide ((80:Int)<(v3.2.2.2.2.1.length:Int)))).bind fun v5=>(bif v5 then some true else some (decide ((200:Int)<v3.2.1))).bind fun v6=>bif v6 then some (.inl ()) else (Qfg v0 v1 v2 v3.2.2.2.2.1 v3.2.2.2.2.1.length 0).bind fun
   |.inl _=> some (.inl ())
   |.inr _=> Qff v0 v1 (Ev.wr .i64 (v2+1)) else some (.inr ()):=me 10
theorem QkB v0 v1:QeS v0 v1=
 bif (decide ((v0.length:Int)=(v1.length:Int))) then (Qb0 v1 v0 v0.length 0).bind fun
   |.inl _=> some true
   |.inr _=> some false else some false:=me 11
theorem QBD v0:Qlh v0=
 (QpL v0.1).bind fun v1=>bif decide (v1=0) then bif (decide ((128:Int)<(v0.2.length:Int))) then some (6:Int) else (Qhi v0 0).bind fun
   |.inl _=> some (0:Int)
   |.inr v2=> some v2 else some v1:=me 12
theorem Qqw v0:Qli v0=
 (Qm1 v0).bind fun v1=>bif v1 then some (6:Int) else (QjJ v0).bind fun v2=>bif v2 then (Qlj v0).bind fun v3=>bif v3 then some (8:Int) else (Qdb v0 v0 v0.length 0).bind fun
   |.inl _=> (QjN v0).bind fun v4=>bif v4 then some (0:Int) else some (7:Int)
   |.inr _=> some (10:Int) else some (3:Int):=me 13
theorem QwT v0 v1:QjI v0 v1=
 bif (decide ((v0.length:Int)=(v1.length:Int))) then (Qei v0 v1 0).bind fun
   |.inl _=> some false
   |.inr _=> some true else some false:=me 14
theorem QiP v0 v1 v2:Qeh v0 v1 v2=
 bif decide (v2<v1) then (Qin v0 v2).bind fun ⟨v3,v4⟩=>bif decide (v4=0) then Qeh v0 v1 (Ev.wr .i64 (v2+1)) else some (.inr v4) else some (.inl ()):=me 15
theorem QjV v0 v1 v2 v3 v4 v5:Qfg v0 v1 v2 v3 v4 v5=
 bif decide (v5<v4) then (Sy.at' v3 v5).bind fun v6=>(bif (decide ((12:Int)<(v6.2.2.1.length:Int))) then some true else some (decide ((12:Int)<(v6.2.2.2.2.2.2.1.length:Int)))).bind fun v7=>(bif v7 then some true else some (decide ((20:Int)<(v6.2.2.2.2.2.2.2.2.1.length:Int)))).bind fun v8=>bif v8 then some (.inl ()) else (Qfh v0 v1 v2 v3 v4 v5 v6.2.2.2.2.2.2.2.2.1 v6.2.2.2.2.2.2.2.2.1.length 0).bind fun
   |.inl _=> some (.inl ())
   |.inr _=> Qfg v0 v1 v2 v3 v4 (Ev.wr .i64 (v5+1)) else some (.inr ()):=me 16
theorem Qeu v0 v1 v2 v3:Qb0 v0 v1 v2 v3=
 bif decide (v3<v2) then (Sy.at' v1 v3).bind fun v4=>(Sy.at' v0 v3).bind fun v5=>(Ql8 v4 v5).bind fun v6=>bif v6 then Qb0 v0 v1 v2 (Ev.wr .i64 (v3+1)) else some (.inr ()) else some (.inl ()):=me 17
theorem QBE v0:QpL v0=
 (Qrp v0).bind fun v1=>bif v1 then some (6:Int) else (QnH v0).bind fun v2=>bif v2 then (QpM v0).bind fun v3=>bif v3 then some (8:Int) else (QpO v0).bind fun v4=>bif v4 then (QnJ v0).bind fun v5=>bif v5 then some (0:Int) else some (7:Int) else some (10:Int) else some (3:Int):=me 18
theorem QsH v0:Qm1 v0=
 bif (decide ((64:Int)<(v0.length:Int))) then some true else (QfJ v0 v0.length 0).bind fun
   |.inl _=> some true
   |.inr _=> some false:=me 19
theorem QyK v0 v1 v2:Qim v0 v1 v2=
 bif (decide (v2<(v0.2.length:Int))) then (Sy.at' v0.2 v2).bind fun v3=>(QjK v3).bind fun ⟨v4,v5⟩=>(Sy.at' v1.2 v2).bind fun v6=>(QjK v6).bind fun ⟨v7,v8⟩=>(bif decide (v5=0) then some (!(decide (v8=0))) else some true).bind fun v9=>(bif v9 then some true else (Ql9 v4 v7).bind fun v10=>some (!v10)).bind fun v10=>bif v10 then some (.inr ()) else Qim v0 v1 (Ev.wr .i64 (v2+1)) else some (.inl ()):=me 20
theorem Qyj v0 v1:Qhi v0 v1=
 bif (decide (v1<(v0.2.length:Int))) then (QkP v0 v1).bind fun ⟨v2,v3⟩=>bif decide (v3=0) then Qhi v0 (Ev.wr .i64 (v1+1)) else some (.inr v3) else some (.inl ()):=me 21
theorem QpQ v0:QjJ v0=
 (bif (decide ((v0.length:Int)=(0:Int))) then some true else (Sy.at' v0 0).bind fun v1=>some (!(decide (v1.1=([66,111,111,108]:List UInt8))))).bind fun v1=>(bif v1 then some true else (Sy.at' v0 0).bind fun v2=>some (!(decide ((v2.2.length:Int)=(2:Int))))).bind fun v2=>bif v2 then some false else (Sy.at' v0 0).bind fun v3=>(Sy.at' v3.2 0).bind fun v4=>(Sy.at' v3.2 1).bind fun v5=>(bif (decide (v4.1=([70,97,108,115,101]:List UInt8))) then some (!(decide (v5.1=([84,114,117,101]:List UInt8)))) else some true).bind fun v6=>(bif v6 then some true else some (decide ((0:Int)<(Ev.wr .i64 ((v4.2.length:Int)+(v5.2.length:Int)))))).bind fun v7=>bif v7 then some false else (QcN v0 v0.length 0).bind fun
      |.inl _=> some true
      |.inr _=> some false:=me 22
theorem Qt5 v0 v1 v2:Qei v0 v1 v2=
 bif (decide (v2<(v0.length:Int))) then (Sy.at' v0 v2).bind fun v3=>(Sy.at' v1 v2).bind fun v4=>bif decide (v3.1=v4.1) then bif (decide ((v3.2.length:Int)=(v4.2.length:Int))) then (Qej v0 v1 v2 0).bind fun
   |.inl _=> some (.inl ())
   |.inr _=> Qei v0 v1 (Ev.wr .i64 (v2+1)) else some (.inl ()) else some (.inl ()) else some (.inr ()):=me 23
theorem QnX v0 v1:Qin v0 v1=
 (bif (decide (v1<(0:Int))) then some true else some (!(decide (v1<(v0.2.length:Int))))).bind fun v2=>bif v2 then some ((0:Int),(2:Int)) else (Sy.at' v0.2 v1).bind fun v3=>(QdE ([]:List (Bool)) ([]:List (Bool)) ([]:List (Bool)) v0.1 v0.2 v3.1 v3.2.1 v3.2.2.1 v3.2.2.2.1 v3.2.2.2.2.1 v3.2.2.2.2.2.1 v3.2.2.2.2.2.2 v1).bind fun v4=>bif decide (v4=0) then bif v3.2.2.2.2.2.2 then some ((0:Int),(0:Int)) else bif (decide ((v3.2.2.2.2.1.length:Int)<(0:Int))) then none else bif (decide (((v3.2.2.2.2.1.length:Int).toNat * (1:Nat))≤(140737488355328:Nat))) then bif (decide ((v3.2.2.2.1.length:Int)<(0:Int))) then none else bif (decide (((v3.2.2.2.1.length:Int).toNat * (1:Nat))≤(140737488355328:Nat))) then (Qcn (List.replicate (v3.2.2.2.2.1.length:Int).toNat false) (List.replicate (v3.2.2.2.1.length:Int).toNat false) (List.replicate (v3.2.2.2.1.length:Int).toNat false) v3 v0.1 v0.2 v3.1 v3.2.1 v3.2.2.1 v3.2.2.2.1 v3.2.2.2.2.1 v3.2.2.2.2.2.1 v3.2.2.2.2.2.2 v3.2.1 0).bind fun ⟨v5,v6⟩=>(Sy.at' (List.replicate (v3.2.2.2.2.1.length:Int).toNat false) v3.2.2.2.2.2.1).bind fun v7=>(Qb8 (List.set (List.replicate (v3.2.2.2.2.1.length:Int).toNat false) v3.2.2.2.2.2.1.toNat true) v5 v6 v0.1 v0.2 v3.1 v3.2.1 v3.2.2.1 v3.2.2.2.1 v3.2.2.2.2.1 v3.2.2.2.2.2.1 v3.2.2.2.2.2.2 v3.2.2.2.2.2.1).bind fun ⟨v8,v9,v10,v11,v12⟩=>bif decide (v12=0) then (QfL v8 (false)).bind fun v13=>bif (decide (v13<(0:Int))) then (Qcp v9 (false)).bind fun v14=>bif v14 then some ((-1:Int),(3:Int)) else some ((0:Int),(0:Int)) else some (v13,(3:Int)) else some (v11,v12) else none else none else some ((-1:Int),v4):=me 24
theorem QjW v0 v1 v2 v3 v4 v5 v6 v7 v8:Qfh v0 v1 v2 v3 v4 v5 v6 v7 v8=
 bif decide (v8<v7) then (Sy.at' v6 v8).bind fun v9=>bif (decide ((12:Int)<(v9.1.length:Int))) then some (.inl ()) else Qfh v0 v1 v2 v3 v4 v5 v6 v7 (Ev.wr .i64 (v8+1)) else some (.inr ()):=me 25
theorem QnY v0 v1:Ql8 v0 v1=
 (bif decide (v0.1=v1.1) then (QdF v0.2 v1.2).bind fun v2=>some v2 else some false).bind fun v2=>some v2:=me 26
theorem QCW v0:Qrp v0=
 bif (decide ((64:Int)<(v0.length:Int))) then some true else (Qio v0 0).bind fun
   |.inl _=> some true
   |.inr _=> some false:=me 27
theorem QiQ v0 v1 v2:QfJ v0 v1 v2=
 bif decide (v2<v1) then (Sy.at' v0 v2).bind fun v3=>(bif (decide ((16:Int)<(v3.2.length:Int))) then some true else (Qc2 v3.2).bind fun v4=>some v4).bind fun v4=>bif v4 then some (.inl ()) else QfJ v0 v1 (Ev.wr .i64 (v2+1)) else some (.inr ()):=me 28
theorem Qqx v0:Qlj v0=
 (Qdc (Sy.putD .str .bool ([]:List ((List UInt8)×(Bool))) ([73,110,116]:List UInt8) true) ([]:List ((List UInt8)×(Bool))) v0 v0.length 0).bind fun
  |.inl _=> some true
  |.inr _=> some false:=me 29
theorem QAM v0:QnH v0=
 (bif (decide ((v0.length:Int)=(0:Int))) then some true else (Sy.at' v0 0).bind fun v1=>some (!(decide (v1.1=([66,111,111,108]:List UInt8))))).bind fun v1=>(bif v1 then some true else (Sy.at' v0 0).bind fun v2=>some (!(decide ((v2.2.length:Int)=(2:Int))))).bind fun v2=>bif v2 then some false else (Sy.at' v0 0).bind fun v3=>(Sy.at' v3.2 0).bind fun v4=>(Sy.at' v3.2 1).bind fun v5=>(bif (decide (v4.1=([70,97,108,115,101]:List UInt8))) then some (!(decide (v5.1=([84,114,117,101]:List UInt8)))) else some true).bind fun v6=>(bif v6 then some true else some (decide ((0:Int)<(v4.2.length:Int)))).bind fun v7=>(bif v7 then some true else some (decide ((0:Int)<(v5.2.length:Int)))).bind fun v8=>bif v8 then some false else (Qge v0 0).bind fun
      |.inl _=> some true
      |.inr _=> some false:=me 30
theorem QAN v0:QjK v0=
 (QsC v0).bind fun ⟨v1,v2,v3,v4,v5,v6,v7,v8,v9,v10,v11,v12⟩=>bif v12 then some ((([]:List UInt8),((0:Int),((0:Int),(([]:List (GVar)),(([]:List (Qab)),((0:Int),false)))))),(3:Int)) else bif (decide (v11<(0:Int))) then none else bif (decide ((v11.toNat * (16:Nat))≤(140737488355328:Nat))) then (Qem ([]:List (GVar)) ([]:List (Qab)) v1 v2 v3 (List.replicate v11.toNat ((0:Int),false)) ([]:List (Qab)) v0 ([]:List UInt8) 0 0 0 (false) v4 v5 v6 v7 v8 v9 v10 v11 v12 v0.1 v0.2.1 v0.2.2.1 0 v0.2.2.2.2.2.2 0).bind fun v13=>(QjP ([]:List (GVar)) ([]:List (Qab)) v1 v2 v3 v13 ([]:List (Qab)) v0 ([]:List UInt8) 0 0 0 (false) v4 v5 v6 v7 v8 v9 v10 v11 v12 v0.1 v0.2.1 v0.2.2.1 0 v0.2.2.2.2.2.2 0).bind fun v14=>some ((v0.1,(v0.2.1,(v0.2.2.1,(v13,(v14,((0:Int),v0.2.2.2.2.2.2)))))),(0:Int)) else none:=me 31
theorem Qyk v0 v1:QkP v0 v1=
 (bif (decide (v1<(0:Int))) then some true else some (!(decide (v1<(v0.2.length:Int))))).bind fun v2=>bif v2 then some ((0:Int),(2:Int)) else (QnI v0 v1).bind fun v3=>bif decide (v3=0) then (Sy.at' v0.2 v1).bind fun v4=>bif v4.2.2.2.2.2.2 then some ((0:Int),(0:Int)) else bif (decide ((v4.2.2.2.2.1.length:Int)<(0:Int))) then none else bif (decide (((v4.2.2.2.2.1.length:Int).toNat * (1:Nat))≤(140737488355328:Nat))) then bif (decide ((v4.2.2.2.1.length:Int)<(0:Int))) then none else bif (decide (((v4.2.2.2.1.length:Int).toNat * (1:Nat))≤(140737488355328:Nat))) then (QeT (List.replicate (v4.2.2.2.2.1.length:Int).toNat false) (List.replicate (v4.2.2.2.1.length:Int).toNat false) ([]:List (Int)) v0 v4 0 0 0).bind fun v5=>(Sy.at' (List.replicate (v4.2.2.2.2.1.length:Int).toNat false) v4.2.2.2.2.2.1).bind fun v6=>(Qgi (List.set (List.replicate (v4.2.2.2.2.1.length:Int).toNat false) v4.2.2.2.2.2.1.toNat true) (List.replicate (v4.2.2.2.1.length:Int).toNat false) v5 0 0 v0 v4 v4.2.2.2.2.2.1).bind fun ⟨v7,v8,v9,v10⟩=>bif decide (v10=0) then (QeZ v7 v8 v4 v9 v10 0).bind fun
                 |.inl v11=> some (v11,(3:Int))
                 |.inr _=> (Qe0 v7 v8 v4 v9 v10 v4.2.1).bind fun
                  |.inl _=> some ((-1:Int),(3:Int))
                  |.inr _=> some ((0:Int),(0:Int)) else some (v9,v10) else none else none else some ((-1:Int),v3):=me 32
theorem Qg8 v0 v1 v2:QcN v0 v1 v2=
 bif decide (v2<v1) then (Sy.at' v0 v2).bind fun v3=>((Qkq v3.1).bind fun v4=>bif v4 then some (decide ((v3.2.length:Int)=(0:Int))) else some true).bind fun v4=>(bif v4 then some true else (Qcy v3.2).bind fun v5=>some v5).bind fun v5=>bif v5 then some (.inr ()) else QcN v0 v1 (Ev.wr .i64 (v2+1)) else some (.inl ()):=me 33
theorem Qt6 v0 v1 v2 v3:Qej v0 v1 v2 v3=
 (Sy.at' v0 v2).bind fun v4=>bif (decide (v3<(v4.2.length:Int))) then (Sy.at' v4.2 v3).bind fun v5=>(Sy.at' v1 v2).bind fun v6=>(Sy.at' v6.2 v3).bind fun v7=>(bif decide (v5.1=v7.1) then some (!(decide ((v5.2.length:Int)=(v7.2.length:Int)))) else some true).bind fun v8=>bif v8 then some (.inl ()) else (Qek v5 v7 v0 v1 v2 v3 0).bind fun
   |.inl _=> some (.inl ())
   |.inr _=> Qej v0 v1 v2 (Ev.wr .i64 (v3+1)) else some (.inr ()):=me 34
theorem Qi0 v0 v1 v2 v3 v4 v5 v6 v7 v8 v9 v10 v11 v12:QdE v0 v1 v2 v3 v4 v5 v6 v7 v8 v9 v10 v11 v12=
 (QpN v5).bind fun v13=>bif v13 then bif (decide (v12<(0:Int))) then none else bif (decide ((v4.length:Int)<v12)) then none else (Qa1 v0 v1 v2 v3 v4 v5 v6 v7 v8 v9 v10 v11 (v5,(v6,(v7,(v8,(v9,(v10,v11)))))) (List.take v12.toNat v4) ((List.take v12.toNat v4).length:Int) 0).bind fun
   |.inl _=> some (8:Int)
   |.inr _=> (bif (decide ((6:Int)<v6)) then some true else some (decide ((512:Int)<(v8.length:Int)))).bind fun v14=>(bif v14 then some true else some (decide ((4096:Int)<(v9.length:Int)))).bind fun v15=>bif v15 then some (6:Int) else (bif (decide (v6<(0:Int))) then some true else some (decide ((v8.length:Int)<v6))).bind fun v16=>bif v16 then some (3:Int) else (bif v11 then (bif (decide (v6<(v8.length:Int))) then some true else some (decide ((0:Int)<(v9.length:Int)))).bind fun v17=>(bif v17 then some true else some (!(decide (v10=0)))).bind fun v18=>bif v18 then some (.inl ()) else some (.inr ()) else (bif (decide (v10<(0:Int))) then some true else some (!(decide (v10<(v9.length:Int))))).bind fun v17=>bif v17 then some (.inl ()) else some (.inr ()):Option ((Unit)⊕(Unit))).bind fun
         |.inl _=> some (3:Int)
         |.inr _=> ((QdG v0 v1 v2 v3 v4 v5 v6 v7 v8 v9 v10 v11 v7).bind fun v17=>bif v17 then (QcA v0 v1 v2 v3 v4 v5 v6 v7 v8 v9 v10 v11 v8).bind fun v18=>some (.inl v18) else some (.inr ()):Option (((Bool))⊕(Unit))).bind fun
          |.inl v17=> bif v17 then some (10:Int) else (QcD v0 v1 v2 v3 v4 v5 v6 v7 v8 v9 v10 v11 v8).bind fun v18=>bif v18 then some (11:Int) else some (0:Int)
          |.inr _=> some (10:Int) else some (3:Int):=me 35
theorem Qi1 v0 v1:QdF v0 v1=
 bif (decide ((v0.length:Int)=(v1.length:Int))) then (QbB v1 v0 v0.length 0).bind fun
   |.inl _=> some true
   |.inr _=> some false else some false:=me 36
theorem QyL v0 v1:Qio v0 v1=
 bif (decide (v1<(v0.length:Int))) then (Sy.at' v0 v1).bind fun v2=>bif (decide ((16:Int)<(v2.2.length:Int))) then some (.inl ()) else (Qip v0 v1 0).bind fun
      |.inl _=> some (.inl ())
      |.inr _=> Qio v0 (Ev.wr .i64 (v1+1)) else some (.inr ()):=me 37
theorem Qiz v0:Qc2 v0=
 (QhK v0).bind fun v1=>some (!(decide (v1<(0:Int)))):=me 38
theorem Qi2 v0 v1:Qgd v0 v1=
 bif (decide ((v0.length:Int)=(v1.length:Int))) then (Qa2 v1 v0 v0.length 0).bind fun
   |.inl _=> some true
   |.inr _=> some false else some false:=me 39
theorem QhN v0 v1 v2 v3:Qdb v0 v1 v2 v3=
 bif decide (v3<v2) then (Sy.at' v1 v3).bind fun v4=>(Qe3 v0 v1 v2 v3 v4.2 v4.2.length 0).bind fun
   |.inl _=> Qdb v0 v1 v2 (Ev.wr .i64 (v3+1))
   |.inr _=> some (.inr ()) else some (.inl ()):=me 40
theorem QBF v0:QpM v0=
 (Qhj (([73,110,116]:List UInt8)::([]:List (List UInt8))) ([]:List (List UInt8)) v0 0).bind fun
  |.inl _=> some false
  |.inr _=> some true:=me 41
theorem QyM v0 v1:Ql9 v0 v1=
 (bif decide (v0.1=v1.1) then some (!(decide (v0.2.1=v1.2.1))) else some true).bind fun v2=>(bif v2 then some true else some (!(decide (v0.2.2.1=v1.2.2.1)))).bind fun v3=>(bif v3 then some true else some (!(decide (v0.2.2.2.2.2.1=v1.2.2.2.2.2.1)))).bind fun v4=>(bif v4 then some true else some (!(v0.2.2.2.2.2.2==v1.2.2.2.2.2.2))).bind fun v5=>(bif v5 then some true else some (!(decide ((v0.2.2.2.1.length:Int)=(v1.2.2.2.1.length:Int))))).bind fun v6=>(bif v6 then some true else some (!(decide ((v0.2.2.2.2.1.length:Int)=(v1.2.2.2.2.1.length:Int))))).bind fun v7=>bif v7 then some false else (Qfu v0 v1 0).bind fun
   |.inl _=> some false
   |.inr _=> (Qfv v0 v1 0).bind fun
    |.inl _=> some true
    |.inr _=> some false:=me 42
theorem QhO v0 v1 v2 v3 v4:Qdc v0 v1 v2 v3 v4=
 bif decide (v4<v3) then (Sy.at' v2 v4).bind fun v5=>bif (Sy.findD .str .bool v0 v5.1 false) then some (.inl ()) else (Qdd (Sy.putD .str .bool v0 v5.1 true) v1 v2 v3 v4 v5.2 v5.2.length 0).bind fun
   |.inl _=> some (.inl ())
   |.inr v6=> Qdc (Sy.putD .str .bool v0 v5.1 true) v6 v2 v3 (Ev.wr .i64 (v4+1)) else some (.inr ()):=me 43
theorem QwU v0 v1:Qge v0 v1=
 bif (decide (v1<(v0.length:Int))) then ((Sy.at' v0 v1).bind fun v2=>(QjL v2.1).bind fun v3=>bif v3 then some (decide ((v2.2.length:Int)=(0:Int))) else some true).bind fun v2=>bif v2 then some (.inr ()) else (Qgf v0 v1 0).bind fun
      |.inl _=> some (.inr ())
      |.inr _=> Qge v0 (Ev.wr .i64 (v1+1)) else some (.inl ()):=me 44
theorem QvF v0:QsC v0=
 (bif (decide (v0.2.1<(0:Int))) then some true else some (decide ((v0.2.2.2.1.length:Int)<v0.2.1))).bind fun v1=>bif v1 then some (([]:List (Int)),([]:List (Int)),([]:List (Int)),v0.1,v0.2.1,v0.2.2.1,v0.2.2.2.1,v0.2.2.2.2.1,v0.2.2.2.2.2.1,v0.2.2.2.2.2.2,(0:Int),true) else (QeU ([]:List (Int)) ([]:List (Int)) ([]:List (Int)) ([]:List (Int)) v0 v0.1 v0.2.1 v0.2.2.1 v0.2.2.2.1 v0.2.2.2.2.1 v0.2.2.2.2.2.1 v0.2.2.2.2.2.2 0 (false) 0).bind fun ⟨v2,v3⟩=>(Qgj ([]:List (Int)) v2 ([]:List (Int)) v3 v0 v0.1 v0.2.1 v0.2.2.1 v0.2.2.2.1 v0.2.2.2.2.1 v0.2.2.2.2.2.1 v0.2.2.2.2.2.2 v0.2.1 (false) 0).bind fun v4=>(bif v0.2.2.2.2.2.2 then some (v4,v2,([]:List (Int)),v0.2.1,false) else (Qco v4 v2 ([]:List (Int)) v3 v0.1 v0.2.1 v0.2.2.1 v0.2.2.2.1 v0.2.2.2.2.1 v0.2.2.2.2.2.1 v0.2.2.2.2.2.2 v0.2.1 (false) v0.2.2.2.2.2.1).bind fun ⟨v5,v6,v7,v8,v9⟩=>some (v5,v6,v7,v8,v9):Option (((List (Int))×(List (Int))×(List (Int))×(Int)×(Bool)))).bind fun ⟨v5,v6,v7,v8,v9⟩=>some (v5,v6,v7,v0.1,v0.2.1,v0.2.2.1,v0.2.2.2.1,v0.2.2.2.2.1,v0.2.2.2.2.2.1,v0.2.2.2.2.2.2,v8,v9):=me 45
theorem QAO v0 v1:QnI v0 v1=
 (Sy.at' v0.2 v1).bind fun v2=>(Qrq v2.1).bind fun v3=>bif v3 then (Qgg v0 v2 v1 0).bind fun
   |.inl _=> some (8:Int)
   |.inr _=> (bif (decide ((6:Int)<v2.2.1)) then some true else some (decide ((512:Int)<(v2.2.2.2.1.length:Int)))).bind fun v4=>(bif v4 then some true else some (decide ((4096:Int)<(v2.2.2.2.2.1.length:Int)))).bind fun v5=>bif v5 then some (6:Int) else (bif (decide (v2.2.1<(0:Int))) then some true else some (decide ((v2.2.2.2.1.length:Int)<v2.2.1))).bind fun v6=>bif v6 then some (3:Int) else (bif v2.2.2.2.2.2.2 then bif (decide ((v2.2.2.2.1.length:Int)=v2.2.1)) then some (.inl (decide ((0:Int)<(v2.2.2.2.2.1.length:Int)))) else some (.inl true) else some (.inr ()):Option (((Bool))⊕(Unit))).bind fun
         |.inl v7=> (bif v7 then some true else some (!(decide (v2.2.2.2.2.2.1=(0:Int))))).bind fun v8=>(bif v8 then some (.inl ()) else bif v2.2.2.2.2.2.2 then some (.inr (.inl ())) else bif (decide (v2.2.2.2.2.2.1<(0:Int))) then some (.inr (.inr true)) else some (.inr (.inr (!(decide (v2.2.2.2.2.2.1<(v2.2.2.2.2.1.length:Int)))))):Option ((Unit)⊕(Unit)⊕((Bool)))).bind fun
          |.inl _=> some (3:Int)
          | (.inr (.inl _))=>(QdS v0 v2.2.2.1).bind fun v9=>bif v9 then (Qb7 v0 v2 0).bind fun
            |.inl _=> some (10:Int)
            |.inr _=> (Qbw v0 v2 0).bind fun
             |.inl _=> some (0:Int)
             |.inr _=> some (11:Int) else some (10:Int)
          | (.inr (.inr v9))=>bif v9 then some (3:Int) else (QdS v0 v2.2.2.1).bind fun v10=>bif v10 then (Qb7 v0 v2 0).bind fun
            |.inl _=> some (10:Int)
            |.inr _=> (Qbw v0 v2 0).bind fun
             |.inl _=> some (0:Int)
             |.inr _=> some (11:Int) else some (10:Int)
         |.inr _=> (bif v2.2.2.2.2.2.2 then some (.inl ()) else bif (decide (v2.2.2.2.2.2.1<(0:Int))) then some (.inr true) else some (.inr (!(decide (v2.2.2.2.2.2.1<(v2.2.2.2.2.1.length:Int))))):Option ((Unit)⊕((Bool)))).bind fun
          |.inl _=> (QdS v0 v2.2.2.1).bind fun v7=>bif v7 then (Qb7 v0 v2 0).bind fun
            |.inl _=> some (10:Int)
            |.inr _=> (Qbw v0 v2 0).bind fun
             |.inl _=> some (0:Int)
             |.inr _=> some (11:Int) else some (10:Int)
          |.inr v7=> bif v7 then some (3:Int) else (QdS v0 v2.2.2.1).bind fun v8=>bif v8 then (Qb7 v0 v2 0).bind fun
                |.inl _=> some (10:Int)
                |.inr _=> (Qbw v0 v2 0).bind fun
                 |.inl _=> some (0:Int)
                 |.inr _=> some (11:Int) else some (10:Int) else some (3:Int):=me 46
theorem QsI v0:Qkq v0=
 (bif (decide (v0=([]:List UInt8))) then some true else some (decide ((32:Int)<(v0.length:Int)))).bind fun v1=>(bif v1 then some true else (Sy.at' (List.map (fun (b:UInt8)=>(b.toNat:Int)) v0) 0).bind fun v2=>some (decide (v2<(65:Int)))).bind fun v2=>(bif v2 then some true else (Sy.at' (List.map (fun (b:UInt8)=>(b.toNat:Int)) v0) 0).bind fun v3=>some (decide ((90:Int)<v3))).bind fun v3=>bif v3 then some false else (Qch v0 v0.length 0).bind fun
   |.inl _=> some false
   |.inr _=> some true:=me 47
theorem Qt7 v0 v1 v2 v3 v4 v5 v6:Qek v0 v1 v2 v3 v4 v5 v6=
 bif (decide (v6<(v0.2.length:Int))) then (Sy.at' v0.2 v6).bind fun v7=>(Sy.at' v1.2 v6).bind fun v8=>bif decide (v7=v8) then Qek v0 v1 v2 v3 v4 v5 (Ev.wr .i64 (v6+1)) else some (.inl ()) else some (.inr ()):=me 48
theorem Qt8 v0:QpN v0=
 (strings_Cut v0 ([46]:List UInt8)).bind fun ⟨v1,v2,v3⟩=>((Qg4 v1 97 122).bind fun v4=>bif v4 then bif v3 then (Qg4 v2 97 122).bind fun v5=>some (.inl v5) else some (.inl true) else some (.inr ()):Option (((Bool))⊕(Unit))).bind fun
  |.inl v4=> some v4
  |.inr _=> some false:=me 49
theorem Qdj v0 v1 v2 v3:QbB v0 v1 v2 v3=
 bif decide (v3<v2) then (Sy.at' v1 v3).bind fun v4=>(Sy.at' v0 v3).bind fun v5=>(QjM v4 v5).bind fun v6=>bif v6 then QbB v0 v1 v2 (Ev.wr .i64 (v3+1)) else some (.inr ()) else some (.inl ()):=me 50
theorem QyN v0 v1 v2:Qip v0 v1 v2=
 (Sy.at' v0 v1).bind fun v3=>bif (decide (v2<(v3.2.length:Int))) then (Sy.at' v3.2 v2).bind fun v4=>bif (decide ((6:Int)<(v4.2.length:Int))) then some (.inl ()) else Qip v0 v1 (Ev.wr .i64 (v2+1)) else some (.inr ()):=me 51
theorem QkC v0:QhK v0=
 (Qb1 v0 v0.length 0).bind fun
  |.inl _=> some (-1:Int)
  |.inr v1=> some v1:=me 52
theorem QBG v0:QpO v0=
 (Qhk v0 0).bind fun
  |.inl _=> some true
  |.inr _=> some false:=me 53
theorem Qux v0 v1 v2 v3 v4 v5 v6 v7:QeT v0 v1 v2 v3 v4 v5 v6 v7=
 bif decide (v7<v4.2.1) then bif (decide (((v2.length+(1:Nat)) * (8:Nat))≤(35184372088832:Nat))) then QeT v0 v1 (v2++(v7::([]:List (Int)))) v3 v4 v5 v6 (Ev.wr .i64 (v7+1)) else none else some v2:=me 54
theorem Qho v0:Qcy v0=
 (Qgh v0).bind fun v1=>some (!(decide (v1<(0:Int)))):=me 55
theorem Qdk v0 v1 v2 v3 v4 v5 v6 v7 v8 v9 v10 v11 v12 v13 v14 v15:Qa1 v0 v1 v2 v3 v4 v5 v6 v7 v8 v9 v10 v11 v12 v13 v14 v15=
 bif decide (v15<v14) then (Sy.at' v13 v15).bind fun v16=>bif decide (v16.1=v12.1) then some (.inl ()) else Qa1 v0 v1 v2 v3 v4 v5 v6 v7 v8 v9 v10 v11 v12 v13 v14 (Ev.wr .i64 (v15+1)) else some (.inr ()):=me 56
theorem Qdl v0 v1 v2 v3:Qa2 v0 v1 v2 v3=
 bif decide (v3<v2) then (Sy.at' v1 v3).bind fun v4=>(Sy.at' v0 v3).bind fun v5=>(Qma v4 v5).bind fun v6=>bif v6 then Qa2 v0 v1 v2 (Ev.wr .i64 (v3+1)) else some (.inr ()) else some (.inl ()):=me 57
theorem QhP v0 v1 v2 v3 v4 v5 v6:Qe3 v0 v1 v2 v3 v4 v5 v6=
 bif decide (v6<v5) then (Sy.at' v4 v6).bind fun v7=>(Qcz v0 v7.2).bind fun v8=>bif v8 then some (.inr ()) else Qe3 v0 v1 v2 v3 v4 v5 (Ev.wr .i64 (v6+1)) else some (.inl ()):=me 58
theorem Qyl v0 v1 v2 v3:Qhj v0 v1 v2 v3=
 bif (decide (v3<(v2.length:Int))) then (Sy.at' v2 v3).bind fun v4=>(QsD v0 v4.1).bind fun v5=>bif v5 then some (.inr ()) else bif (decide (((v0.length+(1:Nat)) * (16:Nat))≤(35184372088832:Nat))) then (Qhl (v0++(v4.1::([]:List (List UInt8)))) v1 v2 v3 0).bind fun
   |.inl _=> some (.inr ())
   |.inr v6=> Qhj (v0++(v4.1::([]:List (List UInt8)))) v6 v2 (Ev.wr .i64 (v3+1)) else none else some (.inl ()):=me 59
theorem QvG v0 v1 v2:Qfu v0 v1 v2=
 bif (decide (v2<(v0.2.2.2.1.length:Int))) then (Sy.at' v0.2.2.2.1 v2).bind fun v3=>(Sy.at' v1.2.2.2.1 v2).bind fun v4=>bif ((decide (v3.1=v4.1))&&(v3.2==v4.2)) then Qfu v0 v1 (Ev.wr .i64 (v2+1)) else some (.inl ()) else some (.inr ()):=me 60
theorem QhQ v0 v1 v2 v3 v4 v5 v6 v7:Qdd v0 v1 v2 v3 v4 v5 v6 v7=
 bif decide (v7<v6) then (Sy.at' v5 v7).bind fun v8=>bif (Sy.findD .str .bool v1 v8.1 false) then some (.inl ()) else Qdd v0 (Sy.putD .str .bool v1 v8.1 true) v2 v3 v4 v5 v6 (Ev.wr .i64 (v7+1)) else some (.inr v1):=me 61
theorem QAP v0:QjL v0=
 (QcO v0 0).bind fun
  |.inl _=> some false
  |.inr _=> (bif (decide ((v0.length:Int)<(1:Int))) then some false else some (!(decide ((32:Int)<(v0.length:Int))))).bind fun v1=>some v1:=me 62
theorem QkT v0 v1 v2 v3 v4 v5 v6 v7 v8 v9 v10 v11 v12 v13 v14:QeU v0 v1 v2 v3 v4 v5 v6 v7 v8 v9 v10 v11 v12 v13 v14=
 bif (decide (v14<(v4.2.2.2.1.length:Int))) then bif (decide (((v1.length+(1:Nat)) * (8:Nat))≤(35184372088832:Nat))) then bif decide (v14<v4.2.1) then (Sy.at' (v1++((-1:Int)::([]:List (Int)))) v14).bind fun v15=>bif (decide (((v3.length+(1:Nat)) * (8:Nat))≤(35184372088832:Nat))) then QeU v0 (List.set (v1++((-1:Int)::([]:List (Int)))) v14.toNat v14) v2 (v3++(v14::([]:List (Int)))) v4 v5 v6 v7 v8 v9 v10 v11 v12 v13 (Ev.wr .i64 (v14+1)) else none else QeU v0 (v1++((-1:Int)::([]:List (Int)))) v2 v3 v4 v5 v6 v7 v8 v9 v10 v11 v12 v13 (Ev.wr .i64 (v14+1)) else none else some (v1,v3):=me 63
theorem QCX v0:Qrq v0=
 (Qiq v0 0).bind fun
  |.inl _=> (Qkr v0 97 122).bind fun v1=>some v1
  |.inr v1=> some v1:=me 64
theorem QiR v0 v1 v2:Qch v0 v1 v2=
 bif decide (v2<v1) then (Sy.at' (List.map (fun (b:UInt8)=>(b.toNat:Int)) v0) v2).bind fun v3=>(bif (decide (v3<(97:Int))) then some false else some (!(decide ((122:Int)<v3)))).bind fun v4=>(bif v4 then some (.inl ()) else bif (decide (v3<(65:Int))) then some (.inr false) else some (.inr (!(decide ((90:Int)<v3)))):Option ((Unit)⊕((Bool)))).bind fun
   |.inl _=> Qch v0 v1 (Ev.wr .i64 (v2+1))
   |.inr v5=> (bif v5 then some (.inl ()) else bif (decide (v3<(48:Int))) then some (.inr false) else some (.inr (!(decide ((57:Int)<v3)))):Option ((Unit)⊕((Bool)))).bind fun
    |.inl _=> Qch v0 v1 (Ev.wr .i64 (v2+1))
    |.inr v6=> (bif v6 then some true else some (decide (v3=95))).bind fun v7=>bif v7 then Qch v0 v1 (Ev.wr .i64 (v2+1)) else some (.inl ()) else some (.inr ()):=me 65
theorem QpR v0 v1 v2:Qg4 v0 v1 v2=
 (bif (decide ((v0.length:Int)=(0:Int))) then some true else some (decide ((32:Int)<(v0.length:Int)))).bind fun v3=>(bif v3 then some true else (Sy.at' (List.map (fun (b:UInt8)=>(b.toNat:Int)) v0) 0).bind fun v4=>some (decide (v4<v1))).bind fun v4=>(bif v4 then some true else (Sy.at' (List.map (fun (b:UInt8)=>(b.toNat:Int)) v0) 0).bind fun v5=>some (decide (v2<v5))).bind fun v5=>bif v5 then some false else (QnG v0 ([97,98,99,100,101,102,103,104,105,106,107,108,109,110,111,112,113,114,115,116,117,118,119,120,121,122,65,66,67,68,69,70,71,72,73,74,75,76,77,78,79,80,81,82,83,84,85,86,87,88,89,90,48,49,50,51,52,53,54,55,56,57,95]:List UInt8)).bind fun v6=>some (decide (v6=([]:List UInt8))):=me 66
theorem Qmc v0 v1:QjM v0 v1=
 (bif decide (v0.1=v1.1) then (Qir v0.2 v1.2).bind fun v2=>some v2 else some false).bind fun v2=>some v2:=me 67
theorem Qev v0 v1 v2:Qb1 v0 v1 v2=
 bif decide (v2<v1) then (Sy.at' v0 v2).bind fun v3=>(QnK v3).bind fun v4=>bif v4 then some (.inr v2) else Qb1 v0 v1 (Ev.wr .i64 (v2+1)) else some (.inl ()):=me 68
theorem QpS v0:QjN v0=
 bif (decide ((Ev.wr .i64 ((v0.length:Int)+1))<(0:Int))) then none else bif (decide (((Ev.wr .i64 ((v0.length:Int)+1)).toNat * (1:Nat))≤(140737488355328:Nat))) then (Sy.at' (List.replicate (Ev.wr .i64 ((v0.length:Int)+1)).toNat false) 0).bind fun v1=>(Qel (List.set (List.replicate (Ev.wr .i64 ((v0.length:Int)+1)).toNat false) (0:Nat) true) v0 (true)).bind fun v2=>(Qcp v2 (false)).bind fun v3=>some (!v3) else none:=me 69
theorem QAQ v0:QnJ v0=
 bif (decide ((Ev.wr .i64 ((v0.length:Int)+1))<(0:Int))) then none else bif (decide (((Ev.wr .i64 ((v0.length:Int)+1)).toNat * (1:Nat))≤(140737488355328:Nat))) then (Sy.at' (List.replicate (Ev.wr .i64 ((v0.length:Int)+1)).toNat false) 0).bind fun v1=>(Qgk (List.set (List.replicate (Ev.wr .i64 ((v0.length:Int)+1)).toNat false) (0:Nat) true) v0 0).bind fun v2=>(Qgn v2 0).bind fun
      |.inl _=> some false
      |.inr _=> some true else none:=me 70
theorem QwV v0 v1 v2:Qgf v0 v1 v2=
 (Sy.at' v0 v1).bind fun v3=>bif (decide (v2<(v3.2.length:Int))) then (Sy.at' v3.2 v2).bind fun v4=>(QjL v4.1).bind fun v5=>bif v5 then Qgf v0 v1 (Ev.wr .i64 (v2+1)) else some (.inl ()) else some (.inr ()):=me 71
theorem QwW v0 v1 v2 v3:Qgg v0 v1 v2 v3=
 bif decide (v3<v2) then (Sy.at' v0.2 v3).bind fun v4=>bif decide (v4.1=v1.1) then some (.inl ()) else Qgg v0 v1 v2 (Ev.wr .i64 (v3+1)) else some (.inr ()):=me 72
theorem Qym v0 v1:Qhk v0 v1=
 bif (decide (v1<(v0.length:Int))) then (Qhm v0 v1 0).bind fun
   |.inl _=> Qhk v0 (Ev.wr .i64 (v1+1))
   |.inr _=> some (.inr ()) else some (.inl ()):=me 73
theorem Qi3 v0:Qgh v0=
 (QbC v0 v0.length 0).bind fun
  |.inl _=> some (-1:Int)
  |.inr v1=> some v1:=me 74
theorem QnZ v0 v1:Qma v0 v1=
 (Qbb v0).bind fun ⟨v2,v3⟩=>(Qbb v1).bind fun ⟨v4,v5⟩=>(Qll v2 v4).bind fun v6=>some v6:=me 75
theorem Qhp v0 v1:Qcz v0 v1=
 (Qgl v0 v1).bind fun v2=>some (!(decide (v2<(0:Int)))):=me 76
theorem QEB v0 v1:QsD v0 v1=
 (Qlk v0 v1 0).bind fun
  |.inl _=> some true
  |.inr _=> some false:=me 77
theorem QwX v0 v1:QcO v0 v1=
 bif (decide (v1<(v0.length:Int))) then (Sy.at' (List.map (fun (b:UInt8)=>(b.toNat:Int)) v0) v1).bind fun v2=>(bif (decide (v2<(65:Int))) then some false else some (!(decide ((90:Int)<v2)))).bind fun v3=>(bif v3 then some (.inl ()) else bif decide (v1=0) then some (.inr (.inl ())) else bif (decide (v2<(97:Int))) then some (.inr (.inr false)) else some (.inr (.inr (!(decide ((122:Int)<v2))))):Option ((Unit)⊕(Unit)⊕((Bool)))).bind fun
   |.inl _=> QcO v0 (Ev.wr .i64 (v1+1))
   | (.inr (.inl _))=>some (.inl ())
   | (.inr (.inr v4))=>(bif v4 then some (.inl ()) else bif (decide (v2<(48:Int))) then some (.inr false) else some (.inr (!(decide ((57:Int)<v2)))):Option ((Unit)⊕((Bool)))).bind fun
    |.inl _=> QcO v0 (Ev.wr .i64 (v1+1))
    |.inr v5=> (bif v5 then some true else some (decide (v2=95))).bind fun v6=>bif v6 then QcO v0 (Ev.wr .i64 (v1+1)) else some (.inl ()) else some (.inr ()):=me 78
theorem QyO v0 v1:Qiq v0 v1=
 bif (decide (v1<(v0.length:Int))) then (Sy.at' (List.map (fun (b:UInt8)=>(b.toNat:Int)) v0) v1).bind fun v2=>bif decide (v2=46) then (bif (decide (v1<(0:Int))) then none else bif (decide ((v0.length:Int)<v1)) then none else (Qkr (List.take (v1.toNat - (0:Nat)) (List.drop (0:Nat) v0)) 97 122).bind fun v3=>bif v3 then bif (decide ((Ev.wr .i64 (v1+1))<(0:Int))) then none else bif (decide ((v0.length:Int)<(Ev.wr .i64 (v1+1)))) then none else (Qkr (List.take (v0.length - (Ev.wr .i64 (v1+1)).toNat) (List.drop (Ev.wr .i64 (v1+1)).toNat v0)) 97 122).bind fun v4=>some v4 else some false).bind fun v3=>some (.inr v3) else Qiq v0 (Ev.wr .i64 (v1+1)) else some (.inl ()):=me 79
theorem Qn0 v0 v1:Qir v0 v1=
 bif (decide ((v0.length:Int)=(v1.length:Int))) then (Qdy v0 v1 v0.length 0).bind fun
   |.inl _=> some false
   |.inr _=> some true else some false:=me 80
theorem QpT v0:QnK v0=
 some (decide ((6:Int)<(v0.2.length:Int))):=me 81
theorem QwY v0 v1 v2 v3 v4 v5 v6 v7:Qgi v0 v1 v2 v3 v4 v5 v6 v7=
 (Sy.at' v6.2.2.2.2.1 v7).bind fun v8=>(QiN v0 v1 v2 v7 v4 v5 v6 v8).bind fun ⟨v9,v10⟩=>bif decide (v10=0) then (QhL v8).bind fun v11=>(Qer v2 v0 v9 v7 v10 v5 v6 v8 v11 0).bind fun
   |.inl v12=> some (v12,v9,v7,(3:Int))
   |.inr v12=> (Qes v2 v12 v9 v7 v10 v5 v6 v8 v11 0).bind fun
    | (.inl ⟨v13,v14,v15,v16⟩)=>some (v13,v14,v15,v16)
    | (.inr ⟨v13,v14,v15,v16⟩)=>some (v13,v14,v15,v16) else some (v0,v9,v7,v10):=me 82
theorem QeE v0 v1 v2 v3 v4 v5 v6 v7 v8 v9 v10 v11 v12:QdG v0 v1 v2 v3 v4 v5 v6 v7 v8 v9 v10 v11 v12=
 (bif (decide (v12<(0:Int))) then some false else some (!(decide ((v3.length:Int)<v12)))).bind fun v13=>some v13:=me 83
theorem QvH v0 v1 v2:Qfv v0 v1 v2=
 bif (decide (v2<(v0.2.2.2.2.1.length:Int))) then (Sy.at' v0.2.2.2.2.1 v2).bind fun v3=>(Sy.at' v1.2.2.2.2.1 v2).bind fun v4=>(QkQ v3 v4).bind fun v5=>bif v5 then Qfv v0 v1 (Ev.wr .i64 (v2+1)) else some (.inr ()) else some (.inl ()):=me 84
theorem QkU v0 v1 v2 v3 v4 v5 v6 v7 v8 v9 v10 v11 v12 v13 v14:Qgj v0 v1 v2 v3 v4 v5 v6 v7 v8 v9 v10 v11 v12 v13 v14=
 bif (decide (v14<(v4.2.2.2.2.1.length:Int))) then bif (decide (((v0.length+(1:Nat)) * (8:Nat))≤(35184372088832:Nat))) then Qgj (v0++((-1:Int)::([]:List (Int)))) v1 v2 v3 v4 v5 v6 v7 v8 v9 v10 v11 v12 v13 (Ev.wr .i64 (v14+1)) else none else some v0:=me 85
theorem Qyn v0 v1 v2 v3 v4:Qhl v0 v1 v2 v3 v4=
 (Sy.at' v2 v3).bind fun v5=>bif (decide (v4<(v5.2.length:Int))) then (Sy.at' v5.2 v4).bind fun v6=>(QsD v1 v6.1).bind fun v7=>bif v7 then some (.inl ()) else bif (decide (((v1.length+(1:Nat)) * (16:Nat))≤(35184372088832:Nat))) then Qhl v0 (v1++(v6.1::([]:List (List UInt8)))) v2 v3 (Ev.wr .i64 (v4+1)) else none else some (.inr v1):=me 86
theorem Qg9 v0 v1 v2:Qel v0 v1 v2=
 bif v2 then (Qb6 v0 v1 (false) v1.length 0).bind fun ⟨v3,v4⟩=>Qel v3 v1 v4 else some v0:=me 87
theorem QwZ v0 v1 v2:Qgk v0 v1 v2=
 bif (decide ((v1.length:Int)<v2)) then some v0 else (Qgm v0 v1 v2 0).bind fun v3=>Qgk v3 v1 (Ev.wr .i64 (v2+1)):=me 88
theorem Qyo v0 v1 v2:Qhm v0 v1 v2=
 (Sy.at' v0 v1).bind fun v3=>bif (decide (v2<(v3.2.length:Int))) then (Sy.at' v3.2 v2).bind fun v4=>(Qhn v0 v1 v2 v4.2 0).bind fun
   |.inl _=> Qhm v0 v1 (Ev.wr .i64 (v2+1))
   |.inr _=> some (.inr ()) else some (.inl ()):=me 89
theorem Qdm v0 v1 v2:QbC v0 v1 v2=
 bif decide (v2<v1) then (Sy.at' v0 v2).bind fun v3=>(QkR v3).bind fun v4=>bif v4 then some (.inr v2) else QbC v0 v1 (Ev.wr .i64 (v2+1)) else some (.inl ()):=me 90
theorem Qn1 v0:Qbb v0=
 (QfK v0).bind fun ⟨v1,v2,v3⟩=>bif v3 then bif (decide (v0.2.1<(0:Int))) then none else bif (decide ((v0.2.2.2.1.length:Int)<v0.2.1)) then none else bif (decide (((List.take v0.2.1.toNat v0.2.2.2.1).length * (16:Nat))≤(35184372088832:Nat))) then (Qcq ([]:List (GVar)) ([]:List (Qab)) (List.take v0.2.1.toNat v0.2.2.2.1) ([]:List (Qab)) v0 ([]:List UInt8) 0 0 0 (false) v0.1 v0.2.1 v0.2.2.1 0 v0.2.2.2.2.2.2 v1 v2 v2.length 0).bind fun v4=>(Qit v0).bind fun ⟨v5,v6,v7⟩=>(QaK ([]:List (GVar)) ([]:List (Qab)) v4 ([]:List (Qab)) v0 ([]:List UInt8) 0 0 0 (false) v0.1 v0.2.1 v0.2.2.1 0 v0.2.2.2.2.2.2 v5 v6 v1 v1.length 0).bind fun v8=>some ((v0.1,(v0.2.1,(v0.2.2.1,(v4,(v8,((0:Int),v0.2.2.2.2.2.2)))))),(0:Int)) else none else some ((([]:List UInt8),((0:Int),((0:Int),(([]:List (GVar)),(([]:List (Qab)),((0:Int),false)))))),(3:Int)):=me 91
theorem Qi4 v0 v1:Qgl v0 v1=
 (QbD v0 v1 v1.length 0).bind fun
  |.inl _=> some (-1:Int)
  |.inr v2=> some v2:=me 92
theorem QBH v0 v1 v2:Qlk v0 v1 v2=
 bif (decide (v2<(v0.length:Int))) then (Sy.at' v0 v2).bind fun v3=>bif decide (v3=v1) then some (.inl ()) else Qlk v0 v1 (Ev.wr .i64 (v2+1)) else some (.inr ()):=me 93
theorem QCY v0 v1 v2:Qkr v0 v1 v2=
 (bif (decide ((v0.length:Int)<(1:Int))) then some true else some (decide ((32:Int)<(v0.length:Int)))).bind fun v3=>(bif v3 then some true else (Sy.at' (List.map (fun (b:UInt8)=>(b.toNat:Int)) v0) 0).bind fun v4=>some (decide (v4<v1))).bind fun v4=>(bif v4 then some true else (Sy.at' (List.map (fun (b:UInt8)=>(b.toNat:Int)) v0) 0).bind fun v5=>some (decide (v2<v5))).bind fun v5=>bif v5 then some false else (Qis v0 0).bind fun
   |.inl _=> some true
   |.inr _=> some false:=me 94
theorem QgC v0 v1 v2 v3:Qdy v0 v1 v2 v3=
 bif decide (v3<v2) then (Sy.at' v0 v3).bind fun v4=>(Sy.at' v1 v3).bind fun v5=>bif decide (v4=v5) then Qdy v0 v1 v2 (Ev.wr .i64 (v3+1)) else some (.inl ()) else some (.inr ()):=me 95
theorem QgD v0 v1 v2 v3 v4 v5 v6 v7 v8 v9 v10 v11 v12 v13 v14:Qcn v0 v1 v2 v3 v4 v5 v6 v7 v8 v9 v10 v11 v12 v13 v14=
 bif decide (v14<v13) then (Sy.at' v1 v14).bind fun v15=>(Sy.at' v2 v14).bind fun v16=>Qcn v0 (List.set v1 v14.toNat true) (List.set v2 v14.toNat true) v3 v4 v5 v6 v7 v8 v9 v10 v11 v12 v13 (Ev.wr .i64 (v14+1)) else some (v1,v2):=me 96
theorem QAR v0 v1:QdS v0 v1=
 (bif (decide (v1<(0:Int))) then some false else some (!(decide ((v0.1.length:Int)<v1)))).bind fun v2=>some v2:=me 97
theorem Qqy v0 v1:Qll v0 v1=
 (bif decide (v0.1=v1.1) then some (decide (v0.2.1=v1.2.1)) else some false).bind fun v2=>(bif v2 then some (decide (v0.2.2.1=v1.2.2.1)) else some false).bind fun v3=>(bif v3 then some (v0.2.2.2.2.2.2==v1.2.2.2.2.2.2) else some false).bind fun v4=>(bif v4 then some (decide (v0.2.2.2.2.2.1=v1.2.2.2.2.2.1)) else some false).bind fun v5=>(bif v5 then (Qgo v0.2.2.2.1 v1.2.2.2.1).bind fun v6=>some v6 else some false).bind fun v6=>(bif v6 then (QdH v0.2.2.2.2.1 v1.2.2.2.2.1).bind fun v7=>some v7 else some false).bind fun v7=>some v7:=me 98
theorem QvI v0 v1 v2 v3 v4 v5 v6 v7:QiN v0 v1 v2 v3 v4 v5 v6 v7=
 (Qrr v7).bind fun v8=>bif v8 then (Qks v7).bind fun v9=>(QdI v2 v0 v1 v3 v4 v5 v6 v7 v9 0).bind fun
   |.inl _=> (QeX v7).bind fun v10=>(QdJ v2 v0 v1 v3 v4 v5 v6 v7 v10 0).bind fun
    |.inl _=> some (v1,(2:Int))
    |.inr _=> (bif (decide (v7.1=(6:Int))) then some true else some (decide (v7.1=(7:Int)))).bind fun v11=>(bif v11 then some true else some (decide (v7.1=(8:Int)))).bind fun v12=>(bif v12 then bif (decide (v7.2.2.2.2.2.1<(0:Int))) then some (.inl true) else some (.inl (!(decide (v7.2.2.2.2.2.1<(v5.2.length:Int))))) else some (.inr ()):Option (((Bool))⊕(Unit))).bind fun
     |.inl v13=> (bif v13 then some (.inl ()) else bif (decide (v7.1=(2:Int))) then bif (decide (v7.2.2.2.2.1<(0:Int))) then some (.inr (.inl true)) else some (.inr (.inl (decide ((7:Int)<v7.2.2.2.2.1)))) else some (.inr (.inr ())):Option ((Unit)⊕((Bool))⊕(Unit))).bind fun
      |.inl _=> some (v1,(2:Int))
      | (.inr (.inl v14))=>bif v14 then some (v1,(2:Int)) else (Qa9 v2 v0 v1 v3 v4 v5 v6 v7 v10 0).bind fun
        |.inl v15=> some (v15,(8:Int))
        |.inr v15=> (Qgx v5 v6 v7).bind fun v16=>bif v16 then (Qgy v5 v6 v7).bind fun v17=>bif v17 then some (v15,(0:Int)) else some (v15,(11:Int)) else some (v15,(10:Int))
      | (.inr (.inr _))=>(Qa9 v2 v0 v1 v3 v4 v5 v6 v7 v10 0).bind fun
       |.inl v14=> some (v14,(8:Int))
       |.inr v14=> (Qgx v5 v6 v7).bind fun v15=>bif v15 then (Qgy v5 v6 v7).bind fun v16=>bif v16 then some (v14,(0:Int)) else some (v14,(11:Int)) else some (v14,(10:Int))
     |.inr _=> (bif (decide (v7.1=(2:Int))) then bif (decide (v7.2.2.2.2.1<(0:Int))) then some (.inl true) else some (.inl (decide ((7:Int)<v7.2.2.2.2.1))) else some (.inr ()):Option (((Bool))⊕(Unit))).bind fun
      |.inl v13=> bif v13 then some (v1,(2:Int)) else (Qa9 v2 v0 v1 v3 v4 v5 v6 v7 v10 0).bind fun
        |.inl v14=> some (v14,(8:Int))
        |.inr v14=> (Qgx v5 v6 v7).bind fun v15=>bif v15 then (Qgy v5 v6 v7).bind fun v16=>bif v16 then some (v14,(0:Int)) else some (v14,(11:Int)) else some (v14,(10:Int))
      |.inr _=> (Qa9 v2 v0 v1 v3 v4 v5 v6 v7 v10 0).bind fun
       |.inl v13=> some (v13,(8:Int))
       |.inr v13=> (Qgx v5 v6 v7).bind fun v14=>bif v14 then (Qgy v5 v6 v7).bind fun v15=>bif v15 then some (v13,(0:Int)) else some (v13,(11:Int)) else some (v13,(10:Int))
   |.inr _=> some (v1,(9:Int)) else some (v1,(3:Int)):=me 99
theorem Qyp v0 v1:QkQ v0 v1=
 (bif decide (v0.1=v1.1) then some (!(decide (v0.2.1=v1.2.1))) else some true).bind fun v2=>(bif v2 then some true else some (!(decide (v0.2.2.2.1=v1.2.2.2.1)))).bind fun v3=>(bif v3 then some true else some (!(decide (v0.2.2.2.2.1=v1.2.2.2.2.1)))).bind fun v4=>(bif v4 then some true else some (!(decide (v0.2.2.2.2.2.1=v1.2.2.2.2.2.1)))).bind fun v5=>(bif v5 then some true else some (!(v0.2.2.2.2.2.2.2.1==v1.2.2.2.2.2.2.2.1))).bind fun v6=>(bif v6 then some true else some (!(decide (v0.2.2.2.2.2.2.2.2.2=v1.2.2.2.2.2.2.2.2.2)))).bind fun v7=>bif v7 then some false else ((Qe4 v0.2.2.1 v1.2.2.1).bind fun v8=>bif v8 then (Qe4 v0.2.2.2.2.2.2.1 v1.2.2.2.2.2.2.1).bind fun v9=>some (!v9) else some true).bind fun v8=>(bif v8 then some true else some (!(decide ((v0.2.2.2.2.2.2.2.2.1.length:Int)=(v1.2.2.2.2.2.2.2.2.1.length:Int))))).bind fun v9=>bif v9 then some false else (QeV v0 v1 0).bind fun
      |.inl _=> some false
      |.inr _=> some true:=me 100
theorem Qha v0 v1 v2 v3 v4:Qb6 v0 v1 v2 v3 v4=
 bif decide (v4<v3) then (Sy.at' v1 v4).bind fun v5=>(QcB v0 v5.2).bind fun v6=>(bif v6 then (Sy.at' v0 (Ev.wr .i64 (v4+1))).bind fun v7=>some (!v7) else some false).bind fun v7=>bif v7 then (Sy.at' v0 (Ev.wr .i64 (v4+1))).bind fun v8=>Qb6 (List.set v0 (Ev.wr .i64 (v4+1)).toNat true) v1 (true) v3 (Ev.wr .i64 (v4+1)) else Qb6 v0 v1 v2 v3 (Ev.wr .i64 (v4+1)) else some (v0,v2):=me 101
theorem Qw0 v0 v1 v2 v3:Qgm v0 v1 v2 v3=
 bif (decide (v3<(v1.length:Int))) then (Qgp v0 v1 v2 v3 0).bind fun v4=>Qgm v4 v1 v2 (Ev.wr .i64 (v3+1)) else some v0:=me 102
theorem Qyq v0 v1 v2 v3 v4:Qhn v0 v1 v2 v3 v4=
 bif (decide (v4<(v3.length:Int))) then (Sy.at' v3 v4).bind fun v5=>(QjO v0 v5).bind fun v6=>bif v6 then Qhn v0 v1 v2 v3 (Ev.wr .i64 (v4+1)) else some (.inr ()) else some (.inl ()):=me 103
theorem Qm6 v0:QkR v0=
 (Qkq v0.1).bind fun v1=>some (!v1):=me 104
theorem Qn2 v0:QfK v0=
 (bif (decide (v0.2.1<(0:Int))) then some true else some (decide ((v0.2.2.2.1.length:Int)<v0.2.1))).bind fun v1=>bif v1 then some (([]:List (Int)),([]:List (Int)),false) else bif v0.2.2.2.2.2.2 then some (([]:List (Int)),([]:List (Int)),true) else bif (decide ((v0.2.2.2.2.1.length:Int)<(0:Int))) then none else bif (decide (((v0.2.2.2.2.1.length:Int).toNat * (1:Nat))≤(140737488355328:Nat))) then bif (decide ((v0.2.2.2.1.length:Int)<(0:Int))) then none else bif (decide (((v0.2.2.2.1.length:Int).toNat * (1:Nat))≤(140737488355328:Nat))) then (QbM ([]:List (Int)) ([]:List (Int)) (List.replicate (v0.2.2.2.2.1.length:Int).toNat false) (List.replicate (v0.2.2.2.1.length:Int).toNat false) (List.replicate (v0.2.2.2.1.length:Int).toNat false) v0 v0.2.1 0).bind fun ⟨v2,v3⟩=>(QcP (List.replicate (v0.2.2.2.2.1.length:Int).toNat false) v0 v0.2.2.2.2.2.1).bind fun ⟨v4,v5⟩=>bif v5 then (Qb9 ([]:List (Int)) v3 v4 v2 ([]:List (Int)) v0 (true) v0.2.2.2.2.2.1).bind fun ⟨v6,v7,v8,v9,v10,v11⟩=>some (v6,v10,v11) else some (([]:List (Int)),([]:List (Int)),false) else none else none:=me 105
theorem Qdn v0 v1 v2 v3:QbD v0 v1 v2 v3=
 bif decide (v3<v2) then (Sy.at' v1 v3).bind fun v4=>(Qmb v0 v4).bind fun v5=>bif v5 then some (.inr v3) else QbD v0 v1 v2 (Ev.wr .i64 (v3+1)) else some (.inl ()):=me 106
theorem QyP v0 v1:Qis v0 v1=
 bif (decide (v1<(v0.length:Int))) then (Sy.at' (List.map (fun (b:UInt8)=>(b.toNat:Int)) v0) v1).bind fun v2=>(QnL v2).bind fun v3=>bif v3 then Qis v0 (Ev.wr .i64 (v1+1)) else some (.inr ()) else some (.inl ()):=me 107
theorem Qhq v0 v1 v2 v3 v4 v5 v6 v7 v8 v9 v10 v11 v12:QcA v0 v1 v2 v3 v4 v5 v6 v7 v8 v9 v10 v11 v12=
 (Qgq v0 v1 v2 v3 v4 v5 v6 v7 v8 v9 v10 v11 v12).bind fun v13=>some (!(decide (v13<(0:Int)))):=me 108
theorem Qlo v0 v1 v2 v3 v4 v5 v6 v7 v8 v9 v10 v11 v12 v13:Qco v0 v1 v2 v3 v4 v5 v6 v7 v8 v9 v10 v11 v12 v13=
 (bif v12 then some true else some (decide (v13<(0:Int)))).bind fun v14=>(bif v14 then some true else some (!(decide (v13<(v8.length:Int))))).bind fun v15=>(bif v15 then some true else (Sy.at' v0 v13).bind fun v16=>some (!(decide (v16<(0:Int))))).bind fun v16=>bif v16 then some (v0,v1,v2,v11,true) else (Sy.at' v0 v13).bind fun v17=>bif (decide (((v2.length+(1:Nat)) * (8:Nat))≤(35184372088832:Nat))) then (Sy.at' v8 v13).bind fun v18=>(Qks v18).bind fun v19=>(Qa8 v3 (List.set v0 v13.toNat (v2.length:Int)) v1 (v2++(v13::([]:List (Int)))) v4 v5 v6 v7 v8 v9 v10 v11 v12 v18 v19 0).bind fun v20=>(QhL v18).bind fun v21=>(Qbx v3 (List.set v0 v13.toNat (v2.length:Int)) v1 (v2++(v13::([]:List (Int)))) v4 v5 v6 v7 v8 v9 v10 v11 v20 v18 v21 0).bind fun ⟨v22,v23,v24,v25,v26⟩=>some (v22,v23,v24,v25,v26) else none:=me 109
theorem Qw1 v0 v1 v2:Qb7 v0 v1 v2=
 bif (decide (v2<(v1.2.2.2.1.length:Int))) then (Sy.at' v1.2.2.2.1 v2).bind fun v3=>(QdS v0 v3.1).bind fun v4=>bif v4 then Qb7 v0 v1 (Ev.wr .i64 (v2+1)) else some (.inl ()) else some (.inr ()):=me 110
theorem QgE v0 v1:Qcp v0 v1=
 (QfL v0 v1).bind fun v2=>some (!(decide (v2<(0:Int)))):=me 111
theorem Qw2 v0 v1:Qgn v0 v1=
 bif (decide (v1<(v0.length:Int))) then (Sy.at' v0 v1).bind fun v2=>bif v2 then Qgn v0 (Ev.wr .i64 (v1+1)) else some (.inl ()) else some (.inr ()):=me 112
theorem QgF v0 v1 v2 v3 v4 v5 v6 v7 v8 v9 v10 v11 v12 v13 v14 v15 v16 v17 v18:Qcq v0 v1 v2 v3 v4 v5 v6 v7 v8 v9 v10 v11 v12 v13 v14 v15 v16 v17 v18=
 bif decide (v18<v17) then (Sy.at' v16 v18).bind fun v19=>(Sy.at' v4.2.2.2.1 v19).bind fun v20=>bif (decide (((v2.length+(1:Nat)) * (16:Nat))≤(35184372088832:Nat))) then Qcq v0 v1 (v2++(v20::([]:List (GVar)))) v3 v4 v5 v6 v7 v8 v9 v10 v11 v12 v13 v14 v15 v16 v17 (Ev.wr .i64 (v18+1)) else none else some v2:=me 113
theorem Qmd v0 v1:Qgo v0 v1=
 bif (decide ((v0.length:Int)=(v1.length:Int))) then (QcF v0 v1 v0.length 0).bind fun
   |.inl _=> some false
   |.inr _=> some true else some false:=me 114
theorem QCZ v0:Qrr v0=
 (bif (decide (v0.1<(0:Int))) then some true else some (decide ((9:Int)<v0.1))).bind fun v1=>bif v1 then some false else (Sy.at' ((1:Int)::((0:Int)::((2:Int)::((-1:Int)::((1:Int)::((1:Int)::((-1:Int)::((-1:Int)::((-1:Int)::((1:Int)::([]:List (Int)))))))))))) v0.1).bind fun v2=>bif (decide (v2<(0:Int))) then (bif (decide (v0.1=(1:Int))) then some true else some (decide (v0.1=(2:Int)))).bind fun v3=>(bif v3 then some true else some (decide (v0.1=(3:Int)))).bind fun v4=>(bif v4 then some true else some (decide (v0.1=(4:Int)))).bind fun v5=>(bif v5 then some true else some (decide (v0.1=(6:Int)))).bind fun v6=>(bif (decide (v0.1=(6:Int))) then some true else some (decide (v0.1=(7:Int)))).bind fun v7=>(bif v7 then some true else some (decide (v0.1=(8:Int)))).bind fun v8=>(bif (decide (v0.2.1=(0:Int))) then some false else some (!v6)).bind fun v9=>(bif v9 then some (.inl ()) else bif (decide (v0.2.2.2.1=(0:Int))) then some (.inr false) else some (.inr (!(decide (v0.1=(3:Int))))):Option ((Unit)⊕((Bool)))).bind fun
      |.inl _=> some false
      |.inr v10=> (bif v10 then some (!(decide (v0.1=(8:Int)))) else some false).bind fun v11=>(bif v11 then some (.inl ()) else bif (decide (v0.2.2.2.2.1=(0:Int))) then some (.inr false) else some (.inr (!(decide (v0.1=(1:Int))))):Option ((Unit)⊕((Bool)))).bind fun
       |.inl _=> some false
       |.inr v12=> (bif v12 then some (!(decide (v0.1=(2:Int)))) else some false).bind fun v13=>(bif v13 then some (!(decide (v0.1=(8:Int)))) else some false).bind fun v14=>bif v14 then some false else (bif (decide (v0.2.2.2.2.2.1=(0:Int))) then some false else some (!v8)).bind fun v15=>(bif v15 then some (.inl ()) else bif (decide ((0:Int)<(v0.2.2.2.2.2.2.1.length:Int))) then some (.inr (!(decide (v0.1=(8:Int))))) else some (.inr false):Option ((Unit)⊕((Bool)))).bind fun
         |.inl _=> some false
         |.inr v16=> (bif v16 then some (.inl ()) else bif v0.2.2.2.2.2.2.2.1 then some (.inr (!(decide (v0.1=(9:Int))))) else some (.inr false):Option ((Unit)⊕((Bool)))).bind fun
          |.inl _=> some false
          |.inr v17=> (bif v17 then some (.inl ()) else bif (decide ((0:Int)<(v0.2.2.2.2.2.2.2.2.1.length:Int))) then some (.inr (!(decide (v0.1=(9:Int))))) else some (.inr false):Option ((Unit)⊕((Bool)))).bind fun
           |.inl _=> some false
           |.inr v18=> bif v18 then some false else (bif (decide (v0.2.2.2.2.2.2.2.2.2=(0:Int))) then some true else some v6).bind fun v19=>(bif v19 then some true else some (decide (v0.1=(5:Int)))).bind fun v20=>some v20 else bif (decide ((v0.2.2.1.length:Int)=v2)) then (bif (decide (v0.1=(1:Int))) then some true else some (decide (v0.1=(2:Int)))).bind fun v3=>(bif v3 then some true else some (decide (v0.1=(3:Int)))).bind fun v4=>(bif v4 then some true else some (decide (v0.1=(4:Int)))).bind fun v5=>(bif v5 then some true else some (decide (v0.1=(6:Int)))).bind fun v6=>(bif (decide (v0.1=(6:Int))) then some true else some (decide (v0.1=(7:Int)))).bind fun v7=>(bif v7 then some true else some (decide (v0.1=(8:Int)))).bind fun v8=>(bif (decide (v0.2.1=(0:Int))) then some false else some (!v6)).bind fun v9=>(bif v9 then some (.inl ()) else bif (decide (v0.2.2.2.1=(0:Int))) then some (.inr false) else some (.inr (!(decide (v0.1=(3:Int))))):Option ((Unit)⊕((Bool)))).bind fun
       |.inl _=> some false
       |.inr v10=> (bif v10 then some (!(decide (v0.1=(8:Int)))) else some false).bind fun v11=>(bif v11 then some (.inl ()) else bif (decide (v0.2.2.2.2.1=(0:Int))) then some (.inr false) else some (.inr (!(decide (v0.1=(1:Int))))):Option ((Unit)⊕((Bool)))).bind fun
        |.inl _=> some false
        |.inr v12=> (bif v12 then some (!(decide (v0.1=(2:Int)))) else some false).bind fun v13=>(bif v13 then some (!(decide (v0.1=(8:Int)))) else some false).bind fun v14=>bif v14 then some false else (bif (decide (v0.2.2.2.2.2.1=(0:Int))) then some false else some (!v8)).bind fun v15=>(bif v15 then some (.inl ()) else bif (decide ((0:Int)<(v0.2.2.2.2.2.2.1.length:Int))) then some (.inr (!(decide (v0.1=(8:Int))))) else some (.inr false):Option ((Unit)⊕((Bool)))).bind fun
          |.inl _=> some false
          |.inr v16=> (bif v16 then some (.inl ()) else bif v0.2.2.2.2.2.2.2.1 then some (.inr (!(decide (v0.1=(9:Int))))) else some (.inr false):Option ((Unit)⊕((Bool)))).bind fun
           |.inl _=> some false
           |.inr v17=> (bif v17 then some (.inl ()) else bif (decide ((0:Int)<(v0.2.2.2.2.2.2.2.2.1.length:Int))) then some (.inr (!(decide (v0.1=(9:Int))))) else some (.inr false):Option ((Unit)⊕((Bool)))).bind fun
            |.inl _=> some false
            |.inr v18=> bif v18 then some false else (bif (decide (v0.2.2.2.2.2.2.2.2.2=(0:Int))) then some true else some v6).bind fun v19=>(bif v19 then some true else some (decide (v0.1=(5:Int)))).bind fun v20=>some v20 else some false:=me 115
theorem Qyr v0 v1:Qe4 v0 v1=
 bif (decide ((v0.length:Int)=(v1.length:Int))) then (QeW v0 v1 0).bind fun
   |.inl _=> some false
   |.inr _=> some true else some false:=me 116
theorem Qhr v0 v1:QcB v0 v1=
 (Qgr v0 v1).bind fun v2=>some (!(decide (v2<(0:Int)))):=me 117
theorem Qw3 v0 v1 v2 v3 v4:Qgp v0 v1 v2 v3 v4=
 (Sy.at' v1 v3).bind fun v5=>bif (decide (v4<(v5.2.length:Int))) then (Sy.at' v5.2 v4).bind fun v6=>(Qgs v0 v1 v2 v3 v4 (true) v6.2 0).bind fun v7=>((Sy.at' v0 (Ev.wr .i64 (v3+1))).bind fun v8=>bif v8 then some true else some v7).bind fun v8=>(Sy.at' v0 (Ev.wr .i64 (v3+1))).bind fun v9=>Qgp (List.set v0 (Ev.wr .i64 (v3+1)).toNat v8) v1 v2 v3 (Ev.wr .i64 (v4+1)) else some v0:=me 118
theorem QAS v0 v1:QjO v0 v1=
 (bif (decide (v1<(0:Int))) then some false else some (!(decide ((v0.length:Int)<v1)))).bind fun v2=>some v2:=me 119
theorem QgG v0 v1 v2 v3 v4 v5 v6 v7:QbM v0 v1 v2 v3 v4 v5 v6 v7=
 bif decide (v7<v6) then (Sy.at' v3 v7).bind fun v8=>(Sy.at' v4 v7).bind fun v9=>QbM v0 v1 v2 (List.set v3 v7.toNat true) (List.set v4 v7.toNat true) v5 v6 (Ev.wr .i64 (v7+1)) else some (v3,v4):=me 120
theorem Qn3 v0 v1:Qmb v0 v1=
 (Qg5 v0 v1).bind fun v2=>some (!v2):=me 121
theorem QAT v0:QnL v0=
 (bif (decide (v0<(97:Int))) then some false else some (!(decide ((122:Int)<v0)))).bind fun v1=>(bif v1 then some (.inl ()) else bif (decide (v0<(65:Int))) then some (.inr false) else some (.inr (!(decide ((90:Int)<v0)))):Option ((Unit)⊕((Bool)))).bind fun
  |.inl _=> some true
  |.inr v2=> (bif v2 then some (.inl ()) else bif (decide (v0<(48:Int))) then some (.inr false) else some (.inr (!(decide ((57:Int)<v0)))):Option ((Unit)⊕((Bool)))).bind fun
   |.inl _=> some true
   |.inr v3=> (bif v3 then some true else some (decide (v0=95))).bind fun v4=>some v4:=me 122
theorem QkD v0 v1 v2 v3 v4 v5 v6 v7 v8 v9 v10 v11 v12:Qb8 v0 v1 v2 v3 v4 v5 v6 v7 v8 v9 v10 v11 v12=
 (Sy.at' v9 v12).bind fun v13=>(Qen v0 v1 v2 v3 v4 v5 v6 v7 v8 v9 v10 v11 v13).bind fun ⟨v14,v15⟩=>bif decide (v15=0) then (Qep v13).bind fun v16=>(QaH v0 v14 v2 v3 v4 v5 v6 v7 v8 v9 v10 v11 v13 v12 v16 v16 v16.length 0).bind fun
   |.inl v17=> some (v17,v14,v2,v12,(3:Int))
   |.inr v17=> (Qbj v17 v14 v2 v3 v4 v5 v6 v7 v8 v9 v10 v11 v13 v16 v16.length 0).bind fun
    | (.inl ⟨v18,v19,v20⟩)=>some (v18,v19,v20,(0:Int),(0:Int))
    | (.inr ⟨v18,v19,v20,v21,v22⟩)=>some (v18,v19,v20,v21,v22) else some (v0,v14,v2,v12,v15):=me 123
theorem Qw4 v0 v1 v2 v3 v4 v5 v6 v7 v8 v9 v10 v11 v12 v13 v14 v15 v16 v17 v18 v19 v20 v21 v22 v23 v24 v25 v26 v27:Qem v0 v1 v2 v3 v4 v5 v6 v7 v8 v9 v10 v11 v12 v13 v14 v15 v16 v17 v18 v19 v20 v21 v22 v23 v24 v25 v26 v27=
 bif (decide (v27<(v7.2.2.2.1.length:Int))) then (Sy.at' v3 v27).bind fun v28=>bif (decide (v28<(0:Int))) then Qem v0 v1 v2 v3 v4 v5 v6 v7 v8 v9 v10 v11 v12 v13 v14 v15 v16 v17 v18 v19 v20 v21 v22 v23 v24 v25 v26 (Ev.wr .i64 (v27+1)) else (Sy.at' v7.2.2.2.1 v27).bind fun v29=>(Sy.at' v5 v28).bind fun v30=>Qem v0 v1 v2 v3 v4 (List.set v5 v28.toNat v29) v6 v7 v8 v9 v10 v11 v12 v13 v14 v15 v16 v17 v18 v19 v20 v21 v22 v23 v24 v25 v26 (Ev.wr .i64 (v27+1)) else some v5:=me 124
theorem Qi5 v0 v1:QdH v0 v1=
 bif (decide ((v0.length:Int)=(v1.length:Int))) then (QbE v1 v0 v0.length 0).bind fun
   |.inl _=> some true
   |.inr _=> some false else some false:=me 125
theorem QsJ v0:Qks v0=
 (bif (decide (v0.1<(0:Int))) then some true else some (decide ((9:Int)<v0.1))).bind fun v1=>(bif v1 then some true else some (decide (v0.1=(1:Int)))).bind fun v2=>bif v2 then some ([]:List (Int)) else (QcV ([]:List (Int)) v0 0).bind fun v3=>(bif (decide (v0.1=(8:Int))) then (QcW v3 v0 0).bind fun v4=>some v4 else some v3:Option (((List (Int))))).bind fun v4=>some v4:=me 126
theorem Quy v0 v1 v2:QeV v0 v1 v2=
 bif (decide (v2<(v0.2.2.2.2.2.2.2.2.1.length:Int))) then (Sy.at' v0.2.2.2.2.2.2.2.2.1 v2).bind fun v3=>(Sy.at' v1.2.2.2.2.2.2.2.2.1 v2).bind fun v4=>bif decide (v3.2=v4.2) then (Qe4 v3.1 v4.1).bind fun v5=>bif v5 then QeV v0 v1 (Ev.wr .i64 (v2+1)) else some (.inl ()) else some (.inl ()) else some (.inr ()):=me 127
theorem Qi6 v0 v1 v2 v3 v4 v5 v6 v7 v8 v9 v10 v11 v12:Qgq v0 v1 v2 v3 v4 v5 v6 v7 v8 v9 v10 v11 v12=
 (QbF v0 v1 v2 v3 v4 v5 v6 v7 v8 v9 v10 v11 v12 v12.length 0).bind fun
  |.inl _=> some (-1:Int)
  |.inr v13=> some v13:=me 128
theorem QeF v0 v1 v2 v3 v4 v5 v6 v7 v8 v9 v10 v11 v12 v13 v14 v15:Qa8 v0 v1 v2 v3 v4 v5 v6 v7 v8 v9 v10 v11 v12 v13 v14 v15=
 bif (decide (v15<(v14.length:Int))) then (Sy.at' v14 v15).bind fun v16=>(QsE v0 v16).bind fun v17=>bif v17 then Qa8 v0 v1 v2 v3 v4 v5 v6 v7 v8 v9 v10 v11 v12 v13 v14 (Ev.wr .i64 (v15+1)) else Qa8 v0 v1 v2 v3 v4 v5 v6 v7 v8 v9 v10 v11 (true) v13 v14 (Ev.wr .i64 (v15+1)) else some v12:=me 129
theorem QiS v0 v1:QfL v0 v1=
 (Qcr v0 v1 v0.length 0).bind fun
  |.inl v2=> some v2
  |.inr _=> some (-1:Int):=me 130
theorem Qfl v0 v1 v2 v3:QcF v0 v1 v2 v3=
 bif decide (v3<v2) then (Sy.at' v0 v3).bind fun v4=>(Sy.at' v1 v3).bind fun v5=>bif ((decide (v4.1=v5.1))&&(v4.2==v5.2)) then QcF v0 v1 v2 (Ev.wr .i64 (v3+1)) else some (.inl ()) else some (.inr ()):=me 131
theorem Quz v0 v1 v2:QeW v0 v1 v2=
 bif (decide (v2<(v0.length:Int))) then (Sy.at' v0 v2).bind fun v3=>(Sy.at' v1 v2).bind fun v4=>bif decide (v3=v4) then QeW v0 v1 (Ev.wr .i64 (v2+1)) else some (.inl ()) else some (.inr ()):=me 132
theorem Qi7 v0 v1:Qgr v0 v1=
 (QbG v0 v1 v1.length 0).bind fun
  |.inl _=> some (-1:Int)
  |.inr v2=> some v2:=me 133
theorem Qw5 v0 v1 v2 v3 v4 v5 v6 v7:Qgs v0 v1 v2 v3 v4 v5 v6 v7=
 bif (decide (v7<(v6.length:Int))) then (bif v5 then (Sy.at' v6 v7).bind fun v8=>(Sy.at' v0 v8).bind fun v9=>some (true,v9) else some (false,false):Option (((Bool)×(Bool)))).bind fun ⟨v8,v9⟩=>Qgs v0 v1 v2 v3 v4 v9 v6 (Ev.wr .i64 (v7+1)) else some v5:=me 134
theorem QpU v0 v1:Qg5 v0 v1=
 (bif (decide (v1<(0:Int))) then some false else some (!(decide ((v0.length:Int)<v1)))).bind fun v2=>some v2:=me 135
theorem Qw6 v0 v1 v2:Qbw v0 v1 v2=
 bif (decide (v2<(v1.2.2.2.1.length:Int))) then (Sy.at' v1.2.2.2.1 v2).bind fun v3=>bif v3.2 then (QfQ v0.1 v3.1).bind fun v4=>bif v4 then some (.inr ()) else Qbw v0 v1 (Ev.wr .i64 (v2+1)) else Qbw v0 v1 (Ev.wr .i64 (v2+1)) else some (.inl ()):=me 136
theorem Qqz v0:Qit v0=
 (QfK v0).bind fun ⟨v1,v2,v3⟩=>bif v3 then bif (decide ((v0.2.2.2.2.1.length:Int)<(0:Int))) then none else bif (decide (((v0.2.2.2.2.1.length:Int).toNat * (8:Nat))≤(140737488355328:Nat))) then bif (decide ((v0.2.2.2.1.length:Int)<(0:Int))) then none else bif (decide (((v0.2.2.2.1.length:Int).toNat * (8:Nat))≤(140737488355328:Nat))) then (Qde (List.replicate (v0.2.2.2.2.1.length:Int).toNat (0:Int)) (List.replicate (v0.2.2.2.1.length:Int).toNat (0:Int)) v0 v1 v2 ((List.replicate (v0.2.2.2.2.1.length:Int).toNat (0:Int)).length:Int) 0).bind fun v4=>(Qcv v4 (List.replicate (v0.2.2.2.1.length:Int).toNat (0:Int)) v0 v1 v2 ((List.replicate (v0.2.2.2.1.length:Int).toNat (0:Int)).length:Int) 0).bind fun v5=>(Qdg v4 v5 v0 v2 v1 v1.length 0).bind fun v6=>(Qdh v6 v5 v0 v2 v2.length 0).bind fun v7=>some (v6,v7,(0:Int)) else none else none else some (([]:List (Int)),([]:List (Int)),(3:Int)):=me 137
theorem QsW v0 v1 v2 v3 v4 v5 v6 v7 v8 v9:QdI v0 v1 v2 v3 v4 v5 v6 v7 v8 v9=
 bif (decide (v9<(v8.length:Int))) then (Sy.at' v8 v9).bind fun v10=>(QwS v0 v10).bind fun v11=>bif v11 then QdI v0 v1 v2 v3 v4 v5 v6 v7 v8 (Ev.wr .i64 (v9+1)) else some (.inr ()) else some (.inl ()):=me 138
theorem Qme v0 v1 v2:QcP v0 v1 v2=
 (bif (decide (v2<(0:Int))) then some true else some (!(decide (v2<(v1.2.2.2.2.1.length:Int))))).bind fun v3=>(bif v3 then some true else (Sy.at' v0 v2).bind fun v4=>some v4).bind fun v4=>bif v4 then some (v0,false) else (Sy.at' v0 v2).bind fun v5=>some ((List.set v0 v2.toNat true),true):=me 139
theorem QjX v0 v1 v2 v3 v4 v5 v6 v7 v8 v9 v10 v11 v12:Qen v0 v1 v2 v3 v4 v5 v6 v7 v8 v9 v10 v11 v12=
 (QpP v12).bind fun v13=>bif v13 then (QjQ v12).bind fun v14=>(Qbc v0 v1 v2 v3 v4 v5 v6 v7 v8 v9 v10 v11 v12 v14 v14.length 0).bind fun
   |.inl _=> some (v1,(9:Int))
   |.inr _=> (QdT v12).bind fun v15=>(Qbd v0 v1 v2 v3 v4 v5 v6 v7 v8 v9 v10 v11 v12 v15 v15 v15.length 0).bind fun
    |.inl _=> some (v1,(2:Int))
    |.inr _=> (Qm4).bind fun _=>(Sy.at' (((1:Int),(false,(false,(false,(false,(false,(false,(false,false))))))))::(((0:Int),(true,(false,(true,(false,(false,(false,(true,false))))))))::(((2:Int),(true,(false,(true,(false,(false,(false,(true,false))))))))::(((-1:Int),(true,(true,(false,(false,(false,(false,(true,false))))))))::(((1:Int),(true,(false,(false,(false,(false,(false,(true,false))))))))::(((1:Int),(false,(false,(false,(false,(false,(false,(true,false))))))))::(((-1:Int),(true,(false,(false,(true,(false,(false,(true,false))))))))::(((-1:Int),(false,(false,(false,(true,(false,(false,(false,false))))))))::(((-1:Int),(false,(true,(true,(true,(true,(false,(false,false))))))))::(((1:Int),(false,(false,(false,(false,(false,(true,(false,true))))))))::([]:List (QAL)))))))))))) v12.1).bind fun v16=>bif v16.2.2.2.2.1 then bif (decide (v12.2.2.2.2.2.1<(0:Int))) then some (v1,(2:Int)) else bif (decide (v12.2.2.2.2.2.1<(v4.length:Int))) then bif (decide (v12.1=(2:Int))) then bif (decide (v12.2.2.2.2.1<(0:Int))) then some (v1,(2:Int)) else bif (decide (v12.2.2.2.2.1<(8:Int))) then (Qay v0 v1 v2 v3 v4 v5 v6 v7 v8 v9 v10 v11 v12 v15 v15 v15.length 0).bind fun
               |.inl v17=> some (v17,(8:Int))
               |.inr v17=> (QaO v0 v17 v2 v3 v4 v5 v6 v7 v8 v9 v10 v11 v12).bind fun v18=>bif v18 then (Qam v0 v17 v2 v3 v4 v5 v6 v7 v8 v9 v10 v11 v12 v15 v15.length 0).bind fun
                 |.inl _=> some (v17,(11:Int))
                 |.inr _=> some (v17,(0:Int)) else some (v17,(10:Int)) else some (v1,(2:Int)) else (Qay v0 v1 v2 v3 v4 v5 v6 v7 v8 v9 v10 v11 v12 v15 v15 v15.length 0).bind fun
              |.inl v17=> some (v17,(8:Int))
              |.inr v17=> (QaO v0 v17 v2 v3 v4 v5 v6 v7 v8 v9 v10 v11 v12).bind fun v18=>bif v18 then (Qam v0 v17 v2 v3 v4 v5 v6 v7 v8 v9 v10 v11 v12 v15 v15.length 0).bind fun
                |.inl _=> some (v17,(11:Int))
                |.inr _=> some (v17,(0:Int)) else some (v17,(10:Int)) else some (v1,(2:Int)) else bif (decide (v12.1=(2:Int))) then bif (decide (v12.2.2.2.2.1<(0:Int))) then some (v1,(2:Int)) else bif (decide (v12.2.2.2.2.1<(8:Int))) then (Qay v0 v1 v2 v3 v4 v5 v6 v7 v8 v9 v10 v11 v12 v15 v15 v15.length 0).bind fun
              |.inl v17=> some (v17,(8:Int))
              |.inr v17=> (QaO v0 v17 v2 v3 v4 v5 v6 v7 v8 v9 v10 v11 v12).bind fun v18=>bif v18 then (Qam v0 v17 v2 v3 v4 v5 v6 v7 v8 v9 v10 v11 v12 v15 v15.length 0).bind fun
                |.inl _=> some (v17,(11:Int))
                |.inr _=> some (v17,(0:Int)) else some (v17,(10:Int)) else some (v1,(2:Int)) else (Qay v0 v1 v2 v3 v4 v5 v6 v7 v8 v9 v10 v11 v12 v15 v15 v15.length 0).bind fun
          |.inl v17=> some (v17,(8:Int))
          |.inr v17=> (QaO v0 v17 v2 v3 v4 v5 v6 v7 v8 v9 v10 v11 v12).bind fun v18=>bif v18 then (Qam v0 v17 v2 v3 v4 v5 v6 v7 v8 v9 v10 v11 v12 v15 v15.length 0).bind fun
            |.inl _=> some (v17,(11:Int))
            |.inr _=> some (v17,(0:Int)) else some (v17,(10:Int)) else some (v1,(3:Int)):=me 140
theorem Qdo v0 v1 v2 v3:QbE v0 v1 v2 v3=
 bif decide (v3<v2) then (Sy.at' v1 v3).bind fun v4=>(Sy.at' v0 v3).bind fun v5=>(Qiu v4 v5).bind fun v6=>bif v6 then QbE v0 v1 v2 (Ev.wr .i64 (v3+1)) else some (.inr ()) else some (.inl ()):=me 141
theorem QiT v0 v1 v2:QcV v0 v1 v2=
 bif (decide (v2<(v1.2.2.1.length:Int))) then (bif (decide (v1.1=(8:Int))) then (Sy.at' v1.2.2.1 v2).bind fun v3=>some (!(decide (v3<(0:Int)))) else some true).bind fun v3=>bif v3 then (Sy.at' v1.2.2.1 v2).bind fun v4=>bif (decide (((v0.length+(1:Nat)) * (8:Nat))≤(35184372088832:Nat))) then QcV (v0++(v4::([]:List (Int)))) v1 (Ev.wr .i64 (v2+1)) else none else QcV v0 v1 (Ev.wr .i64 (v2+1)) else some v0:=me 142
theorem Qdp v0 v1 v2 v3 v4 v5 v6 v7 v8 v9 v10 v11 v12 v13 v14:QbF v0 v1 v2 v3 v4 v5 v6 v7 v8 v9 v10 v11 v12 v13 v14=
 bif decide (v14<v13) then (Sy.at' v12 v14).bind fun v15=>(Qfi v0 v1 v2 v3 v4 v5 v6 v7 v8 v9 v10 v11 v15).bind fun v16=>bif v16 then some (.inr v14) else QbF v0 v1 v2 v3 v4 v5 v6 v7 v8 v9 v10 v11 v12 v13 (Ev.wr .i64 (v14+1)) else some (.inl ()):=me 143
theorem QvJ v0 v1:QsE v0 v1=
 (Qiv v0 v1 0).bind fun
  |.inl _=> some true
  |.inr _=> some false:=me 144
theorem Qcj v0 v1 v2 v3:Qcr v0 v1 v2 v3=
 bif decide (v3<v2) then (Sy.at' v0 v3).bind fun v4=>bif (v1==v4) then some (.inl v3) else Qcr v0 v1 v2 (Ev.wr .i64 (v3+1)) else some (.inr ()):=me 145
theorem Qdq v0 v1 v2 v3:QbG v0 v1 v2 v3=
 bif decide (v3<v2) then (Sy.at' v1 v3).bind fun v4=>(QkS v0 v4).bind fun v5=>bif v5 then some (.inr v3) else QbG v0 v1 v2 (Ev.wr .i64 (v3+1)) else some (.inl ()):=me 146
theorem Qw7 v0 v1 v2 v3 v4 v5 v6 v7 v8 v9 v10 v11 v12 v13 v14 v15 v16 v17 v18 v19 v20 v21 v22 v23 v24 v25 v26 v27:QjP v0 v1 v2 v3 v4 v5 v6 v7 v8 v9 v10 v11 v12 v13 v14 v15 v16 v17 v18 v19 v20 v21 v22 v23 v24 v25 v26 v27=
 bif (decide (v27<(v4.length:Int))) then (Sy.at' v4 v27).bind fun v28=>(Sy.at' v7.2.2.2.2.1 v28).bind fun v29=>(Qm2 v29 v2 v3).bind fun v30=>bif (decide (((v6.length+(1:Nat)) * (128:Nat))≤(35184372088832:Nat))) then (QeY v0 v1 v2 v3 v4 v5 (v6++(v30::([]:List (Qab)))) v7 v8 v9 v10 v11 v12 v13 v14 v15 v16 v17 v18 v19 v20 v21 v22 v23 v24 v25 v26 (Ev.wr .i64 (v27+1))).bind fun v31=>some v31 else none else some v6:=me 147
theorem QgH v0 v1 v2 v3 v4 v5 v6 v7 v8 v9 v10 v11 v12 v13 v14 v15 v16 v17 v18 v19:QaK v0 v1 v2 v3 v4 v5 v6 v7 v8 v9 v10 v11 v12 v13 v14 v15 v16 v17 v18 v19=
 bif decide (v19<v18) then (Sy.at' v17 v19).bind fun v20=>(Sy.at' v4.2.2.2.2.1 v20).bind fun v21=>((bif (decide (v21.1<(0:Int))) then some false else some (!(decide ((9:Int)<v21.1)))).bind fun v22=>(bif v22 then some (!(decide (v21.1=(1:Int)))) else some false).bind fun v23=>bif v23 then (Qby v16 v21.2.2.1).bind fun v24=>(Qby v16 v21.2.2.2.2.2.2.1).bind fun v25=>some (v21.1,(v21.2.1,(v24,(v21.2.2.2.1,(v21.2.2.2.2.1,(v21.2.2.2.2.2.1,(v25,v21.2.2.2.2.2.2.2))))))) else some v21:Option Qab).bind fun v22=>((bif (decide (v22.1=(9:Int))) then some false else (QdT v22).bind fun v23=>some (decide ((0:Int)<(v23.length:Int)))).bind fun v23=>bif v23 then (Sy.at' v16 v22.2.1).bind fun v24=>some (v22.1,(v24,v22.2.2)) else some v22:Option Qab).bind fun v23=>((bif (decide (v23.1=(9:Int))) then some false else (Qep v23).bind fun v24=>some (decide ((0:Int)<(v24.length:Int)))).bind fun v24=>bif v24 then (Sy.at' v15 v23.2.2.2.2.2.2.2.2.2).bind fun v25=>some (v23.1,(v23.2.1,(v23.2.2.1,(v23.2.2.2.1,(v23.2.2.2.2.1,(v23.2.2.2.2.2.1,(v23.2.2.2.2.2.2.1,(v23.2.2.2.2.2.2.2.1,(v23.2.2.2.2.2.2.2.2.1,v25))))))))) else some v23:Option Qab).bind fun v24=>(bif (decide (v24.1=(9:Int))) then (Qcs v0 v1 v2 v3 ([]:List (Qak)) v4 v5 v6 v7 v8 v9 v10 v11 v12 v13 v14 v24.1 v24.2.1 v24.2.2.1 v24.2.2.2.1 v24.2.2.2.2.1 v24.2.2.2.2.2.1 v24.2.2.2.2.2.2.1 v24.2.2.2.2.2.2.2.1 v24.2.2.2.2.2.2.2.2.2 v15 v16 v17 v18 v19 v24.2.2.2.2.2.2.2.2.1 v24.2.2.2.2.2.2.2.2.1.length 0).bind fun v25=>some (.inl v25) else (Qiy v24.2.2.2.2.2.2.2.2.1).bind fun v25=>some (.inr (v24.1,(v24.2.1,(v24.2.2.1,(v24.2.2.2.1,(v24.2.2.2.2.1,(v24.2.2.2.2.2.1,(v24.2.2.2.2.2.2.1,(v24.2.2.2.2.2.2.2.1,(v25,v24.2.2.2.2.2.2.2.2.2)))))))))):Option (((List (Qak)))⊕((Qab)))).bind fun
   |.inl v25=> ((bif (decide (v24.1<(0:Int))) then some true else some (decide ((9:Int)<v24.1))).bind fun v26=>(bif v26 then some true else some (decide (v24.1=(1:Int)))).bind fun v27=>bif v27 then bif (decide ((v24.2.2.1.length * (8:Nat))≤(35184372088832:Nat))) then bif (decide ((v24.2.2.2.2.2.2.1.length * (8:Nat))≤(35184372088832:Nat))) then some (.inl ()) else none else none else some (.inr ()):Option ((Unit)⊕(Unit))).bind fun
    |.inl _=> bif (decide (((v3.length+(1:Nat)) * (128:Nat))≤(35184372088832:Nat))) then QaK v0 v1 v2 (v3++((v24.1,(v24.2.1,(v24.2.2.1,(v24.2.2.2.1,(v24.2.2.2.2.1,(v24.2.2.2.2.2.1,(v24.2.2.2.2.2.2.1,(v24.2.2.2.2.2.2.2.1,(v25,v24.2.2.2.2.2.2.2.2.2)))))))))::([]:List (Qab)))) v4 v5 v6 v7 v8 v9 v10 v11 v12 v13 v14 v15 v16 v17 v18 (Ev.wr .i64 (v19+1)) else none
    |.inr _=> bif (decide (((v3.length+(1:Nat)) * (128:Nat))≤(35184372088832:Nat))) then QaK v0 v1 v2 (v3++((v24.1,(v24.2.1,(v24.2.2.1,(v24.2.2.2.1,(v24.2.2.2.2.1,(v24.2.2.2.2.2.1,(v24.2.2.2.2.2.2.1,(v24.2.2.2.2.2.2.2.1,(v25,v24.2.2.2.2.2.2.2.2.2)))))))))::([]:List (Qab)))) v4 v5 v6 v7 v8 v9 v10 v11 v12 v13 v14 v15 v16 v17 v18 (Ev.wr .i64 (v19+1)) else none
   |.inr v25=> ((bif (decide (v25.1<(0:Int))) then some true else some (decide ((9:Int)<v25.1))).bind fun v26=>(bif v26 then some true else some (decide (v25.1=(1:Int)))).bind fun v27=>bif v27 then bif (decide ((v25.2.2.1.length * (8:Nat))≤(35184372088832:Nat))) then bif (decide ((v25.2.2.2.2.2.2.1.length * (8:Nat))≤(35184372088832:Nat))) then some (.inl ()) else none else none else some (.inr ()):Option ((Unit)⊕(Unit))).bind fun
    |.inl _=> bif (decide (((v3.length+(1:Nat)) * (128:Nat))≤(35184372088832:Nat))) then QaK v0 v1 v2 (v3++(v25::([]:List (Qab)))) v4 v5 v6 v7 v8 v9 v10 v11 v12 v13 v14 v15 v16 v17 v18 (Ev.wr .i64 (v19+1)) else none
    |.inr _=> bif (decide (((v3.length+(1:Nat)) * (128:Nat))≤(35184372088832:Nat))) then QaK v0 v1 v2 (v3++(v25::([]:List (Qab)))) v4 v5 v6 v7 v8 v9 v10 v11 v12 v13 v14 v15 v16 v17 v18 (Ev.wr .i64 (v19+1)) else none else some v3:=me 148
theorem QsK v0:QhL v0=
 bif (decide (v0.1=(1:Int))) then some (v0.2.2.2.2.2.2.2.2.2::([]:List (Int))) else bif (decide (v0.1=(2:Int))) then some (v0.2.2.2.2.2.2.2.2.2::([]:List (Int))) else bif (decide (v0.1=(3:Int))) then some (v0.2.2.2.2.2.2.2.2.2::([]:List (Int))) else bif (decide (v0.1=(4:Int))) then some (v0.2.2.2.2.2.2.2.2.2::([]:List (Int))) else bif (decide (v0.1=(5:Int))) then some (v0.2.2.2.2.2.2.2.2.2::([]:List (Int))) else bif (decide (v0.1=(6:Int))) then some (v0.2.2.2.2.2.2.2.2.2::([]:List (Int))) else bif (decide (v0.1=(9:Int))) then (Qeo ([]:List (Int)) v0 0).bind fun v1=>some v1 else some ([]:List (Int)):=me 149
theorem QC0 v0 v1:QfQ v0 v1=
 bif decide (v1=0) then some true else (QjO v0 v1).bind fun v2=>bif v2 then (Qiw v0 v1 0).bind fun
   |.inl _=> some false
   |.inr _=> some true else some false:=me 150
theorem QhR v0 v1 v2 v3 v4 v5 v6:Qde v0 v1 v2 v3 v4 v5 v6=
 bif decide (v6<v5) then (Sy.at' v0 v6).bind fun v7=>Qde (List.set v0 v6.toNat (-1:Int)) v1 v2 v3 v4 v5 (Ev.wr .i64 (v6+1)) else some v0:=me 151
theorem QEC v0 v1:QwS v0 v1=
 (Qlm v0 v1 0).bind fun
  |.inl _=> some true
  |.inr _=> some false:=me 152
theorem Qt9 v0:QpP v0=
 (Qm3 v0.1).bind fun ⟨v1,v2⟩=>(bif v2 then bif (decide (v1.1<(0:Int))) then some (.inl false) else some (.inl (!(decide ((v0.2.2.1.length:Int)=v1.1)))) else some (.inr ()):Option (((Bool))⊕(Unit))).bind fun
  |.inl v3=> bif v3 then some false else (bif v1.2.1 then some true else some (decide (v0.2.1=(0:Int)))).bind fun v4=>(bif v4 then bif v1.2.2.1 then some (.inl true) else some (.inl (decide (v0.2.2.2.1=(0:Int)))) else some (.inr ()):Option (((Bool))⊕(Unit))).bind fun
    |.inl v5=> (bif v5 then bif v1.2.2.2.1 then some (.inl true) else some (.inl (decide (v0.2.2.2.2.1=(0:Int)))) else some (.inr ()):Option (((Bool))⊕(Unit))).bind fun
     |.inl v6=> (bif v6 then bif v1.2.2.2.2.1 then some (.inl true) else some (.inl (decide (v0.2.2.2.2.2.1=(0:Int)))) else some (.inr ()):Option (((Bool))⊕(Unit))).bind fun
      |.inl v7=> (bif v7 then bif v1.2.2.2.2.2.1 then some (.inl true) else some (.inl (decide ((v0.2.2.2.2.2.2.1.length:Int)=(0:Int)))) else some (.inr ()):Option (((Bool))⊕(Unit))).bind fun
       |.inl v8=> (bif v8 then bif v1.2.2.2.2.2.2.1 then some (.inl true) else some (.inl (!v0.2.2.2.2.2.2.2.1)) else some (.inr ()):Option (((Bool))⊕(Unit))).bind fun
        |.inl v9=> (bif v9 then bif v1.2.2.2.2.2.2.2.1 then some (.inl true) else some (.inl (decide (v0.2.2.2.2.2.2.2.2.2=(0:Int)))) else some (.inr ()):Option (((Bool))⊕(Unit))).bind fun
         |.inl v10=> (bif v10 then bif v1.2.2.2.2.2.2.2.2 then some (.inl true) else some (.inl (decide ((v0.2.2.2.2.2.2.2.2.1.length:Int)=(0:Int)))) else some (.inr ()):Option (((Bool))⊕(Unit))).bind fun
          |.inl v11=> some v11
          |.inr _=> some false
         |.inr _=> some false
        |.inr _=> some false
       |.inr _=> some false
      |.inr _=> some false
     |.inr _=> some false
    |.inr _=> some false
  |.inr _=> some false:=me 153
theorem Qn4 v0 v1:Qiu v0 v1=
 (bif decide (v0.1=v1.1) then some (decide (v0.2.1=v1.2.1)) else some false).bind fun v2=>(bif v2 then some (decide (v0.2.2.2.1=v1.2.2.2.1)) else some false).bind fun v3=>(bif v3 then some (decide (v0.2.2.2.2.1=v1.2.2.2.2.1)) else some false).bind fun v4=>(bif v4 then some (decide (v0.2.2.2.2.2.1=v1.2.2.2.2.2.1)) else some false).bind fun v5=>(bif v5 then some (v0.2.2.2.2.2.2.2.1==v1.2.2.2.2.2.2.2.1) else some false).bind fun v6=>(bif v6 then some (decide (v0.2.2.2.2.2.2.2.2.2=v1.2.2.2.2.2.2.2.2.2)) else some false).bind fun v7=>(bif v7 then (QcQ v0.2.2.1 v1.2.2.1).bind fun v8=>some v8 else some false).bind fun v8=>(bif v8 then (QcQ v0.2.2.2.2.2.2.1 v1.2.2.2.2.2.2.1).bind fun v9=>some v9 else some false).bind fun v9=>(bif v9 then (QdK v0.2.2.2.2.2.2.2.2.1 v1.2.2.2.2.2.2.2.2.1).bind fun v10=>some v10 else some false).bind fun v10=>some v10:=me 154
theorem QhS v0 v1 v2 v3 v4 v5 v6 v7 v8 v9 v10 v11 v12:Qfi v0 v1 v2 v3 v4 v5 v6 v7 v8 v9 v10 v11 v12=
 (QdG v0 v1 v2 v3 v4 v5 v6 v7 v8 v9 v10 v11 v12.1).bind fun v13=>some (!v13):=me 155
theorem QkV v0 v1 v2:Qiv v0 v1 v2=
 bif (decide (v2<(v0.length:Int))) then (Sy.at' v0 v2).bind fun v3=>bif decide (v3=v1) then some (.inl ()) else Qiv v0 v1 (Ev.wr .i64 (v2+1)) else some (.inr ()):=me 156
theorem Qm7 v0 v1:QkS v0 v1=
 (QcC v0 v1.2).bind fun v2=>some (!v2):=me 157
theorem QqA v0:QeX v0=
 bif (decide (v0.1=(1:Int))) then some (v0.2.1::([]:List (Int))) else bif (decide (v0.1=(2:Int))) then some (v0.2.1::([]:List (Int))) else bif (decide (v0.1=(3:Int))) then some (v0.2.1::([]:List (Int))) else bif (decide (v0.1=(4:Int))) then some (v0.2.1::([]:List (Int))) else bif (decide (v0.1=(6:Int))) then some (v0.2.1::([]:List (Int))) else bif (decide (v0.1=(9:Int))) then (Qdf ([]:List (Int)) v0 0).bind fun v1=>some v1 else some ([]:List (Int)):=me 158
theorem Qmf v0 v1 v2 v3 v4 v5 v6 v7:Qb9 v0 v1 v2 v3 v4 v5 v6 v7=
 (Sy.at' v5.2.2.2.2.1 v7).bind fun v8=>bif (decide (((v0.length+(1:Nat)) * (8:Nat))≤(35184372088832:Nat))) then (QjQ v8).bind fun v9=>(QbR (v0++(v7::([]:List (Int)))) v1 v2 v3 v4 v5 v6 v8 v9 v9.length 0).bind fun
   |.inl _=> some ((v0++(v7::([]:List (Int)))),v1,v2,v3,v4,false)
   |.inr _=> (Qep v8).bind fun v10=>(QbT (v0++(v7::([]:List (Int)))) v1 v2 v3 v4 v5 v6 v8 v10 v10.length 0).bind fun
    | (.inl ⟨v11,v12,v13,v14,v15,v16⟩)=>some (v11,v12,v13,v14,v15,v16)
    | (.inr ⟨v11,v12,v13,v14,v15,v16⟩)=>some (v11,v12,v13,v14,v15,v16) else none:=me 159
theorem QeG v0 v1 v2 v3 v4 v5 v6 v7 v8 v9 v10 v11 v12 v13 v14 v15:Qbx v0 v1 v2 v3 v4 v5 v6 v7 v8 v9 v10 v11 v12 v13 v14 v15=
 (bif (decide (v15<(v14.length:Int))) then some (!v12) else some false).bind fun v16=>bif v16 then (QeX v13).bind fun v17=>(bif (decide (v13.1=(9:Int))) then (Sy.at' v13.2.2.2.2.2.2.2.2.1 v15).bind fun v18=>some v18.1 else some v17:Option (((List (Int))))).bind fun v18=>bif (decide ((v0.length * (8:Nat))≤(35184372088832:Nat))) then (Qbz v0 v1 v2 v3 v0 v4 v5 v6 v7 v8 v9 v10 v11 v12 v13 v14 v15 v18 0).bind fun ⟨v19,v20,v21,v22⟩=>(Sy.at' v14 v15).bind fun v23=>(Qco v1 v19 v3 v20 v4 v5 v6 v7 v8 v9 v10 v21 v22 v23).bind fun ⟨v24,v25,v26,v27,v28⟩=>Qbx v0 v24 v25 v26 v4 v5 v6 v7 v8 v9 v10 v27 v28 v13 v14 (Ev.wr .i64 (v15+1)) else none else some (v1,v2,v3,v11,v12):=me 160
theorem QiU v0 v1 v2:QcW v0 v1 v2=
 bif (decide (v2<(v1.2.2.2.2.2.2.1.length:Int))) then (Sy.at' v1.2.2.2.2.2.2.1 v2).bind fun v3=>bif (decide (v3<(0:Int))) then QcW v0 v1 (Ev.wr .i64 (v2+1)) else bif (decide (((v0.length+(1:Nat)) * (8:Nat))≤(35184372088832:Nat))) then QcW (v0++(v3::([]:List (Int)))) v1 (Ev.wr .i64 (v2+1)) else none else some v0:=me 161
theorem Qua v0:QjQ v0=
 (Qm3 v0.1).bind fun ⟨v1,v2⟩=>(bif v2 then some (decide (v1.1=(0:Int))) else some true).bind fun v3=>bif v3 then some ([]:List (Int)) else bif v1.2.2.2.2.2.1 then bif (decide ((v0.2.2.1.length * (8:Nat))≤(35184372088832:Nat))) then bif (decide (((v0.2.2.1.length+v0.2.2.2.2.2.2.1.length) * (8:Nat))≤(35184372088832:Nat))) then (QdU ([]:List (Int)) (v0.2.2.1++v0.2.2.2.2.2.2.1) ((v0.2.2.1++v0.2.2.2.2.2.2.1).length:Int) 0).bind fun v4=>some v4 else none else none else bif (decide ((v0.2.2.1.length * (8:Nat))≤(35184372088832:Nat))) then some v0.2.2.1 else none:=me 162
theorem QC1 v0 v1 v2:Qm2 v0 v1 v2=
 (bif (decide (v0.1<(0:Int))) then some false else some (!(decide ((9:Int)<v0.1)))).bind fun v3=>(bif v3 then some (!(decide (v0.1=(1:Int)))) else some false).bind fun v4=>(bif v4 then (Qoo v0.2.2.1 v2).bind fun v5=>(Qoo v0.2.2.2.2.2.2.1 v2).bind fun v6=>some (v0.1,(v0.2.1,(v5,(v0.2.2.2.1,(v0.2.2.2.2.1,(v0.2.2.2.2.2.1,(v6,v0.2.2.2.2.2.2.2))))))) else some v0:Option Qab).bind fun v5=>((bif (decide (v0.1=(1:Int))) then some true else some (decide (v0.1=(2:Int)))).bind fun v6=>(bif v6 then some true else some (decide (v0.1=(3:Int)))).bind fun v7=>(bif v7 then some true else some (decide (v0.1=(4:Int)))).bind fun v8=>(bif v8 then some true else some (decide (v0.1=(6:Int)))).bind fun v9=>bif v9 then (Sy.at' v2 v0.2.1).bind fun v10=>some (v5.1,(v10,v5.2.2)) else some v5:Option Qab).bind fun v6=>(QhL v0).bind fun v7=>((bif (decide ((0:Int)<(v7.length:Int))) then some (!(decide (v0.1=(9:Int)))) else some false).bind fun v8=>bif v8 then (Sy.at' v1 v0.2.2.2.2.2.2.2.2.2).bind fun v9=>some (v6.1,(v6.2.1,(v6.2.2.1,(v6.2.2.2.1,(v6.2.2.2.2.1,(v6.2.2.2.2.2.1,(v6.2.2.2.2.2.2.1,(v6.2.2.2.2.2.2.2.1,(v6.2.2.2.2.2.2.2.2.1,v9))))))))) else some v6:Option Qab).bind fun v8=>(bif (decide (v0.1=(9:Int))) then (Qix ([]:List (Int)) ([]:List (Int)) ([]:List (Qak)) ([]:List (Qak)) v0 0 0 0 0 0 (false) 0 v8.1 v8.2.1 v8.2.2.1 v8.2.2.2.1 v8.2.2.2.2.1 v8.2.2.2.2.2.1 v8.2.2.2.2.2.2.1 v8.2.2.2.2.2.2.2.1 v8.2.2.2.2.2.2.2.2.2 v1 v2 0).bind fun v9=>some (.inl v9) else some (.inr ()):Option (((List (Qak)))⊕(Unit))).bind fun
  |.inl v9=> some (v8.1,(v8.2.1,(v8.2.2.1,(v8.2.2.2.1,(v8.2.2.2.2.1,(v8.2.2.2.2.2.1,(v8.2.2.2.2.2.2.1,(v8.2.2.2.2.2.2.2.1,(v9,v8.2.2.2.2.2.2.2.2.2)))))))))
  |.inr _=> some v8:=me 163
theorem Qmg v0 v1:Qby v0 v1=
 (QbS ([]:List (Int)) v0 v1 v1.length 0).bind fun v2=>some v2:=me 164
theorem QgI v0 v1 v2 v3 v4 v5 v6 v7 v8 v9 v10 v11 v12 v13 v14 v15 v16 v17 v18 v19 v20 v21 v22 v23 v24 v25 v26 v27 v28 v29 v30 v31 v32:Qcs v0 v1 v2 v3 v4 v5 v6 v7 v8 v9 v10 v11 v12 v13 v14 v15 v16 v17 v18 v19 v20 v21 v22 v23 v24 v25 v26 v27 v28 v29 v30 v31 v32=
 bif decide (v32<v31) then (Sy.at' v30 v32).bind fun v33=>(Sy.at' v25 v33.2).bind fun v34=>(Qby v26 v33.1).bind fun v35=>bif (decide (((v4.length+(1:Nat)) * (32:Nat))≤(35184372088832:Nat))) then Qcs v0 v1 v2 v3 (v4++((v35,v34)::([]:List (Qak)))) v5 v6 v7 v8 v9 v10 v11 v12 v13 v14 v15 v16 v17 v18 v19 v20 v21 v22 v23 v24 v25 v26 v27 v28 v29 v30 v31 (Ev.wr .i64 (v32+1)) else none else some v4:=me 165
theorem QsL v0:QdT v0=
 (Qm3 v0.1).bind fun ⟨v1,v2⟩=>(bif v1.2.1 then some (v0.2.1::([]:List (Int))) else some ([]:List (Int)):Option (((List (Int))))).bind fun v3=>(bif v1.2.2.2.2.2.2.2.2 then (Qeq v3 v0.2.2.2.2.2.2.2.2.1 v0.2.2.2.2.2.2.2.2.1.length 0).bind fun v4=>some v4 else some v3:Option (((List (Int))))).bind fun v4=>some v4:=me 166
theorem QiV v0 v1 v2:Qeo v0 v1 v2=
 bif (decide (v2<(v1.2.2.2.2.2.2.2.2.1.length:Int))) then (Sy.at' v1.2.2.2.2.2.2.2.2.1 v2).bind fun v3=>bif (decide (((v0.length+(1:Nat)) * (8:Nat))≤(35184372088832:Nat))) then Qeo (v0++(v3.2::([]:List (Int)))) v1 (Ev.wr .i64 (v2+1)) else none else some v0:=me 167
theorem QyQ v0 v1 v2:Qiw v0 v1 v2=
 (Sy.at' v0 (Ev.wr .i64 (v1 - 1))).bind fun v3=>bif (decide (v2<(v3.2.length:Int))) then (Sy.at' v3.2 v2).bind fun v4=>bif (decide ((0:Int)<(v4.2.length:Int))) then some (.inl ()) else Qiw v0 v1 (Ev.wr .i64 (v2+1)) else some (.inr ()):=me 168
theorem QBI v0 v1 v2:Qlm v0 v1 v2=
 bif (decide (v2<(v0.length:Int))) then (Sy.at' v0 v2).bind fun v3=>bif decide (v3=v1) then some (.inl ()) else Qlm v0 v1 (Ev.wr .i64 (v2+1)) else some (.inr ()):=me 169
theorem Qys v0:Qm3 v0=
 (bif (decide (v0<(0:Int))) then some true else some (!(decide (v0<(10:Int))))).bind fun v1=>bif v1 then some (((0:Int),(false,(false,(false,(false,(false,(false,(false,false)))))))),false) else (Qm4).bind fun _=>(Sy.at' (((1:Int),(false,(false,(false,(false,(false,(false,(false,false))))))))::(((0:Int),(true,(false,(true,(false,(false,(false,(true,false))))))))::(((2:Int),(true,(false,(true,(false,(false,(false,(true,false))))))))::(((-1:Int),(true,(true,(false,(false,(false,(false,(true,false))))))))::(((1:Int),(true,(false,(false,(false,(false,(false,(true,false))))))))::(((1:Int),(false,(false,(false,(false,(false,(false,(true,false))))))))::(((-1:Int),(true,(false,(false,(true,(false,(false,(true,false))))))))::(((-1:Int),(false,(false,(false,(true,(false,(false,(false,false))))))))::(((-1:Int),(false,(true,(true,(true,(true,(false,(false,false))))))))::(((1:Int),(false,(false,(false,(false,(false,(true,(false,true))))))))::([]:List (QAL)))))))))))) v0).bind fun v2=>some (v2,true):=me 170
theorem Qmh v0 v1:QcQ v0 v1=
 bif (decide ((v0.length:Int)=(v1.length:Int))) then (QcG v0 v1 v0.length 0).bind fun
   |.inl _=> some false
   |.inr _=> some true else some false:=me 171
theorem Qhs v0 v1:QcC v0 v1=
 (Qgt v0 v1).bind fun v2=>some (!(decide (v2<(0:Int)))):=me 172
theorem QsX v0 v1 v2 v3 v4 v5 v6 v7 v8 v9:QdJ v0 v1 v2 v3 v4 v5 v6 v7 v8 v9=
 bif (decide (v9<(v8.length:Int))) then (Sy.at' v8 v9).bind fun v10=>bif (decide (v10<(0:Int))) then some (.inl ()) else bif (decide (v10<(v6.2.2.2.1.length:Int))) then QdJ v0 v1 v2 v3 v4 v5 v6 v7 v8 (Ev.wr .i64 (v9+1)) else some (.inl ()) else some (.inr ()):=me 173
theorem QhT v0 v1 v2 v3 v4 v5 v6:Qcv v0 v1 v2 v3 v4 v5 v6=
 bif decide (v6<v5) then (Sy.at' v1 v6).bind fun v7=>bif decide (v6<v2.2.1) then Qcv v0 (List.set (List.set v1 v6.toNat (-1:Int)) v6.toNat v6) v2 v3 v4 v5 (Ev.wr .i64 (v6+1)) else Qcv v0 (List.set v1 v6.toNat (-1:Int)) v2 v3 v4 v5 (Ev.wr .i64 (v6+1)) else some v1:=me 174
theorem QdV v0 v1 v2 v3 v4 v5 v6 v7 v8 v9 v10 v11 v12 v13 v14 v15:Qbc v0 v1 v2 v3 v4 v5 v6 v7 v8 v9 v10 v11 v12 v13 v14 v15=
 bif decide (v15<v14) then (Sy.at' v13 v15).bind fun v16=>(bif (decide (v16<(0:Int))) then some true else some (!(decide (v16<(v2.length:Int))))).bind fun v17=>(bif v17 then some true else (Sy.at' v2 v16).bind fun v18=>some (!v18)).bind fun v18=>bif v18 then some (.inl ()) else Qbc v0 v1 v2 v3 v4 v5 v6 v7 v8 v9 v10 v11 v12 v13 v14 (Ev.wr .i64 (v15+1)) else some (.inr ()):=me 175
theorem QuA v0 v1 v2 v3 v4 v5 v6 v7 v8 v9 v10 v11 v12 v13 v14 v15 v16 v17 v18 v19 v20 v21 v22 v23 v24 v25 v26 v27:QeY v0 v1 v2 v3 v4 v5 v6 v7 v8 v9 v10 v11 v12 v13 v14 v15 v16 v17 v18 v19 v20 v21 v22 v23 v24 v25 v26 v27=
 bif (decide (v27<(v4.length:Int))) then (Sy.at' v4 v27).bind fun v28=>(Sy.at' v7.2.2.2.2.1 v28).bind fun v29=>(Qm2 v29 v2 v3).bind fun v30=>bif (decide (((v6.length+(1:Nat)) * (128:Nat))≤(35184372088832:Nat))) then QeY v0 v1 v2 v3 v4 v5 (v6++(v30::([]:List (Qab)))) v7 v8 v9 v10 v11 v12 v13 v14 v15 v16 v17 v18 v19 v20 v21 v22 v23 v24 v25 v26 (Ev.wr .i64 (v27+1)) else none else some v6:=me 176
theorem Qub v0:Qep v0=
 (Qm3 v0.1).bind fun ⟨v1,v2⟩=>(bif v1.2.2.2.2.2.2.2.1 then some (v0.2.2.2.2.2.2.2.2.2::([]:List (Int))) else some ([]:List (Int)):Option (((List (Int))))).bind fun v3=>(bif v1.2.2.2.2.2.2.2.2 then (Qfj v3 v0.2.2.2.2.2.2.2.2.1 v0.2.2.2.2.2.2.2.2.1.length 0).bind fun v4=>some v4 else some v3:Option (((List (Int))))).bind fun v4=>some v4:=me 177
theorem Qi8 v0 v1:QdK v0 v1=
 bif (decide ((v0.length:Int)=(v1.length:Int))) then (QbH v1 v0 v0.length 0).bind fun
   |.inl _=> some true
   |.inr _=> some false else some false:=me 178
theorem QhU v0 v1 v2:Qdf v0 v1 v2=
 bif (decide (v2<(v1.2.2.2.2.2.2.2.2.1.length:Int))) then (Sy.at' v1.2.2.2.2.2.2.2.2.1 v2).bind fun v3=>bif (decide (((v0.length+v3.1.length) * (8:Nat))≤(35184372088832:Nat))) then Qdf (v0++v3.1) v1 (Ev.wr .i64 (v2+1)) else none else some v0:=me 179
theorem Qfm v0 v1 v2 v3 v4 v5 v6 v7 v8 v9 v10:QbR v0 v1 v2 v3 v4 v5 v6 v7 v8 v9 v10=
 bif decide (v10<v9) then (Sy.at' v8 v10).bind fun v11=>(bif (decide (v11<(0:Int))) then some true else some (!(decide (v11<(v5.2.2.2.1.length:Int))))).bind fun v12=>(bif v12 then some true else (Sy.at' v1 v11).bind fun v13=>some (!v13)).bind fun v13=>bif v13 then some (.inl ()) else QbR v0 v1 v2 v3 v4 v5 v6 v7 v8 v9 (Ev.wr .i64 (v10+1)) else some (.inr ()):=me 180
theorem QeH v0 v1 v2 v3 v4 v5 v6 v7 v8 v9 v10 v11 v12 v13 v14 v15 v16 v17 v18:Qbz v0 v1 v2 v3 v4 v5 v6 v7 v8 v9 v10 v11 v12 v13 v14 v15 v16 v17 v18=
 bif (decide (v18<(v17.length:Int))) then (Sy.at' v17 v18).bind fun v19=>(Qgu v1 v2 v3 v5 v6 v7 v8 v9 v10 v11 v12 v13 v19).bind fun ⟨v20,v21,v22⟩=>bif (decide (((v4.length+(1:Nat)) * (8:Nat))≤(35184372088832:Nat))) then Qbz v0 v1 v20 v3 (v4++(v19::([]:List (Int)))) v5 v6 v7 v8 v9 v10 v11 v21 v22 v14 v15 v16 v17 (Ev.wr .i64 (v18+1)) else none else some (v2,v4,v12,v13):=me 181
theorem QjY v0 v1 v2 v3:QdU v0 v1 v2 v3=
 bif decide (v3<v2) then (Sy.at' v1 v3).bind fun v4=>bif (decide (v4<(0:Int))) then QdU v0 v1 v2 (Ev.wr .i64 (v3+1)) else bif (decide (((v0.length+(1:Nat)) * (8:Nat))≤(35184372088832:Nat))) then QdU (v0++(v4::([]:List (Int)))) v1 v2 (Ev.wr .i64 (v3+1)) else none else some v0:=me 182
theorem QED v0 v1:Qoo v0 v1=
 (Qln ([]:List (Int)) v0 v1 0).bind fun v2=>some v2:=me 183
theorem QyR v0 v1 v2 v3 v4 v5 v6 v7 v8 v9 v10 v11 v12 v13 v14 v15 v16 v17 v18 v19 v20 v21 v22 v23:Qix v0 v1 v2 v3 v4 v5 v6 v7 v8 v9 v10 v11 v12 v13 v14 v15 v16 v17 v18 v19 v20 v21 v22 v23=
 bif (decide (v23<(v4.2.2.2.2.2.2.2.2.1.length:Int))) then (Sy.at' v4.2.2.2.2.2.2.2.2.1 v23).bind fun v24=>(Sy.at' v21 v24.2).bind fun v25=>(Qoo v24.1 v22).bind fun v26=>bif (decide (((v3.length+(1:Nat)) * (32:Nat))≤(35184372088832:Nat))) then Qix v0 v1 v2 (v3++((v26,v25)::([]:List (Qak)))) v4 v5 v6 v7 v8 v9 v10 v11 v12 v13 v14 v15 v16 v17 v18 v19 v20 v21 v22 (Ev.wr .i64 (v23+1)) else none else some v3:=me 184
theorem Qfn v0 v1 v2 v3 v4:QbS v0 v1 v2 v3 v4=
 bif decide (v4<v3) then (Sy.at' v2 v4).bind fun v5=>((bif (decide (v5<(0:Int))) then some false else some (decide (v5<(v1.length:Int)))).bind fun v6=>bif v6 then (Sy.at' v1 v5).bind fun v7=>some v7 else some v5).bind fun v6=>bif (decide (((v0.length+(1:Nat)) * (8:Nat))≤(35184372088832:Nat))) then QbS (v0++(v6::([]:List (Int)))) v1 v2 v3 (Ev.wr .i64 (v4+1)) else none else some v0:=me 185
theorem QiW v0 v1 v2 v3:Qeq v0 v1 v2 v3=
 bif decide (v3<v2) then (Sy.at' v1 v3).bind fun v4=>bif (decide (((v0.length+v4.1.length) * (8:Nat))≤(35184372088832:Nat))) then Qeq (v0++v4.1) v1 v2 (Ev.wr .i64 (v3+1)) else none else some v0:=me 186
theorem Qmi:Qm4=
 some ():=me 187
theorem Qfo v0 v1 v2 v3:QcG v0 v1 v2 v3=
 bif decide (v3<v2) then (Sy.at' v0 v3).bind fun v4=>(Sy.at' v1 v3).bind fun v5=>bif decide (v4=v5) then QcG v0 v1 v2 (Ev.wr .i64 (v3+1)) else some (.inl ()) else some (.inr ()):=me 188
theorem Qi9 v0 v1:Qgt v0 v1=
 (QbI v0 v1 v1.length 0).bind fun
  |.inl _=> some (-1:Int)
  |.inr v2=> some v2:=me 189
theorem Qht v0 v1 v2 v3 v4 v5 v6 v7 v8 v9 v10 v11 v12:QcD v0 v1 v2 v3 v4 v5 v6 v7 v8 v9 v10 v11 v12=
 (Qgv v0 v1 v2 v3 v4 v5 v6 v7 v8 v9 v10 v11 v12).bind fun v13=>some (!(decide (v13<(0:Int)))):=me 190
theorem Quc v0 v1 v2 v3 v4 v5 v6 v7 v8 v9:Qer v0 v1 v2 v3 v4 v5 v6 v7 v8 v9=
 bif (decide (v9<(v8.length:Int))) then (Sy.at' v8 v9).bind fun v10=>bif (decide (v10<(0:Int))) then some (.inl v1) else bif (decide (v10<(v6.2.2.2.2.1.length:Int))) then (Sy.at' v1 v10).bind fun v11=>bif v11 then some (.inl v1) else Qer v0 (List.set v1 v10.toNat true) v2 v3 v4 v5 v6 v7 v8 (Ev.wr .i64 (v9+1)) else some (.inl v1) else some (.inr v1):=me 191
theorem Qn5 v0:Qiy v0=
 (Qct ([]:List (Qak)) v0 v0.length 0).bind fun v1=>some v1:=me 192
theorem QjZ v0 v1 v2 v3:Qfj v0 v1 v2 v3=
 bif decide (v3<v2) then (Sy.at' v1 v3).bind fun v4=>bif (decide (((v0.length+(1:Nat)) * (8:Nat))≤(35184372088832:Nat))) then Qfj (v0++(v4.2::([]:List (Int)))) v1 v2 (Ev.wr .i64 (v3+1)) else none else some v0:=me 193
theorem Qdr v0 v1 v2 v3:QbH v0 v1 v2 v3=
 bif decide (v3<v2) then (Sy.at' v1 v3).bind fun v4=>(Sy.at' v0 v3).bind fun v5=>(QjR v4 v5).bind fun v6=>bif v6 then QbH v0 v1 v2 (Ev.wr .i64 (v3+1)) else some (.inr ()) else some (.inl ()):=me 194
theorem Qmj v0 v1 v2 v3 v4 v5 v6 v7 v8 v9 v10 v11 v12:Qgu v0 v1 v2 v3 v4 v5 v6 v7 v8 v9 v10 v11 v12=
 (bif decide (v12<v4) then some true else some (!(decide (v12<(v6.length:Int))))).bind fun v13=>(bif v13 then some true else (Sy.at' v1 v12).bind fun v14=>some (!(decide (v14<(0:Int))))).bind fun v14=>bif v14 then some (v1,v10,true) else (Sy.at' v1 v12).bind fun v15=>some ((List.set v1 v12.toNat v10),(Ev.wr .i64 (v10+1)),v11):=me 195
theorem QBJ v0 v1 v2 v3:Qln v0 v1 v2 v3=
 bif (decide (v3<(v1.length:Int))) then (Sy.at' v1 v3).bind fun v4=>((bif (decide (v4<(0:Int))) then some false else some (decide (v4<(v2.length:Int)))).bind fun v5=>bif v5 then (Sy.at' v2 v4).bind fun v6=>some v6 else some v4).bind fun v5=>bif (decide (((v0.length+(1:Nat)) * (8:Nat))≤(35184372088832:Nat))) then Qln (v0++(v5::([]:List (Int)))) v1 v2 (Ev.wr .i64 (v3+1)) else none else some v0:=me 196
theorem Qds v0 v1 v2 v3:QbI v0 v1 v2 v3=
 bif decide (v3<v2) then (Sy.at' v1 v3).bind fun v4=>(QiO v0 v4).bind fun v5=>bif v5 then some (.inr v3) else QbI v0 v1 v2 (Ev.wr .i64 (v3+1)) else some (.inl ()):=me 197
theorem QuB v0 v1 v2 v3 v4 v5:QeZ v0 v1 v2 v3 v4 v5=
 bif (decide (v5<(v2.2.2.2.2.1.length:Int))) then (Sy.at' v0 v5).bind fun v6=>bif v6 then QeZ v0 v1 v2 v3 v4 (Ev.wr .i64 (v5+1)) else some (.inl v5) else some (.inr ()):=me 198
theorem QsY v0 v1 v2 v3 v4 v5 v6 v7 v8 v9:Qa9 v0 v1 v2 v3 v4 v5 v6 v7 v8 v9=
 bif (decide (v9<(v8.length:Int))) then (Sy.at' v8 v9).bind fun v10=>bif decide (v10<v6.2.1) then some (.inl v2) else (Sy.at' v2 v10).bind fun v11=>bif v11 then some (.inl v2) else Qa9 v0 v1 (List.set v2 v10.toNat true) v3 v4 v5 v6 v7 v8 (Ev.wr .i64 (v9+1)) else some (.inr v2):=me 199
theorem QhV v0 v1 v2 v3 v4 v5 v6:Qdg v0 v1 v2 v3 v4 v5 v6=
 bif decide (v6<v5) then (Sy.at' v4 v6).bind fun v7=>(Sy.at' v0 v7).bind fun v8=>Qdg (List.set v0 v7.toNat v6) v1 v2 v3 v4 v5 (Ev.wr .i64 (v6+1)) else some v0:=me 200
theorem QdW v0 v1 v2 v3 v4 v5 v6 v7 v8 v9 v10 v11 v12 v13 v14 v15 v16:Qbd v0 v1 v2 v3 v4 v5 v6 v7 v8 v9 v10 v11 v12 v13 v14 v15 v16=
 bif decide (v16<v15) then (Sy.at' v14 v16).bind fun v17=>(bif (decide (v17<(0:Int))) then some true else some (!(decide (v17<(v8.length:Int))))).bind fun v18=>bif v18 then some (.inl ()) else Qbd v0 v1 v2 v3 v4 v5 v6 v7 v8 v9 v10 v11 v12 v13 v14 v15 (Ev.wr .i64 (v16+1)) else some (.inr ()):=me 201
theorem Qfp v0 v1 v2 v3 v4 v5 v6 v7 v8 v9 v10:QbT v0 v1 v2 v3 v4 v5 v6 v7 v8 v9 v10=
 bif decide (v10<v9) then (Sy.at' v8 v10).bind fun v11=>(QdT v7).bind fun v12=>(bif (decide (v7.1=(9:Int))) then (Sy.at' v7.2.2.2.2.2.2.2.2.1 v10).bind fun v13=>some v13.1 else some v12:Option (((List (Int))))).bind fun v13=>((QcP v2 v5 v11).bind fun ⟨v14,v15⟩=>bif v15 then (Qgw v3 v1 v4 v5 v13).bind fun ⟨v16,v17,v18,v19⟩=>some (.inl (v14,v16,v17,v18,(!v19))) else some (.inr v14):Option (((List (Bool))×(List (Bool))×(List (Bool))×(List (Int))×(Bool))⊕((List (Bool))))).bind fun
   | (.inl ⟨v14,v15,v16,v17,v18⟩)=>bif v18 then some (.inl (v0,v16,v14,v15,v17,false)) else (Qb9 v0 v16 v14 v15 v17 v5 v6 v11).bind fun ⟨v19,v20,v21,v22,v23,v24⟩=>bif v24 then (QgA v20 v13).bind fun v25=>QbT v19 v25 v21 v22 v23 v5 v24 v7 v8 v9 (Ev.wr .i64 (v10+1)) else some (.inl (v19,v20,v21,v22,v23,v24))
   |.inr v14=> some (.inl (v0,v1,v14,v3,v4,false)) else some (.inr (v0,v1,v2,v3,v4,v6)):=me 202
theorem Qja v0 v1 v2 v3 v4 v5 v6 v7 v8 v9 v10 v11 v12:Qgv v0 v1 v2 v3 v4 v5 v6 v7 v8 v9 v10 v11 v12=
 (QbJ v0 v1 v2 v3 v4 v5 v6 v7 v8 v9 v10 v11 v12 v12.length 0).bind fun
  |.inl _=> some (-1:Int)
  |.inr v13=> some v13:=me 203
theorem QgJ v0 v1 v2 v3:Qct v0 v1 v2 v3=
 bif decide (v3<v2) then (Sy.at' v1 v3).bind fun v4=>bif (decide ((v4.1.length * (8:Nat))≤(35184372088832:Nat))) then bif (decide (((v0.length+(1:Nat)) * (32:Nat))≤(35184372088832:Nat))) then Qct (v0++(v4::([]:List (Qak)))) v1 v2 (Ev.wr .i64 (v3+1)) else none else none else some v0:=me 204
theorem Qmk v0 v1:QjR v0 v1=
 (bif decide (v0.2=v1.2) then (QcQ v0.1 v1.1).bind fun v2=>some v2 else some false).bind fun v2=>some v2:=me 205
theorem Qlp v0 v1:QiO v0 v1=
 (Sy.at' v0 v1).bind fun v2=>some (!v2):=me 206
theorem Qud v0 v1 v2 v3 v4 v5 v6 v7 v8 v9:Qes v0 v1 v2 v3 v4 v5 v6 v7 v8 v9=
 bif (decide (v9<(v8.length:Int))) then bif (decide ((v0.length * (8:Nat))≤(35184372088832:Nat))) then (bif (decide (v7.1=(9:Int))) then (Sy.at' v7.2.2.2.2.2.2.2.2.1 v9).bind fun v10=>bif (decide (((v0.length+v10.1.length) * (8:Nat))≤(35184372088832:Nat))) then some (v0++v10.1) else none else (QeX v7).bind fun v10=>bif (decide (((v0.length+v10.length) * (8:Nat))≤(35184372088832:Nat))) then some (v0++v10) else none:Option (((List (Int))))).bind fun v10=>(Sy.at' v8 v9).bind fun v11=>(Qgi v1 v2 v10 v3 v4 v5 v6 v11).bind fun ⟨v12,v13,v14,v15⟩=>bif decide (v15=0) then Qes v0 v12 v13 v14 v15 v5 v6 v7 v8 (Ev.wr .i64 (v9+1)) else some (.inl (v12,v13,v14,v15)) else none else some (.inr (v1,v2,v3,v4)):=me 207
theorem Qew v0 v1 v2 v3 v4 v5 v6 v7 v8 v9 v10 v11 v12 v13 v14 v15 v16 v17:QaH v0 v1 v2 v3 v4 v5 v6 v7 v8 v9 v10 v11 v12 v13 v14 v15 v16 v17=
 bif decide (v17<v16) then (Sy.at' v15 v17).bind fun v18=>(bif (decide (v18<(0:Int))) then some true else some (!(decide (v18<(v9.length:Int))))).bind fun v19=>(bif v19 then some true else (Sy.at' v0 v18).bind fun v20=>some v20).bind fun v20=>bif v20 then some (.inl v0) else (Sy.at' v0 v18).bind fun v21=>QaH (List.set v0 v18.toNat true) v1 v2 v3 v4 v5 v6 v7 v8 v9 v10 v11 v12 v13 v14 v15 v16 (Ev.wr .i64 (v17+1)) else some (.inr v0):=me 208
theorem Qml v0 v1 v2 v3 v4:Qgw v0 v1 v2 v3 v4=
 (QbU v0 v1 v2 v3 v4 v4.length 0).bind fun
  | (.inl ⟨v5,v6,v7⟩)=>some (v5,v6,v7,false)
  | (.inr ⟨v5,v6,v7⟩)=>some (v5,v6,v7,true):=me 209
theorem Qdt v0 v1 v2 v3 v4 v5 v6 v7 v8 v9 v10 v11 v12 v13 v14:QbJ v0 v1 v2 v3 v4 v5 v6 v7 v8 v9 v10 v11 v12 v13 v14=
 bif decide (v14<v13) then (Sy.at' v12 v14).bind fun v15=>(Qfk v0 v1 v2 v3 v4 v5 v6 v7 v8 v9 v10 v11 v15).bind fun v16=>bif v16 then some (.inr v14) else QbJ v0 v1 v2 v3 v4 v5 v6 v7 v8 v9 v10 v11 v12 v13 (Ev.wr .i64 (v14+1)) else some (.inl ()):=me 210
theorem QuC v0 v1 v2 v3 v4 v5:Qe0 v0 v1 v2 v3 v4 v5=
 bif (decide (v5<(v2.2.2.2.1.length:Int))) then (Sy.at' v1 v5).bind fun v6=>bif v6 then Qe0 v0 v1 v2 v3 v4 (Ev.wr .i64 (v5+1)) else some (.inl ()) else some (.inr ()):=me 211
theorem QBK v0 v1 v2:Qgx v0 v1 v2=
 bif (decide (v2.1=(0:Int))) then (Sy.at' v2.2.2.1 0).bind fun v3=>(Qba v1 v3).bind fun v4=>some (decide (v4=v1.2.2.1)) else bif (decide (v2.1=(1:Int))) then (Qba v1 v2.2.1).bind fun v3=>some (decide (v3=0)) else bif (decide (v2.1=(2:Int))) then (bif (decide (v2.2.2.2.2.1<(5:Int))) then some (0:Int) else some (1:Int)).bind fun v3=>(Sy.at' v2.2.2.1 0).bind fun v4=>(Qba v1 v4).bind fun v5=>bif decide (v5=0) then (Sy.at' v2.2.2.1 1).bind fun v6=>(Qba v1 v6).bind fun v7=>bif decide (v7=0) then (Qba v1 v2.2.1).bind fun v8=>some (decide (v8=v3)) else some false else some false else bif (decide (v2.1=(3:Int))) then (Qba v1 v2.2.1).bind fun v3=>(Qg7 v0 v1 v3 v2.2.2.2.1 v2.2.2.1 (-1:Int)).bind fun v4=>some v4 else bif (decide (v2.1=(4:Int))) then (Sy.at' v2.2.2.1 0).bind fun v3=>(Qba v1 v2.2.1).bind fun v4=>(Qba v1 v3).bind fun v5=>bif decide (v4=v5) then (QfQ v0.1 v4).bind fun v6=>some (!v6) else some false else bif (decide (v2.1=(5:Int))) then (Sy.at' v2.2.2.1 0).bind fun v3=>(Qba v1 v3).bind fun v4=>(QfQ v0.1 v4).bind fun v5=>some (!v5) else bif (decide (v2.1=(6:Int))) then (Qg6 v0 v1 v2.2.2.2.2.2.1 v2.2.2.1).bind fun v3=>bif v3 then (Sy.at' v0.2 v2.2.2.2.2.2.1).bind fun v4=>(Qba v1 v2.2.1).bind fun v5=>some (decide (v5=v4.2.2.1)) else some false else bif (decide (v2.1=(7:Int))) then (Qg6 v0 v1 v2.2.2.2.2.2.1 v2.2.2.1).bind fun v3=>bif v3 then (Sy.at' v0.2 v2.2.2.2.2.2.1).bind fun v4=>some (decide (v1.2.2.1=v4.2.2.1)) else some false else bif (decide (v2.1=(8:Int))) then (bif (decide (v2.2.2.2.2.1<(0:Int))) then some true else some (!(decide (v2.2.2.2.2.1<(v2.2.2.1.length:Int))))).bind fun v3=>(bif v3 then some true else (Qg7 v0 v1 v1.2.2.1 v2.2.2.2.1 v2.2.2.1 v2.2.2.2.2.1).bind fun v4=>some (!v4)).bind fun v4=>bif v4 then some false else (Qg6 v0 v1 v2.2.2.2.2.2.1 v2.2.2.2.2.2.2.1).bind fun v5=>bif v5 then (Sy.at' v0.2 v2.2.2.2.2.2.1).bind fun v6=>(Sy.at' v0.1 (Ev.wr .i64 (v1.2.2.1 - 1))).bind fun v7=>(Sy.at' v7.2 v2.2.2.2.1).bind fun v8=>(Sy.at' v8.2 v2.2.2.2.2.1).bind fun v9=>some (decide (v6.2.2.1=v9)) else some false else (Sy.at' v2.2.2.1 0).bind fun v3=>(Qba v1 v3).bind fun v4=>bif (decide (v4<(1:Int))) then some false else (Sy.at' v0.1 (Ev.wr .i64 (v4 - 1))).bind fun v5=>bif (decide ((v2.2.2.2.2.2.2.2.2.1.length:Int)=(v5.2.length:Int))) then bif v2.2.2.2.2.2.2.2.1 then (QfQ v0.1 v4).bind fun v6=>bif v6 then some false else (Qe5 v0 v1 v2 v4 0).bind fun
   |.inl _=> some false
   |.inr _=> some true else (Qe5 v0 v1 v2 v4 0).bind fun
                      |.inl _=> some false
                      |.inr _=> some true else some false:=me 212
theorem QhW v0 v1 v2 v3 v4 v5:Qdh v0 v1 v2 v3 v4 v5=
 bif decide (v5<v4) then (Sy.at' v3 v5).bind fun v6=>(Sy.at' v1 v6).bind fun v7=>Qdh v0 (List.set v1 v6.toNat (Ev.wr .i64 (v2.2.1+v5))) v2 v3 v4 (Ev.wr .i64 (v5+1)) else some v1:=me 213
theorem Qcb v0 v1 v2 v3 v4 v5 v6 v7 v8 v9 v10 v11 v12 v13 v14 v15 v16:Qay v0 v1 v2 v3 v4 v5 v6 v7 v8 v9 v10 v11 v12 v13 v14 v15 v16=
 bif decide (v16<v15) then (Sy.at' v14 v16).bind fun v17=>(Sy.at' v1 v17).bind fun v18=>bif v18 then some (.inl v1) else Qay v0 (List.set v1 v17.toNat true) v2 v3 v4 v5 v6 v7 v8 v9 v10 v11 v12 v13 v14 v15 (Ev.wr .i64 (v16+1)) else some (.inr v1):=me 214
theorem Qfq v0 v1 v2 v3 v4 v5 v6:QbU v0 v1 v2 v3 v4 v5 v6=
 bif decide (v6<v5) then (Sy.at' v4 v6).bind fun v7=>(bif (decide (v7<(0:Int))) then some true else some (!(decide (v7<(v3.2.2.2.1.length:Int))))).bind fun v8=>(bif v8 then some true else (Sy.at' v0 v7).bind fun v9=>some v9).bind fun v9=>bif v9 then some (.inl (v0,v1,v2)) else (Sy.at' v0 v7).bind fun v10=>(Sy.at' v1 v7).bind fun v11=>bif (decide (((v2.length+(1:Nat)) * (8:Nat))≤(35184372088832:Nat))) then QbU (List.set v0 v7.toNat true) (List.set v1 v7.toNat true) (v2++(v7::([]:List (Int)))) v3 v4 v5 (Ev.wr .i64 (v6+1)) else none else some (.inr (v0,v1,v2)):=me 215
theorem QhX v0 v1 v2 v3 v4 v5 v6 v7 v8 v9 v10 v11 v12:Qfk v0 v1 v2 v3 v4 v5 v6 v7 v8 v9 v10 v11 v12=
 bif v12.2 then (QhM v3 v12.1).bind fun v13=>some v13 else some false:=me 216
theorem QBL v0 v1 v2:Qgy v0 v1 v2=
 (QeX v2).bind fun v3=>(Qdi v0 v1 v2 v3 0).bind fun
  |.inl _=> some false
  |.inr _=> some true:=me 217
theorem Qck v0 v1 v2 v3 v4 v5 v6 v7 v8 v9 v10 v11 v12 v13 v14 v15:Qbj v0 v1 v2 v3 v4 v5 v6 v7 v8 v9 v10 v11 v12 v13 v14 v15=
 bif decide (v15<v14) then (Sy.at' v13 v15).bind fun v16=>(QdT v12).bind fun v17=>(bif (decide (v12.1=(9:Int))) then (Sy.at' v12.2.2.2.2.2.2.2.2.1 v15).bind fun v18=>some v18.1 else some v17:Option (((List (Int))))).bind fun v18=>(Qbk v0 v1 v2 v3 v4 v5 v6 v7 v8 v9 v10 v11 v12 v16 v18 v13 v14 v15 v18 v18.length 0).bind fun v19=>(Qb8 v0 v1 v19 v3 v4 v5 v6 v7 v8 v9 v10 v11 v16).bind fun ⟨v20,v21,v22,v23,v24⟩=>bif decide (v24=0) then (Qbm v20 v21 v22 v3 v4 v5 v6 v7 v8 v9 v10 v11 v12 v13 v14 v15 v18 v18.length 0).bind fun v25=>Qbj v20 v21 v25 v3 v4 v5 v6 v7 v8 v9 v10 v11 v12 v13 v14 (Ev.wr .i64 (v15+1)) else some (.inr (v20,v21,v22,v23,v24)) else some (.inl (v0,v1,v2)):=me 218
theorem QC2 v0 v1:Qba v0 v1=
 (Sy.at' v0.2.2.2.1 v1).bind fun v2=>some v2.1:=me 219
theorem QAU v0 v1 v2 v3:Qg6 v0 v1 v2 v3=
 (Sy.at' v0.2 v2).bind fun v4=>(bif (decide (v4.2.1<(0:Int))) then some true else some (decide ((v4.2.2.2.1.length:Int)<v4.2.1))).bind fun v5=>(bif v5 then some true else some (!(decide ((v3.length:Int)=v4.2.1)))).bind fun v6=>bif v6 then some false else (Qgz v1 v4 v3 0).bind fun
   |.inl _=> some false
   |.inr _=> some true:=me 220
theorem QAV v0 v1 v2 v3 v4 v5:Qg7 v0 v1 v2 v3 v4 v5=
 (bif (decide (v2<(1:Int))) then some true else some (decide (v3<(0:Int)))).bind fun v6=>(bif v6 then some true else (Sy.at' v0.1 (Ev.wr .i64 (v2 - 1))).bind fun v7=>some (!(decide (v3<(v7.2.length:Int))))).bind fun v7=>(bif v7 then some true else (Sy.at' v0.1 (Ev.wr .i64 (v2 - 1))).bind fun v8=>(Sy.at' v8.2 v3).bind fun v9=>some (!(decide ((v4.length:Int)=(v9.2.length:Int))))).bind fun v8=>bif v8 then some false else (Qet v0 v1 v2 v3 v4 v5 0).bind fun
   |.inl _=> some false
   |.inr _=> some true:=me 221
theorem QsM v0 v1:QhM v0 v1=
 ((Qg5 v0 v1).bind fun v2=>bif v2 then (Qm5 v0 v1).bind fun v3=>(QcE v3).bind fun v4=>some (!v4) else some false).bind fun v2=>some v2:=me 222
theorem Qj0 v0 v1 v2 v3 v4 v5 v6 v7 v8 v9 v10 v11 v12:QaO v0 v1 v2 v3 v4 v5 v6 v7 v8 v9 v10 v11 v12=
 bif (decide (v12.1=(0:Int))) then (Sy.at' v12.2.2.1 0).bind fun v13=>(Qaq v0 v1 v2 v3 v4 v5 v6 v7 v8 v9 v10 v11 v13).bind fun v14=>some (decide (v14=v7)) else bif (decide (v12.1=(1:Int))) then (Qaq v0 v1 v2 v3 v4 v5 v6 v7 v8 v9 v10 v11 v12.2.1).bind fun v13=>some (decide (v13=0)) else bif (decide (v12.1=(2:Int))) then (bif (decide (v12.2.2.2.2.1<(5:Int))) then some (0:Int) else some (1:Int)).bind fun v13=>((QcH v0 v1 v2 ((0:Int)::((0:Int)::([]:List (Int)))) v3 v4 v5 v6 v7 v8 v9 v10 v11 v12.2.2.1 (-1:Int)).bind fun v14=>bif v14 then (Qaq v0 v1 v2 v3 v4 v5 v6 v7 v8 v9 v10 v11 v12.2.1).bind fun v15=>some (decide (v15=v13)) else some false).bind fun v14=>some v14 else bif (decide (v12.1=(3:Int))) then (Qaq v0 v1 v2 v3 v4 v5 v6 v7 v8 v9 v10 v11 v12.2.1).bind fun v13=>(Qci v0 v1 v2 v3 v4 v5 v6 v7 v8 v9 v10 v11 v13 v12.2.2.2.1).bind fun
   |.inl _=> some false
   |.inr v14=> (Qbn v0 v1 v2 v3 v4 v5 v6 v7 v8 v9 v10 v11 v12.2.2.1 v14 (-1:Int)).bind fun v15=>some v15 else bif (decide (v12.1=(4:Int))) then (Sy.at' v12.2.2.1 0).bind fun v13=>(Qaq v0 v1 v2 v3 v4 v5 v6 v7 v8 v9 v10 v11 v12.2.1).bind fun v14=>(Qaq v0 v1 v2 v3 v4 v5 v6 v7 v8 v9 v10 v11 v13).bind fun v15=>bif decide (v14=v15) then (Qbl v0 v1 v2 v3 v4 v5 v6 v7 v8 v9 v10 v11 v12.2.1).bind fun v16=>some (!v16) else some false else bif (decide (v12.1=(5:Int))) then (Sy.at' v12.2.2.1 0).bind fun v13=>(Qbl v0 v1 v2 v3 v4 v5 v6 v7 v8 v9 v10 v11 v13).bind fun v14=>some (!v14) else bif (decide (v12.1=(6:Int))) then (Qca v0 v1 v2 v3 v4 v5 v6 v7 v8 v9 v10 v11 v12.2.2.2.2.2.1 v12.2.2.1).bind fun v13=>bif v13 then (Sy.at' v4 v12.2.2.2.2.2.1).bind fun v14=>(Qaq v0 v1 v2 v3 v4 v5 v6 v7 v8 v9 v10 v11 v12.2.1).bind fun v15=>some (decide (v15=v14.2.2.1)) else some false else bif (decide (v12.1=(7:Int))) then (Qca v0 v1 v2 v3 v4 v5 v6 v7 v8 v9 v10 v11 v12.2.2.2.2.2.1 v12.2.2.1).bind fun v13=>bif v13 then (Sy.at' v4 v12.2.2.2.2.2.1).bind fun v14=>some (decide (v7=v14.2.2.1)) else some false else bif (decide (v12.1=(8:Int))) then (Qci v0 v1 v2 v3 v4 v5 v6 v7 v8 v9 v10 v11 v7 v12.2.2.2.1).bind fun
     |.inl _=> some false
     |.inr v13=> (bif (decide (v12.2.2.2.2.1<(0:Int))) then some true else some (!(decide (v12.2.2.2.2.1<(v13.length:Int))))).bind fun v14=>(bif v14 then some true else (Qbn v0 v1 v2 v3 v4 v5 v6 v7 v8 v9 v10 v11 v12.2.2.1 v13 v12.2.2.2.2.1).bind fun v15=>some (!v15)).bind fun v15=>bif v15 then some false else (Qca v0 v1 v2 v3 v4 v5 v6 v7 v8 v9 v10 v11 v12.2.2.2.2.2.1 v12.2.2.2.2.2.2.1).bind fun v16=>bif v16 then (Sy.at' v4 v12.2.2.2.2.2.1).bind fun v17=>(Sy.at' v13 v12.2.2.2.2.1).bind fun v18=>some (decide (v17.2.2.1=v18)) else some false else (Sy.at' v12.2.2.1 0).bind fun v13=>(Qaq v0 v1 v2 v3 v4 v5 v6 v7 v8 v9 v10 v11 v13).bind fun v14=>bif (decide (v14<(1:Int))) then some false else (Sy.at' v3 (Ev.wr .i64 (v14 - 1))).bind fun v15=>bif (decide ((v12.2.2.2.2.2.2.2.2.1.length:Int)=(v15.2.length:Int))) then bif v12.2.2.2.2.2.2.2.1 then (Qbl v0 v1 v2 v3 v4 v5 v6 v7 v8 v9 v10 v11 v13).bind fun v16=>bif v16 then some false else (QaR v0 v1 v2 v3 v4 v5 v6 v7 v8 v9 v10 v11 v14 v12.2.2.2.2.2.2.2.2.1 v12.2.2.2.2.2.2.2.2.1.length 0).bind fun
       |.inl _=> some false
       |.inr _=> some true else (QaR v0 v1 v2 v3 v4 v5 v6 v7 v8 v9 v10 v11 v14 v12.2.2.2.2.2.2.2.2.1 v12.2.2.2.2.2.2.2.2.1.length 0).bind fun
           |.inl _=> some false
           |.inr _=> some true else some false:=me 223
theorem Qyt v0 v1 v2 v3 v4:Qe5 v0 v1 v2 v3 v4=
 bif (decide (v4<(v2.2.2.2.2.2.2.2.2.1.length:Int))) then (Sy.at' v2.2.2.2.2.2.2.2.2.1 v4).bind fun v5=>(Qg7 v0 v1 v3 v4 v5.1 (-1:Int)).bind fun v6=>bif v6 then Qe5 v0 v1 v2 v3 (Ev.wr .i64 (v4+1)) else some (.inl ()) else some (.inr ()):=me 224
theorem Qyu v0 v1 v2 v3 v4:Qdi v0 v1 v2 v3 v4=
 bif (decide (v4<(v3.length:Int))) then bif (decide (v2.1=(9:Int))) then bif v2.2.2.2.2.2.2.2.1 then (Sy.at' v3 v4).bind fun v5=>(Sy.at' v1.2.2.2.1 v5).bind fun v6=>bif (!v6.2) then Qdi v0 v1 v2 v3 (Ev.wr .i64 (v4+1)) else some (.inl ()) else (Sy.at' v3 v4).bind fun v5=>(Qba v1 v5).bind fun v6=>(QfQ v0.1 v6).bind fun v7=>(Sy.at' v1.2.2.2.1 v5).bind fun v8=>bif (v8.2==(!v7)) then Qdi v0 v1 v2 v3 (Ev.wr .i64 (v4+1)) else some (.inl ()) else (Sy.at' v3 v4).bind fun v5=>(Sy.at' v1.2.2.2.1 v5).bind fun v6=>bif (!v6.2) then Qdi v0 v1 v2 v3 (Ev.wr .i64 (v4+1)) else some (.inl ()) else some (.inr ()):=me 225
theorem Qex v0 v1 v2 v3 v4 v5 v6 v7 v8 v9 v10 v11 v12 v13 v14 v15 v16 v17 v18 v19 v20:Qbk v0 v1 v2 v3 v4 v5 v6 v7 v8 v9 v10 v11 v12 v13 v14 v15 v16 v17 v18 v19 v20=
 bif decide (v20<v19) then (Sy.at' v18 v20).bind fun v21=>(Sy.at' v2 v21).bind fun v22=>Qbk v0 v1 (List.set v2 v21.toNat true) v3 v4 v5 v6 v7 v8 v9 v10 v11 v12 v13 v14 v15 v16 v17 v18 v19 (Ev.wr .i64 (v20+1)) else some v2:=me 226
theorem Qw8 v0 v1 v2 v3:Qgz v0 v1 v2 v3=
 bif (decide (v3<(v2.length:Int))) then (Sy.at' v2 v3).bind fun v4=>bif (decide (v4<(0:Int))) then some (.inl ()) else (Sy.at' v1.2.2.2.1 v3).bind fun v5=>(Qba v0 v4).bind fun v6=>bif decide (v6=v5.1) then Qgz v0 v1 v2 (Ev.wr .i64 (v3+1)) else some (.inl ()) else some (.inr ()):=me 227
theorem Qw9 v0 v1 v2 v3 v4 v5 v6:Qet v0 v1 v2 v3 v4 v5 v6=
 bif (decide (v6<(v4.length:Int))) then bif decide (v6=v5) then (Sy.at' v4 v6).bind fun v7=>bif (decide (v7=(-1:Int))) then Qet v0 v1 v2 v3 v4 v5 (Ev.wr .i64 (v6+1)) else some (.inl ()) else (Sy.at' v4 v6).bind fun v7=>bif (decide (v7<(0:Int))) then some (.inl ()) else (Sy.at' v0.1 (Ev.wr .i64 (v2 - 1))).bind fun v8=>(Sy.at' v8.2 v3).bind fun v9=>(Sy.at' v9.2 v6).bind fun v10=>(Qba v1 v7).bind fun v11=>bif decide (v11=v10) then Qet v0 v1 v2 v3 v4 v5 (Ev.wr .i64 (v6+1)) else some (.inl ()) else some (.inr ()):=me 228
theorem QsN v0 v1:Qm5 v0 v1=
 (bif (decide (v1<(1:Int))) then some true else some (decide ((v0.length:Int)<v1))).bind fun v2=>bif v2 then some ([]:List (GCon)) else (Sy.at' v0 (Ev.wr .i64 (v1 - 1))).bind fun v3=>some v3.2:=me 229
theorem Qmm v0 v1:QgA v0 v1=
 (QbV v0 v1 v1.length 0).bind fun v2=>some v2:=me 230
theorem Qhu v0:QcE v0=
 (QgB v0).bind fun v1=>some (!(decide (v1<(0:Int)))):=me 231
theorem QiA v0 v1 v2 v3 v4 v5 v6 v7 v8 v9 v10 v11 v12:Qaq v0 v1 v2 v3 v4 v5 v6 v7 v8 v9 v10 v11 v12=
 (Sy.at' v8 v12).bind fun v13=>some v13.1:=me 232
theorem Qj1 v0 v1 v2 v3 v4 v5 v6 v7 v8 v9 v10 v11 v12 v13 v14:QcH v0 v1 v2 v3 v4 v5 v6 v7 v8 v9 v10 v11 v12 v13 v14=
 bif (decide ((v13.length:Int)=(v3.length:Int))) then (Qbe v0 v1 v2 v3 v4 v5 v6 v7 v8 v9 v10 v11 v12 v14 v13 v13.length 0).bind fun
   |.inl _=> some false
   |.inr _=> some true else some false:=me 233
theorem QiB v0 v1 v2 v3 v4 v5 v6 v7 v8 v9 v10 v11 v12:Qbl v0 v1 v2 v3 v4 v5 v6 v7 v8 v9 v10 v11 v12=
 (Qaq v0 v1 v2 v3 v4 v5 v6 v7 v8 v9 v10 v11 v12).bind fun v13=>(QhM v3 v13).bind fun v14=>some v14:=me 234
theorem QkE v0 v1 v2 v3 v4 v5 v6 v7 v8 v9 v10 v11 v12 v13:Qca v0 v1 v2 v3 v4 v5 v6 v7 v8 v9 v10 v11 v12 v13=
 (QdL v0 v1 v2 v3 v4 v5 v6 v7 v8 v9 v10 v11 v12).bind fun ⟨v14,v15⟩=>(bif v15 then (QcH v0 v1 v2 v14 v3 v4 v5 v6 v7 v8 v9 v10 v11 v13 (-1:Int)).bind fun v16=>some v16 else some false).bind fun v16=>some v16:=me 235
theorem Qjb v0 v1 v2 v3 v4 v5 v6 v7 v8 v9 v10 v11 v12 v13:Qci v0 v1 v2 v3 v4 v5 v6 v7 v8 v9 v10 v11 v12 v13=
 (bif (decide (v12<(1:Int))) then some true else some (decide (v13<(0:Int)))).bind fun v14=>(bif v14 then some true else (Sy.at' v3 (Ev.wr .i64 (v12 - 1))).bind fun v15=>some (!(decide (v13<(v15.2.length:Int))))).bind fun v15=>bif v15 then some (.inl ()) else (Sy.at' v3 (Ev.wr .i64 (v12 - 1))).bind fun v16=>(Sy.at' v16.2 v13).bind fun v17=>some (.inr v17.2):=me 236
theorem Qey v0 v1 v2 v3 v4 v5 v6 v7 v8 v9 v10 v11 v12 v13 v14 v15 v16 v17 v18:Qbm v0 v1 v2 v3 v4 v5 v6 v7 v8 v9 v10 v11 v12 v13 v14 v15 v16 v17 v18=
 bif decide (v18<v17) then (Sy.at' v16 v18).bind fun v19=>(Sy.at' v2 v19).bind fun v20=>Qbm v0 v1 (List.set v2 v19.toNat false) v3 v4 v5 v6 v7 v8 v9 v10 v11 v12 v13 v14 v15 v16 v17 (Ev.wr .i64 (v18+1)) else some v2:=me 237
theorem Qfr v0 v1 v2 v3:QbV v0 v1 v2 v3=
 bif decide (v3<v2) then (Sy.at' v1 v3).bind fun v4=>(Sy.at' v0 v4).bind fun v5=>QbV (List.set v0 v4.toNat false) v1 v2 (Ev.wr .i64 (v3+1)) else some v0:=me 238
theorem Qjc v0:QgB v0=
 (QbK v0 v0.length 0).bind fun
  |.inl _=> some (-1:Int)
  |.inr v1=> some v1:=me 239
theorem QdX v0 v1 v2 v3 v4 v5 v6 v7 v8 v9 v10 v11 v12 v13 v14 v15 v16:Qbe v0 v1 v2 v3 v4 v5 v6 v7 v8 v9 v10 v11 v12 v13 v14 v15 v16=
 bif decide (v16<v15) then (Sy.at' v14 v16).bind fun v17=>bif decide (v16=v13) then bif (decide (v17=(-1:Int))) then Qbe v0 v1 v2 v3 v4 v5 v6 v7 v8 v9 v10 v11 v12 v13 v14 v15 (Ev.wr .i64 (v16+1)) else some (.inl ()) else bif (decide (v17<(0:Int))) then some (.inl ()) else (Sy.at' v9 v17).bind fun v18=>(Sy.at' v3 v16).bind fun v19=>bif decide (v18.1=v19) then Qbe v0 v1 v2 v3 v4 v5 v6 v7 v8 v9 v10 v11 v12 v13 v14 v15 (Ev.wr .i64 (v16+1)) else some (.inl ()) else some (.inr ()):=me 240
theorem Qjd v0 v1 v2 v3 v4 v5 v6 v7 v8 v9 v10 v11 v12:QdL v0 v1 v2 v3 v4 v5 v6 v7 v8 v9 v10 v11 v12=
 (Sy.at' v4 v12).bind fun v13=>(bif (decide (v13.2.1<(0:Int))) then some true else some (decide ((v13.2.2.2.1.length:Int)<v13.2.1))).bind fun v14=>bif v14 then some (([]:List (Int)),false) else bif (decide (v13.2.1<(0:Int))) then none else bif (decide ((v13.2.2.2.1.length:Int)<v13.2.1)) then none else (Qa3 v0 v1 v2 ([]:List (Int)) v3 v4 v5 v6 v7 v8 v9 v10 v11 (List.take v13.2.1.toNat v13.2.2.2.1) ((List.take v13.2.1.toNat v13.2.2.2.1).length:Int) 0).bind fun v15=>some (v15,true):=me 241
theorem QiC v0 v1 v2 v3 v4 v5 v6 v7 v8 v9 v10 v11 v12 v13 v14:Qbn v0 v1 v2 v3 v4 v5 v6 v7 v8 v9 v10 v11 v12 v13 v14=
 bif (decide ((v12.length:Int)=(v13.length:Int))) then (QaY v0 v1 v2 v3 v4 v5 v6 v7 v8 v9 v10 v11 v13 v14 v12 v12.length 0).bind fun
   |.inl _=> some false
   |.inr _=> some true else some false:=me 242
theorem QdY v0 v1 v2 v3 v4 v5 v6 v7 v8 v9 v10 v11 v12 v13 v14 v15:QaR v0 v1 v2 v3 v4 v5 v6 v7 v8 v9 v10 v11 v12 v13 v14 v15=
 bif decide (v15<v14) then (Sy.at' v13 v15).bind fun v16=>(Sy.at' v3 (Ev.wr .i64 (v12 - 1))).bind fun v17=>(Sy.at' v17.2 v15).bind fun v18=>(Qbn v0 v1 v2 v3 v4 v5 v6 v7 v8 v9 v10 v11 v16.1 v18.2 (-1:Int)).bind fun v19=>bif v19 then QaR v0 v1 v2 v3 v4 v5 v6 v7 v8 v9 v10 v11 v12 v13 v14 (Ev.wr .i64 (v15+1)) else some (.inl ()) else some (.inr ()):=me 243
theorem Qdu v0 v1 v2:QbK v0 v1 v2=
 bif decide (v2<v1) then (Sy.at' v0 v2).bind fun v3=>(QnM v3).bind fun v4=>bif v4 then some (.inr v2) else QbK v0 v1 (Ev.wr .i64 (v2+1)) else some (.inl ()):=me 244
theorem Qdv v0 v1 v2 v3 v4 v5 v6 v7 v8 v9 v10 v11 v12 v13 v14 v15:Qa3 v0 v1 v2 v3 v4 v5 v6 v7 v8 v9 v10 v11 v12 v13 v14 v15=
 bif decide (v15<v14) then (Sy.at' v13 v15).bind fun v16=>bif (decide (((v3.length+(1:Nat)) * (8:Nat))≤(35184372088832:Nat))) then Qa3 v0 v1 v2 (v3++(v16.1::([]:List (Int)))) v4 v5 v6 v7 v8 v9 v10 v11 v12 v13 v14 (Ev.wr .i64 (v15+1)) else none else some v3:=me 245
theorem QdZ v0 v1 v2 v3 v4 v5 v6 v7 v8 v9 v10 v11 v12 v13 v14 v15:Qam v0 v1 v2 v3 v4 v5 v6 v7 v8 v9 v10 v11 v12 v13 v14 v15=
 bif decide (v15<v14) then (Sy.at' v13 v15).bind fun v16=>(Sy.at' v8 v16).bind fun v17=>bif (decide (v12.1=(9:Int))) then bif v12.2.2.2.2.2.2.2.1 then bif (!v17.2) then Qam v0 v1 v2 v3 v4 v5 v6 v7 v8 v9 v10 v11 v12 v13 v14 (Ev.wr .i64 (v15+1)) else some (.inl ()) else (QhM v3 v17.1).bind fun v18=>bif (v17.2==(!v18)) then Qam v0 v1 v2 v3 v4 v5 v6 v7 v8 v9 v10 v11 v12 v13 v14 (Ev.wr .i64 (v15+1)) else some (.inl ()) else bif (!v17.2) then Qam v0 v1 v2 v3 v4 v5 v6 v7 v8 v9 v10 v11 v12 v13 v14 (Ev.wr .i64 (v15+1)) else some (.inl ()) else some (.inr ()):=me 246
theorem Qc0 v0 v1 v2 v3 v4 v5 v6 v7 v8 v9 v10 v11 v12 v13 v14 v15 v16:QaY v0 v1 v2 v3 v4 v5 v6 v7 v8 v9 v10 v11 v12 v13 v14 v15 v16=
 bif decide (v16<v15) then (Sy.at' v14 v16).bind fun v17=>bif decide (v16=v13) then bif (decide (v17=(-1:Int))) then QaY v0 v1 v2 v3 v4 v5 v6 v7 v8 v9 v10 v11 v12 v13 v14 v15 (Ev.wr .i64 (v16+1)) else some (.inl ()) else bif (decide (v17<(0:Int))) then some (.inl ()) else (Sy.at' v8 v17).bind fun v18=>(Sy.at' v12 v16).bind fun v19=>bif decide (v18.1=v19) then QaY v0 v1 v2 v3 v4 v5 v6 v7 v8 v9 v10 v11 v12 v13 v14 v15 (Ev.wr .i64 (v16+1)) else some (.inl ()) else some (.inr ()):=me 247
theorem QpV v0:QnM v0=
 some (decide ((0:Int)<(v0.2.length:Int))):=me 248
theorem QkF v0:Qe1 v0=
 (Qil).bind fun v1=>bif v1 then ((QjH v0).bind fun v2=>bif v2 then (QeR v0).bind fun v3=>some (!(decide (v3=0))) else some true).bind fun v2=>bif v2 then some true else (Qb2 ([]:List (GFun)) ([]:List (GFun)) v0 v0.1 v0.1 0).bind fun
   |.inl _=> some false
   | (.inr ⟨v3,v4⟩)=>((QeR (v0.1,v3)).bind fun v5=>bif decide (v5=0) then (QeR (v0.1,v4)).bind fun v6=>some (decide (v6=0)) else some false).bind fun v5=>(bif v5 then (Qcg v0 (v0.1,v3)).bind fun v6=>some v6 else some false).bind fun v6=>(bif v6 then (Qcg v0 (v0.1,v4)).bind fun v7=>some v7 else some false).bind fun v7=>(bif v7 then (Qcg (v0.1,v4) (v0.1,v3)).bind fun v8=>some v8 else some false).bind fun v8=>some v8 else some false:=me 249
theorem Qez v0 v1 v2 v3 v4 v5:Qb2 v0 v1 v2 v3 v4 v5=
 bif (decide (v5<(v2.2.length:Int))) then (Sy.at' v2.2 v5).bind fun v6=>(Qbb v6).bind fun ⟨v7,v8⟩=>bif decide (v8=0) then (Qcw v6).bind fun v9=>bif (decide (((v0.length+(1:Nat)) * (96:Nat))≤(35184372088832:Nat))) then bif (decide (((v1.length+(1:Nat)) * (96:Nat))≤(35184372088832:Nat))) then Qb2 (v0++(v9::([]:List (GFun)))) (v1++(v7::([]:List (GFun)))) v2 v3 v4 (Ev.wr .i64 (v5+1)) else none else none else some (.inl ()) else some (.inr (v0,v1)):=me 250
theorem Qm8 v0:Qcw v0=
 bif (decide ((v0.2.2.2.2.1.length:Int)<(0:Int))) then none else bif (decide (((v0.2.2.2.2.1.length:Int).toNat * (128:Nat))≤(140737488355328:Nat))) then (QcX ([]:List (GVar)) ([]:List (Qab)) (List.replicate (v0.2.2.2.2.1.length:Int).toNat ((0:Int),((0:Int),(([]:List (Int)),((0:Int),((0:Int),((0:Int),(([]:List (Int)),(false,(([]:List (Qak)),(0:Int))))))))))) v0 ([]:List UInt8) 0 0 0 (false) v0.1 v0.2.1 v0.2.2.1 v0.2.2.2.1 v0.2.2.2.2.2.1 v0.2.2.2.2.2.2 (Ev.wr .i64 ((v0.2.2.2.2.1.length:Int) - 1)) 0).bind fun v1=>(bif v0.2.2.2.2.2.2 then some v0.2.2.2.2.2.1 else some (Ev.wr .i64 ((Ev.wr .i64 ((v0.2.2.2.2.1.length:Int) - 1)) - v0.2.2.2.2.2.1))).bind fun v2=>some (v0.1,(v0.2.1,(v0.2.2.1,(v0.2.2.2.1,(v1,(v2,v0.2.2.2.2.2.2)))))) else none:=me 251
theorem QfA v0 v1 v2 v3 v4 v5 v6 v7 v8 v9 v10 v11 v12 v13 v14 v15 v16:QcX v0 v1 v2 v3 v4 v5 v6 v7 v8 v9 v10 v11 v12 v13 v14 v15 v16=
 bif decide (v15<v16) then some v2 else (Sy.at' v3.2.2.2.2.1 v16).bind fun v17=>(((Qep v17).bind fun v18=>bif (decide ((0:Int)<(v18.length:Int))) then some (!(decide (v17.1=(9:Int)))) else some false).bind fun v18=>bif v18 then some (v17.1,(v17.2.1,(v17.2.2.1,(v17.2.2.2.1,(v17.2.2.2.2.1,(v17.2.2.2.2.2.1,(v17.2.2.2.2.2.2.1,(v17.2.2.2.2.2.2.2.1,(v17.2.2.2.2.2.2.2.2.1,(Ev.wr .i64 (v15 - v17.2.2.2.2.2.2.2.2.2))))))))))) else some v17:Option Qab).bind fun v18=>(QcY v0 v1 v2 ([]:List (Qak)) v3 v4 v5 v6 v7 v8 v9 v10 v11 v12 v13 v14 v18 v15 v16 0).bind fun v19=>(Sy.at' v2 (Ev.wr .i64 (v15 - v16))).bind fun v20=>QcX v0 v1 (List.set v2 (Ev.wr .i64 (v15 - v16)).toNat (v18.1,(v18.2.1,(v18.2.2.1,(v18.2.2.2.1,(v18.2.2.2.2.1,(v18.2.2.2.2.2.1,(v18.2.2.2.2.2.2.1,(v18.2.2.2.2.2.2.2.1,(v19,v18.2.2.2.2.2.2.2.2.2)))))))))) v3 v4 v5 v6 v7 v8 v9 v10 v11 v12 v13 v14 v15 (Ev.wr .i64 (v16+1)):=me 252
theorem QfB v0 v1 v2 v3 v4 v5 v6 v7 v8 v9 v10 v11 v12 v13 v14 v15 v16 v17 v18 v19:QcY v0 v1 v2 v3 v4 v5 v6 v7 v8 v9 v10 v11 v12 v13 v14 v15 v16 v17 v18 v19=
 bif (decide (v19<(v16.2.2.2.2.2.2.2.2.1.length:Int))) then (Sy.at' v16.2.2.2.2.2.2.2.2.1 v19).bind fun v20=>bif (decide (((v3.length+(1:Nat)) * (32:Nat))≤(35184372088832:Nat))) then QcY v0 v1 v2 (v3++((v20.1,(Ev.wr .i64 (v17 - v20.2)))::([]:List (Qak)))) v4 v5 v6 v7 v8 v9 v10 v11 v12 v13 v14 v15 v16 v17 v18 (Ev.wr .i64 (v19+1)) else none else some v3:=me 253
theorem QqB (s sep:List UInt8):strings_Cut s sep=cutM s sep:=QEz ctx tb G 2 (by kernel_rfl) (s,sep)
theorem QpW (s cs:List UInt8):QnG s cs=QvD s cs:=QEz ctx tb G 3 (by kernel_rfl) (s,cs)
end
end Go.Proofs.YtkecfadnfnnfaaaGreatDoor.LabB
