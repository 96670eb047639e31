/- The models of this program's functions and loops, and their equations. -/
import Derived.Test.YtkecfadnfnnfaaaGreatDoorFamB
import Derived.Test.YtkecfadnfnnfaaaGreatDoorSyW
import Derived.KernelRfl
set_option maxRecDepth 100000
set_option linter.all false
namespace Go.Proofs.YtkecfadnfnnfaaaGreatDoor.LabB
open Go Go.Ev Go.Sy
abbrev Qwz:Type:=(List UInt8)×(Int)
abbrev GVar:Type:=(Int)×(Bool)
abbrev QDL:Type:=(Int)×(Int)
abbrev Qas:Type:=(List (Int))×(Int)
abbrev GCon:Type:=(List UInt8)×(List (Int))
abbrev QGS:Type:=(List (Bool))×(List (Bool))
abbrev QDM:Type:=(Int)×((Int)×((Bool)×(Int)))
abbrev Qak:Type:=(List UInt8)×(List (GCon))
abbrev QGy:Type:=(List (Bool))×((List (Bool))×((Int)×(Int)))
abbrev QA9:Type:=(Int)×((Bool)×((Bool)×((Bool)×((Bool)×((Bool)×((Bool)×((Bool)×(Bool))))))))
abbrev Qae:Type:=(Int)×((Int)×((List (Int))×((Int)×((Int)×((Int)×((List (Int))×((Bool)×((List (Qas))×(Int)))))))))
abbrev GFun:Type:=(List UInt8)×((Int)×((Int)×((List (GVar))×((List (Qae))×(GVar)))))
abbrev QGT:Type:=(GFun)×((List (Int))×(Bool))
abbrev Qag:Type:=(List (Qak))×(List (GFun))
abbrev QGz:Type:=(GFun)×((List (Int))×((List (Int))×((List (Int))×(GVar))))
abbrev Gfun:Type:=(Qag)×((GFun)×((List (Bool))×(List (Int))))
abbrev QHh:Type:=(Qag)×((GFun)×((List (Int))×((Bool)×((Int)×(Int)))))
abbrev QGA:Type:=(Qag)×((GFun)×((List (Bool))×(QGS)))
abbrev QGU:Type:=(Qag)×((GFun)×((List (Int))×(List (Qae))))
theorem P2:tb.P 2=[.str,.str]:=by kernel_rfl
theorem O2':tb.O 2=[[.str,.str,.bool]]:=by kernel_rfl
theorem P3:tb.P 3=[.str,.str]:=by kernel_rfl
theorem O3':tb.O 3=[[.str]]:=by kernel_rfl
theorem O1':tb.O 1=[[.bool]]:=by kernel_rfl
def G1:Pr (tb.P 1)→Option (Sm (tb.O 1)):=fun _=>O1'▸(some true:Option (Sm [[.bool]]))
def G2:Pr (tb.P 2)→Option (Sm (tb.O 2)):=fun x=>O2'▸(let y:List UInt8×List UInt8:=(P2▸x:Pr [.str,.str]); (cutM y.1 y.2:Option (Sm [[.str,.str,.bool]])))
def G3:Pr (tb.P 3)→Option (Sm (tb.O 3)):=fun x=>O3'▸(let y:List UInt8×List UInt8:=(P3▸x:Pr [.str,.str]); (Qwy y.1 y.2:Option (Sm [[.str]])))
noncomputable section
noncomputable def G:Mod tb:=fun i=>match i with |1=>G1 |2=>G2 |3=>G3 |_=>fun _=>none
theorem me (i:Nat){x:Pr (tb.P i)}{r:Option (Sm (tb.O i))}(h:(tb.fam i).ext=false:=by kernel_rfl)(e:(body ctx tb i).den tb.P tb.O (M ctx tb G) (tb.O i) (env0 (tb.P i) x)=r:=by kernel_rfl):M ctx tb G i x=r:=(M_eq ctx tb G i h x).trans e
def Qdx (v0 v1:Qag):Option Bool:=M ctx tb G 0 (v0,v1)
def Qmc:Option Bool:=M ctx tb G 1 ()
def strings_Cut (v0 v1:List UInt8):Option (List UInt8×List UInt8×Bool):=M ctx tb G 2 (v0,v1)
def QoP (v0 v1:List UInt8):Option (List UInt8):=M ctx tb G 3 (v0,v1)
def Qm3 (v0:Qag):Option Bool:=M ctx tb G 4 v0
def Qmd (v0 v1:Qag):Option Bool:=M ctx tb G 5 (v0,v1)
def QfC (v0:Qag)(v1:List Qak)(v2 v3:Int):Option (Unit⊕Unit):=M ctx tb G 6 (v0,v1,v2,v3)
def Qn4 (v0 v1:Qag):Option Bool:=M ctx tb G 7 (v0,v1)
def Qlm (v0:Qag):Option Int:=M ctx tb G 8 v0
def QfD (v0:Qag)(v1:List Qak)(v2 v3:Int)(v4:List GCon)(v5 v6:Int):Option (Unit⊕Unit):=M ctx tb G 9 (v0,v1,v2,v3,v4,v5,v6)
def QfE (v0:List GFun)(v1 v2:Int):Option (Unit⊕Unit):=M ctx tb G 10 (v0,v1,v2)
def Qfn (v0 v1:List Qak):Option Bool:=M ctx tb G 11 (v0,v1)
def Qje (v0:Qag):Option Int:=M ctx tb G 12 v0
def Qme (v0:List Qak):Option Int:=M ctx tb G 13 v0
def QgQ (v0 v1:List Qak):Option Bool:=M ctx tb G 14 (v0,v1)
def QeP (v0:Qag)(v1 v2:Int):Option (Unit⊕Int):=M ctx tb G 15 (v0,v1,v2)
def QfF (v0:List GFun)(v1 v2:Int)(v3:List Qae)(v4 v5:Int):Option (Unit⊕Unit):=M ctx tb G 16 (v0,v1,v2,v3,v4,v5)
def Qb9 (v0 v1:List Qak)(v2 v3:Int):Option (Unit⊕Unit):=M ctx tb G 17 (v0,v1,v2,v3)
def Qmf (v0:List Qak):Option Int:=M ctx tb G 18 v0
def Qn5 (v0:List Qak):Option Bool:=M ctx tb G 19 v0
def QeQ (v0 v1:Qag)(v2:Int):Option (Unit⊕Unit):=M ctx tb G 20 (v0,v1,v2)
def QdG (v0:Qag)(v1:Int):Option (Unit⊕Int):=M ctx tb G 21 (v0,v1)
def QkD (v0:List Qak):Option Bool:=M ctx tb G 22 v0
def QcP (v0 v1:List Qak)(v2:Int):Option (Unit⊕Unit):=M ctx tb G 23 (v0,v1,v2)
def Qjf (v0:Qag)(v1:Int):Option (Int×Int):=M ctx tb G 24 (v0,v1)
def QfG (v0:List GFun)(v1 v2:Int)(v3:List Qae)(v4 v5:Int)(v6:List Qas)(v7 v8:Int):Option (Unit⊕Unit):=M ctx tb G 25 (v0,v1,v2,v3,v4,v5,v6,v7,v8)
def Qm4 (v0 v1:Qak):Option Bool:=M ctx tb G 26 (v0,v1)
def Qn6 (v0:List Qak):Option Bool:=M ctx tb G 27 v0
def Qgi (v0:List Qak)(v1 v2:Int):Option (Unit⊕Unit):=M ctx tb G 28 (v0,v1,v2)
def Qmg (v0:List Qak):Option Bool:=M ctx tb G 29 v0
def QkE (v0:List Qak):Option Bool:=M ctx tb G 30 v0
def Qc6 (v0:GFun):Option (GFun×Int):=M ctx tb G 31 v0
def Qh4 (v0:Qag)(v1:Int):Option (Int×Int):=M ctx tb G 32 (v0,v1)
def Qc7 (v0:List Qak)(v1 v2:Int):Option (Unit⊕Unit):=M ctx tb G 33 (v0,v1,v2)
def QcQ (v0 v1:List Qak)(v2 v3:Int):Option (Unit⊕Unit):=M ctx tb G 34 (v0,v1,v2,v3)
def Qed (v0 v1 v2:List Bool)(v3:List Qak)(v4:List GFun)(v5:List UInt8)(v6 v7:Int)(v8:List GVar)(v9:List Qae)(v10:Int)(v11:Bool)(v12:Int):Option Int:=M ctx tb G 35 (v0,v1,v2,v3,v4,v5,v6,v7,v8,v9,v10,v11,v12)
def Qee (v0 v1:List GCon):Option Bool:=M ctx tb G 36 (v0,v1)
def Qgj (v0:List Qak)(v1:Int):Option (Unit⊕Unit):=M ctx tb G 37 (v0,v1)
def Qdy (v0:List GCon):Option Bool:=M ctx tb G 38 v0
def QgR (v0 v1:List GFun):Option Bool:=M ctx tb G 39 (v0,v1)
def QdH (v0 v1:List Qak)(v2 v3:Int):Option (Unit⊕Unit):=M ctx tb G 40 (v0,v1,v2,v3)
def Qmh (v0:List Qak):Option Bool:=M ctx tb G 41 v0
def Qgk (v0 v1:GFun):Option Bool:=M ctx tb G 42 (v0,v1)
def QdI (v0 v1:List (List UInt8×Bool))(v2:List Qak)(v3 v4:Int):Option (Unit⊕Unit):=M ctx tb G 43 (v0,v1,v2,v3,v4)
def Qc8 (v0:List Qak)(v1:Int):Option (Unit⊕Unit):=M ctx tb G 44 (v0,v1)
def QtM (v0:GFun):Option (List Int×List Int×List Int×List UInt8×Int×Int×List GVar×List Qae×Int×Bool×Int×Bool):=M ctx tb G 45 v0
def QkF (v0:Qag)(v1:Int):Option Int:=M ctx tb G 46 (v0,v1)
def Qln (v0:List UInt8):Option Bool:=M ctx tb G 47 v0
def QcR (v0 v1:GCon)(v2 v3:List Qak)(v4 v5 v6:Int):Option (Unit⊕Unit):=M ctx tb G 48 (v0,v1,v2,v3,v4,v5,v6)
def QqP (v0:List UInt8):Option Bool:=M ctx tb G 49 v0
def QbG (v0 v1:List GCon)(v2 v3:Int):Option (Unit⊕Unit):=M ctx tb G 50 (v0,v1,v2,v3)
def QeR (v0:List Qak)(v1 v2:Int):Option (Unit⊕Unit):=M ctx tb G 51 (v0,v1,v2)
def Qit (v0:List GCon):Option Int:=M ctx tb G 52 v0
def Qmi (v0:List Qak):Option Bool:=M ctx tb G 53 v0
def Qce (v0 v1:List Bool)(v2:List Int)(v3:Qag)(v4:GFun)(v5 v6 v7:Int):Option (List Int):=M ctx tb G 54 (v0,v1,v2,v3,v4,v5,v6,v7)
def QcI (v0:List GCon):Option Bool:=M ctx tb G 55 v0
def Qa6 (v0 v1 v2:List Bool)(v3:List Qak)(v4:List GFun)(v5:List UInt8)(v6 v7:Int)(v8:List GVar)(v9:List Qae)(v10:Int)(v11:Bool)(v12:GFun)(v13:List GFun)(v14 v15:Int):Option (Unit⊕Unit):=M ctx tb G 56 (v0,v1,v2,v3,v4,v5,v6,v7,v8,v9,v10,v11,v12,v13,v14,v15)
def Qa7 (v0 v1:List GFun)(v2 v3:Int):Option (Unit⊕Unit):=M ctx tb G 57 (v0,v1,v2,v3)
def Qfs (v0 v1:List Qak)(v2 v3:Int)(v4:List GCon)(v5 v6:Int):Option (Unit⊕Unit):=M ctx tb G 58 (v0,v1,v2,v3,v4,v5,v6)
def QdJ (v0 v1:List (List UInt8))(v2:List Qak)(v3:Int):Option (Unit⊕Unit):=M ctx tb G 59 (v0,v1,v2,v3)
def Qd6 (v0 v1:GFun)(v2:Int):Option (Unit⊕Unit):=M ctx tb G 60 (v0,v1,v2)
def QdK (v0 v1:List (List UInt8×Bool))(v2:List Qak)(v3 v4:Int)(v5:List GCon)(v6 v7:Int):Option (Unit⊕List (List UInt8×Bool)):=M ctx tb G 61 (v0,v1,v2,v3,v4,v5,v6,v7)
def QhB (v0:List UInt8):Option Bool:=M ctx tb G 62 v0
def Qfo (v0 v1 v2 v3:List Int)(v4:GFun)(v5:List UInt8)(v6 v7:Int)(v8:List GVar)(v9:List Qae)(v10:Int)(v11:Bool)(v12:Int)(v13:Bool)(v14:Int):Option (List Int×List Int):=M ctx tb G 63 (v0,v1,v2,v3,v4,v5,v6,v7,v8,v9,v10,v11,v12,v13,v14)
def Qn7 (v0:List UInt8):Option Bool:=M ctx tb G 64 v0
def Qcr (v0:List UInt8)(v1 v2:Int):Option (Unit⊕Unit):=M ctx tb G 65 (v0,v1,v2)
def QhC (v0:List UInt8)(v1 v2:Int):Option Bool:=M ctx tb G 66 (v0,v1,v2)
def QkG (v0 v1:GCon):Option Bool:=M ctx tb G 67 (v0,v1)
def Qca (v0:List GCon)(v1 v2:Int):Option (Unit⊕Int):=M ctx tb G 68 (v0,v1,v2)
def QkH (v0:List Qak):Option Bool:=M ctx tb G 69 v0
def QkI (v0:List Qak):Option Bool:=M ctx tb G 70 v0
def Qc9 (v0:List Qak)(v1 v2:Int):Option (Unit⊕Unit):=M ctx tb G 71 (v0,v1,v2)
def Qda (v0:Qag)(v1:GFun)(v2 v3:Int):Option (Unit⊕Unit):=M ctx tb G 72 (v0,v1,v2,v3)
def Qft (v0:List Qak)(v1:Int):Option (Unit⊕Unit):=M ctx tb G 73 (v0,v1)
def QgS (v0:List GCon):Option Int:=M ctx tb G 74 v0
def Qm5 (v0 v1:GFun):Option Bool:=M ctx tb G 75 (v0,v1)
def QcJ (v0:List Qak)(v1:List Int):Option Bool:=M ctx tb G 76 (v0,v1)
def Qpu (v0:List (List UInt8))(v1:List UInt8):Option Bool:=M ctx tb G 77 (v0,v1)
def Qby (v0:List UInt8)(v1:Int):Option (Unit⊕Unit):=M ctx tb G 78 (v0,v1)
def QeS (v0:List UInt8)(v1:Int):Option (Unit⊕Bool):=M ctx tb G 79 (v0,v1)
def Qjg (v0 v1:List Int):Option Bool:=M ctx tb G 80 (v0,v1)
def QoQ (v0:GCon):Option Bool:=M ctx tb G 81 v0
def Qdb (v0 v1:List Bool)(v2:List Int)(v3 v4:Int)(v5:Qag)(v6:GFun)(v7:Int):Option (List Bool×List Bool×Int×Int):=M ctx tb G 82 (v0,v1,v2,v3,v4,v5,v6,v7)
def Qef (v0 v1 v2:List Bool)(v3:List Qak)(v4:List GFun)(v5:List UInt8)(v6 v7:Int)(v8:List GVar)(v9:List Qae)(v10:Int)(v11:Bool)(v12:Int):Option Bool:=M ctx tb G 83 (v0,v1,v2,v3,v4,v5,v6,v7,v8,v9,v10,v11,v12)
def Qd7 (v0 v1:GFun)(v2:Int):Option (Unit⊕Unit):=M ctx tb G 84 (v0,v1,v2)
def QgT (v0 v1 v2 v3:List Int)(v4:GFun)(v5:List UInt8)(v6 v7:Int)(v8:List GVar)(v9:List Qae)(v10:Int)(v11:Bool)(v12:Int)(v13:Bool)(v14:Int):Option (List Int):=M ctx tb G 85 (v0,v1,v2,v3,v4,v5,v6,v7,v8,v9,v10,v11,v12,v13,v14)
def QdL (v0 v1:List (List UInt8))(v2:List Qak)(v3 v4:Int):Option (Unit⊕List (List UInt8)):=M ctx tb G 86 (v0,v1,v2,v3,v4)
def QeT (v0:List Bool)(v1:List Qak)(v2:Bool):Option (List Bool):=M ctx tb G 87 (v0,v1,v2)
def Qdc (v0:List Bool)(v1:List Qak)(v2:Int):Option (List Bool):=M ctx tb G 88 (v0,v1,v2)
def Qfu (v0:List Qak)(v1 v2:Int):Option (Unit⊕Unit):=M ctx tb G 89 (v0,v1,v2)
def QbH (v0:List GCon)(v1 v2:Int):Option (Unit⊕Int):=M ctx tb G 90 (v0,v1,v2)
def Qbs (v0:GFun):Option (GFun×Int):=M ctx tb G 91 v0
def QgU (v0:List Qak)(v1:List Int):Option Int:=M ctx tb G 92 (v0,v1)
def Qjh (v0:List (List UInt8))(v1:List UInt8)(v2:Int):Option (Unit⊕Unit):=M ctx tb G 93 (v0,v1,v2)
def Qiu (v0:List UInt8)(v1 v2:Int):Option Bool:=M ctx tb G 94 (v0,v1,v2)
def Qd8 (v0 v1:List Int)(v2 v3:Int):Option (Unit⊕Unit):=M ctx tb G 95 (v0,v1,v2,v3)
def Qcx (v0 v1 v2:List Bool)(v3:GFun)(v4:List Qak)(v5:List GFun)(v6:List UInt8)(v7 v8:Int)(v9:List GVar)(v10:List Qae)(v11:Int)(v12:Bool)(v13 v14:Int):Option (List Bool×List Bool):=M ctx tb G 96 (v0,v1,v2,v3,v4,v5,v6,v7,v8,v9,v10,v11,v12,v13,v14)
def Qdd (v0:Qag)(v1:Int):Option Bool:=M ctx tb G 97 (v0,v1)
def Qji (v0 v1:GFun):Option Bool:=M ctx tb G 98 (v0,v1)
def Qf1 (v0 v1:List Bool)(v2:List Int)(v3 v4:Int)(v5:Qag)(v6:GFun)(v7:Qae):Option (List Bool×Int):=M ctx tb G 99 (v0,v1,v2,v3,v4,v5,v6,v7)
def Qh5 (v0 v1:Qae):Option Bool:=M ctx tb G 100 (v0,v1)
def Qcf (v0:List Bool)(v1:List Qak)(v2:Bool)(v3 v4:Int):Option (List Bool×Bool):=M ctx tb G 101 (v0,v1,v2,v3,v4)
def Qde (v0:List Bool)(v1:List Qak)(v2 v3:Int):Option (List Bool):=M ctx tb G 102 (v0,v1,v2,v3)
def Qfv (v0:List Qak)(v1 v2:Int)(v3:List Int)(v4:Int):Option (Unit⊕Unit):=M ctx tb G 103 (v0,v1,v2,v3,v4)
def QlI (v0:GCon):Option Bool:=M ctx tb G 104 v0
def Qgl (v0:GFun):Option (List Int×List Int×Bool):=M ctx tb G 105 v0
def QbI (v0:List Qak)(v1:List Int)(v2 v3:Int):Option (Unit⊕Int):=M ctx tb G 106 (v0,v1,v2,v3)
def QeU (v0:List UInt8)(v1:Int):Option (Unit⊕Unit):=M ctx tb G 107 (v0,v1)
def QcK (v0 v1 v2:List Bool)(v3:List Qak)(v4:List GFun)(v5:List UInt8)(v6 v7:Int)(v8:List GVar)(v9:List Qae)(v10:Int)(v11:Bool)(v12:List GVar):Option Bool:=M ctx tb G 108 (v0,v1,v2,v3,v4,v5,v6,v7,v8,v9,v10,v11,v12)
def Qcy (v0 v1 v2 v3:List Int)(v4:List UInt8)(v5 v6:Int)(v7:List GVar)(v8:List Qae)(v9:Int)(v10:Bool)(v11:Int)(v12:Bool)(v13:Int):Option (List Int×List Int×List Int×Int×Bool):=M ctx tb G 109 (v0,v1,v2,v3,v4,v5,v6,v7,v8,v9,v10,v11,v12,v13)
def Qbd (v0:Qag)(v1:GFun)(v2:Int):Option (Unit⊕Unit):=M ctx tb G 110 (v0,v1,v2)
def Qcz (v0:List Bool)(v1:Bool):Option Bool:=M ctx tb G 111 (v0,v1)
def Qdf (v0:List Bool)(v1:Int):Option (Unit⊕Unit):=M ctx tb G 112 (v0,v1)
def QcA (v0:List GVar)(v1:List Qae)(v2:List GVar)(v3:List Qae)(v4:GFun)(v5:List UInt8)(v6 v7 v8:Int)(v9:Bool)(v10:List UInt8)(v11 v12 v13:Int)(v14:Bool)(v15 v16:List Int)(v17 v18:Int):Option (List GVar):=M ctx tb G 113 (v0,v1,v2,v3,v4,v5,v6,v7,v8,v9,v10,v11,v12,v13,v14,v15,v16,v17,v18)
def QgV (v0 v1:List GVar):Option Bool:=M ctx tb G 114 (v0,v1)
def Qn8 (v0:Qae):Option Bool:=M ctx tb G 115 v0
def QdM (v0 v1:List Int):Option Bool:=M ctx tb G 116 (v0,v1)
def QcL (v0:List Bool)(v1:List GCon):Option Bool:=M ctx tb G 117 (v0,v1)
def Qdg (v0:List Bool)(v1:List Qak)(v2 v3 v4:Int):Option (List Bool):=M ctx tb G 118 (v0,v1,v2,v3,v4)
def QhD (v0:List Qak)(v1:Int):Option Bool:=M ctx tb G 119 (v0,v1)
def QbU (v0 v1:List Int)(v2 v3 v4:List Bool)(v5:GFun)(v6 v7:Int):Option (List Bool×List Bool):=M ctx tb G 120 (v0,v1,v2,v3,v4,v5,v6,v7)
def Qm6 (v0:List Qak)(v1:Int):Option Bool:=M ctx tb G 121 (v0,v1)
def QkJ (v0:Int):Option Bool:=M ctx tb G 122 v0
def Qcg (v0 v1 v2:List Bool)(v3:List Qak)(v4:List GFun)(v5:List UInt8)(v6 v7:Int)(v8:List GVar)(v9:List Qae)(v10:Int)(v11:Bool)(v12:Int):Option (List Bool×List Bool×List Bool×Int×Int):=M ctx tb G 123 (v0,v1,v2,v3,v4,v5,v6,v7,v8,v9,v10,v11,v12)
def Qch (v0:List GVar)(v1:List Qae)(v2 v3 v4:List Int)(v5:List GVar)(v6:List Qae)(v7:GFun)(v8:List UInt8)(v9 v10 v11:Int)(v12:Bool)(v13:List UInt8)(v14 v15:Int)(v16:List GVar)(v17:List Qae)(v18:Int)(v19:Bool)(v20:Int)(v21:Bool)(v22:List UInt8)(v23 v24 v25:Int)(v26:Bool)(v27:Int):Option (List GVar):=M ctx tb G 124 (v0,v1,v2,v3,v4,v5,v6,v7,v8,v9,v10,v11,v12,v13,v14,v15,v16,v17,v18,v19,v20,v21,v22,v23,v24,v25,v26,v27)
def Qeg (v0 v1:List Qae):Option Bool:=M ctx tb G 125 (v0,v1)
def Qlo (v0:Qae):Option (List Int):=M ctx tb G 126 v0
def Qci (v0 v1:Qae)(v2:Int):Option (Unit⊕Unit):=M ctx tb G 127 (v0,v1,v2)
def QgW (v0 v1 v2:List Bool)(v3:List Qak)(v4:List GFun)(v5:List UInt8)(v6 v7:Int)(v8:List GVar)(v9:List Qae)(v10:Int)(v11:Bool)(v12:List GVar):Option Int:=M ctx tb G 128 (v0,v1,v2,v3,v4,v5,v6,v7,v8,v9,v10,v11,v12)
def Qbb (v0 v1 v2 v3:List Int)(v4:List UInt8)(v5 v6:Int)(v7:List GVar)(v8:List Qae)(v9:Int)(v10:Bool)(v11:Int)(v12:Bool)(v13:Qae)(v14:List Int)(v15:Int):Option Bool:=M ctx tb G 129 (v0,v1,v2,v3,v4,v5,v6,v7,v8,v9,v10,v11,v12,v13,v14,v15)
def Qgm (v0:List Bool)(v1:Bool):Option Int:=M ctx tb G 130 (v0,v1)
def QcS (v0 v1:List GVar)(v2 v3:Int):Option (Unit⊕Unit):=M ctx tb G 131 (v0,v1,v2,v3)
def Qds (v0 v1:List Int)(v2:Int):Option (Unit⊕Unit):=M ctx tb G 132 (v0,v1,v2)
def QgX (v0:List Bool)(v1:List GCon):Option Int:=M ctx tb G 133 (v0,v1)
def Qdh (v0:List Bool)(v1:List Qak)(v2 v3 v4:Int)(v5:Bool)(v6:List Int)(v7:Int):Option Bool:=M ctx tb G 134 (v0,v1,v2,v3,v4,v5,v6,v7)
def QhE (v0:List Qak)(v1:Int):Option Bool:=M ctx tb G 135 (v0,v1)
def Qa1 (v0:Qag)(v1:GFun)(v2:Int):Option (Unit⊕Unit):=M ctx tb G 136 (v0,v1,v2)
def Qjj (v0:GFun):Option (List Int×List Int×Int):=M ctx tb G 137 v0
def Qbz (v0:List Int)(v1 v2:List Bool)(v3 v4:Int)(v5:Qag)(v6:GFun)(v7:Qae)(v8:List Int)(v9:Int):Option (Unit⊕Unit):=M ctx tb G 138 (v0,v1,v2,v3,v4,v5,v6,v7,v8,v9)
def Qdi (v0:List Bool)(v1:GFun)(v2:Int):Option (List Bool×Bool):=M ctx tb G 139 (v0,v1,v2)
def QeV (v0 v1 v2:List Bool)(v3:List Qak)(v4:List GFun)(v5:List UInt8)(v6 v7:Int)(v8:List GVar)(v9:List Qae)(v10:Int)(v11:Bool)(v12:Qae):Option (List Bool×Int):=M ctx tb G 140 (v0,v1,v2,v3,v4,v5,v6,v7,v8,v9,v10,v11,v12)
def QbJ (v0 v1:List Qae)(v2 v3:Int):Option (Unit⊕Unit):=M ctx tb G 141 (v0,v1,v2,v3)
def Qdt (v0:List Int)(v1:Qae)(v2:Int):Option (List Int):=M ctx tb G 142 (v0,v1,v2)
def QbK (v0 v1 v2:List Bool)(v3:List Qak)(v4:List GFun)(v5:List UInt8)(v6 v7:Int)(v8:List GVar)(v9:List Qae)(v10:Int)(v11:Bool)(v12:List GVar)(v13 v14:Int):Option (Unit⊕Int):=M ctx tb G 143 (v0,v1,v2,v3,v4,v5,v6,v7,v8,v9,v10,v11,v12,v13,v14)
def QtN (v0:List Int)(v1:Int):Option Bool:=M ctx tb G 144 (v0,v1)
def QcB (v0:List Bool)(v1:Bool)(v2 v3:Int):Option (Int⊕Unit):=M ctx tb G 145 (v0,v1,v2,v3)
def QbL (v0:List Bool)(v1:List GCon)(v2 v3:Int):Option (Unit⊕Int):=M ctx tb G 146 (v0,v1,v2,v3)
def QgY (v0:List GVar)(v1:List Qae)(v2 v3 v4:List Int)(v5:List GVar)(v6:List Qae)(v7:GFun)(v8:List UInt8)(v9 v10 v11:Int)(v12:Bool)(v13:List UInt8)(v14 v15:Int)(v16:List GVar)(v17:List Qae)(v18:Int)(v19:Bool)(v20:Int)(v21:Bool)(v22:List UInt8)(v23 v24 v25:Int)(v26:Bool)(v27:Int):Option (List Qae):=M ctx tb G 147 (v0,v1,v2,v3,v4,v5,v6,v7,v8,v9,v10,v11,v12,v13,v14,v15,v16,v17,v18,v19,v20,v21,v22,v23,v24,v25,v26,v27)
def QaP (v0:List GVar)(v1:List Qae)(v2:List GVar)(v3:List Qae)(v4:GFun)(v5:List UInt8)(v6 v7 v8:Int)(v9:Bool)(v10:List UInt8)(v11 v12 v13:Int)(v14:Bool)(v15 v16 v17:List Int)(v18 v19:Int):Option (List Qae):=M ctx tb G 148 (v0,v1,v2,v3,v4,v5,v6,v7,v8,v9,v10,v11,v12,v13,v14,v15,v16,v17,v18,v19)
def Qiv (v0:Qae):Option (List Int):=M ctx tb G 149 v0
def Qfp (v0:List Qak)(v1:Int):Option Bool:=M ctx tb G 150 (v0,v1)
def QdN (v0 v1:List Int)(v2:GFun)(v3 v4:List Int)(v5 v6:Int):Option (List Int):=M ctx tb G 151 (v0,v1,v2,v3,v4,v5,v6)
def QtO (v0:List Int)(v1:Int):Option Bool:=M ctx tb G 152 (v0,v1)
def QqQ (v0:Qae):Option Bool:=M ctx tb G 153 v0
def Qjk (v0 v1:Qae):Option Bool:=M ctx tb G 154 (v0,v1)
def QfH (v0 v1 v2:List Bool)(v3:List Qak)(v4:List GFun)(v5:List UInt8)(v6 v7:Int)(v8:List GVar)(v9:List Qae)(v10:Int)(v11:Bool)(v12:GVar):Option Bool:=M ctx tb G 155 (v0,v1,v2,v3,v4,v5,v6,v7,v8,v9,v10,v11,v12)
def Qjl (v0:List Int)(v1 v2:Int):Option (Unit⊕Unit):=M ctx tb G 156 (v0,v1,v2)
def QlJ (v0:List Bool)(v1:GCon):Option Bool:=M ctx tb G 157 (v0,v1)
def Qeh (v0:Qae):Option (List Int):=M ctx tb G 158 v0
def Qcj (v0:List Int)(v1 v2 v3:List Bool)(v4:List Int)(v5:GFun)(v6:Bool)(v7:Int):Option (List Int×List Bool×List Bool×List Bool×List Int×Bool):=M ctx tb G 159 (v0,v1,v2,v3,v4,v5,v6,v7)
def QbA (v0 v1 v2 v3:List Int)(v4:List UInt8)(v5 v6:Int)(v7:List GVar)(v8:List Qae)(v9:Int)(v10:Bool)(v11:Int)(v12:Bool)(v13:Qae)(v14:List Int)(v15:Int):Option (List Int×List Int×List Int×Int×Bool):=M ctx tb G 160 (v0,v1,v2,v3,v4,v5,v6,v7,v8,v9,v10,v11,v12,v13,v14,v15)
def Qdu (v0:List Int)(v1:Qae)(v2:Int):Option (List Int):=M ctx tb G 161 (v0,v1,v2)
def QkK (v0:Qae):Option (List Int):=M ctx tb G 162 v0
def Qiw (v0:Qae)(v1 v2:List Int):Option Qae:=M ctx tb G 163 (v0,v1,v2)
def QbB (v0 v1:List Int):Option (List Int):=M ctx tb G 164 (v0,v1)
def QcC (v0:List GVar)(v1:List Qae)(v2:List GVar)(v3:List Qae)(v4:List Qas)(v5:GFun)(v6:List UInt8)(v7 v8 v9:Int)(v10:Bool)(v11:List UInt8)(v12 v13 v14:Int)(v15:Bool)(v16 v17:Int)(v18:List Int)(v19 v20 v21:Int)(v22:List Int)(v23:Bool)(v24:Int)(v25 v26 v27:List Int)(v28 v29:Int)(v30:List Qas)(v31 v32:Int):Option (List Qas):=M ctx tb G 165 (v0,v1,v2,v3,v4,v5,v6,v7,v8,v9,v10,v11,v12,v13,v14,v15,v16,v17,v18,v19,v20,v21,v22,v23,v24,v25,v26,v27,v28,v29,v30,v31,v32)
def Qes (v0:Qae):Option (List Int):=M ctx tb G 166 v0
def QeW (v0:List Int)(v1:Qae)(v2:Int):Option (List Int):=M ctx tb G 167 (v0,v1,v2)
def Qgn (v0:List Qak)(v1 v2:Int):Option (Unit⊕Unit):=M ctx tb G 168 (v0,v1,v2)
def Qjm (v0:List Int)(v1 v2:Int):Option (Unit⊕Unit):=M ctx tb G 169 (v0,v1,v2)
def Qn9 (v0:Int):Option (QA9×Bool):=M ctx tb G 170 v0
def Qdj (v0 v1:List Int):Option Bool:=M ctx tb G 171 (v0,v1)
def QcM (v0:List Bool)(v1:List Int):Option Bool:=M ctx tb G 172 (v0,v1)
def QbC (v0:List Int)(v1 v2:List Bool)(v3 v4:Int)(v5:Qag)(v6:GFun)(v7:Qae)(v8:List Int)(v9:Int):Option (Unit⊕Unit):=M ctx tb G 173 (v0,v1,v2,v3,v4,v5,v6,v7,v8,v9)
def QcE (v0 v1:List Int)(v2:GFun)(v3 v4:List Int)(v5 v6:Int):Option (List Int):=M ctx tb G 174 (v0,v1,v2,v3,v4,v5,v6)
def Qbe (v0 v1 v2:List Bool)(v3:List Qak)(v4:List GFun)(v5:List UInt8)(v6 v7:Int)(v8:List GVar)(v9:List Qae)(v10:Int)(v11:Bool)(v12:Qae)(v13:List Int)(v14 v15:Int):Option (Unit⊕Unit):=M ctx tb G 175 (v0,v1,v2,v3,v4,v5,v6,v7,v8,v9,v10,v11,v12,v13,v14,v15)
def Qck (v0:List GVar)(v1:List Qae)(v2 v3 v4:List Int)(v5:List GVar)(v6:List Qae)(v7:GFun)(v8:List UInt8)(v9 v10 v11:Int)(v12:Bool)(v13:List UInt8)(v14 v15:Int)(v16:List GVar)(v17:List Qae)(v18:Int)(v19:Bool)(v20:Int)(v21:Bool)(v22:List UInt8)(v23 v24 v25:Int)(v26:Bool)(v27:Int):Option (List Qae):=M ctx tb G 176 (v0,v1,v2,v3,v4,v5,v6,v7,v8,v9,v10,v11,v12,v13,v14,v15,v16,v17,v18,v19,v20,v21,v22,v23,v24,v25,v26,v27)
def QgZ (v0:Qae):Option (List Int):=M ctx tb G 177 v0
def Qei (v0 v1:List Qas):Option Bool:=M ctx tb G 178 (v0,v1)
def QdO (v0:List Int)(v1:Qae)(v2:Int):Option (List Int):=M ctx tb G 179 (v0,v1,v2)
def Qb0 (v0:List Int)(v1 v2 v3:List Bool)(v4:List Int)(v5:GFun)(v6:Bool)(v7:Qae)(v8:List Int)(v9 v10:Int):Option (Unit⊕Unit):=M ctx tb G 180 (v0,v1,v2,v3,v4,v5,v6,v7,v8,v9,v10)
def QbD (v0 v1 v2 v3 v4:List Int)(v5:List UInt8)(v6 v7:Int)(v8:List GVar)(v9:List Qae)(v10:Int)(v11:Bool)(v12:Int)(v13:Bool)(v14:Qae)(v15:List Int)(v16:Int)(v17:List Int)(v18:Int):Option (List Int×List Int×Int×Bool):=M ctx tb G 181 (v0,v1,v2,v3,v4,v5,v6,v7,v8,v9,v10,v11,v12,v13,v14,v15,v16,v17,v18)
def Qet (v0 v1:List Int)(v2 v3:Int):Option (List Int):=M ctx tb G 182 (v0,v1,v2,v3)
def Qm7 (v0 v1:List Int):Option (List Int):=M ctx tb G 183 (v0,v1)
def QeX (v0 v1:List Int)(v2 v3:List Qas)(v4:Qae)(v5 v6 v7 v8 v9:Int)(v10:Bool)(v11 v12 v13:Int)(v14:List Int)(v15 v16 v17:Int)(v18:List Int)(v19:Bool)(v20:Int)(v21 v22:List Int)(v23:Int):Option (List Qas):=M ctx tb G 184 (v0,v1,v2,v3,v4,v5,v6,v7,v8,v9,v10,v11,v12,v13,v14,v15,v16,v17,v18,v19,v20,v21,v22,v23)
def Qb1 (v0 v1 v2:List Int)(v3 v4:Int):Option (List Int):=M ctx tb G 185 (v0,v1,v2,v3,v4)
def QeY (v0:List Int)(v1:List Qas)(v2 v3:Int):Option (List Int):=M ctx tb G 186 (v0,v1,v2,v3)
def Qoa:Option Unit:=M ctx tb G 187 ()
def QcT (v0 v1:List Int)(v2 v3:Int):Option (Unit⊕Unit):=M ctx tb G 188 (v0,v1,v2,v3)
def Qg0 (v0:List Bool)(v1:List Int):Option Int:=M ctx tb G 189 (v0,v1)
def QcN (v0 v1 v2:List Bool)(v3:List Qak)(v4:List GFun)(v5:List UInt8)(v6 v7:Int)(v8:List GVar)(v9:List Qae)(v10:Int)(v11:Bool)(v12:List GVar):Option Bool:=M ctx tb G 190 (v0,v1,v2,v3,v4,v5,v6,v7,v8,v9,v10,v11,v12)
def Qb2 (v0:List Int)(v1 v2:List Bool)(v3 v4:Int)(v5:Qag)(v6:GFun)(v7:Qae)(v8:List Int)(v9:Int):Option (List Bool⊕List Bool):=M ctx tb G 191 (v0,v1,v2,v3,v4,v5,v6,v7,v8,v9)
def Qjn (v0:List Qas):Option (List Qas):=M ctx tb G 192 v0
def QfI (v0:List Int)(v1:List Qas)(v2 v3:Int):Option (List Int):=M ctx tb G 193 (v0,v1,v2,v3)
def QbM (v0 v1:List Qas)(v2 v3:Int):Option (Unit⊕Unit):=M ctx tb G 194 (v0,v1,v2,v3)
def Qg1 (v0 v1 v2:List Int)(v3:List UInt8)(v4 v5:Int)(v6:List GVar)(v7:List Qae)(v8:Int)(v9:Bool)(v10:Int)(v11:Bool)(v12:Int):Option (List Int×Int×Bool):=M ctx tb G 195 (v0,v1,v2,v3,v4,v5,v6,v7,v8,v9,v10,v11,v12)
def Qjo (v0 v1 v2:List Int)(v3:Int):Option (List Int):=M ctx tb G 196 (v0,v1,v2,v3)
def QbN (v0:List Bool)(v1:List Int)(v2 v3:Int):Option (Unit⊕Int):=M ctx tb G 197 (v0,v1,v2,v3)
def Qdv (v0 v1:List Bool)(v2:GFun)(v3 v4 v5:Int):Option (Int⊕Unit):=M ctx tb G 198 (v0,v1,v2,v3,v4,v5)
def QaN (v0:List Int)(v1 v2:List Bool)(v3 v4:Int)(v5:Qag)(v6:GFun)(v7:Qae)(v8:List Int)(v9:Int):Option (List Bool⊕List Bool):=M ctx tb G 199 (v0,v1,v2,v3,v4,v5,v6,v7,v8,v9)
def QdP (v0 v1:List Int)(v2:GFun)(v3 v4:List Int)(v5 v6:Int):Option (List Int):=M ctx tb G 200 (v0,v1,v2,v3,v4,v5,v6)
def Qbf (v0 v1 v2:List Bool)(v3:List Qak)(v4:List GFun)(v5:List UInt8)(v6 v7:Int)(v8:List GVar)(v9:List Qae)(v10:Int)(v11:Bool)(v12:Qae)(v13 v14:List Int)(v15 v16:Int):Option (Unit⊕Unit):=M ctx tb G 201 (v0,v1,v2,v3,v4,v5,v6,v7,v8,v9,v10,v11,v12,v13,v14,v15,v16)
def Qb3 (v0:List Int)(v1 v2 v3:List Bool)(v4:List Int)(v5:GFun)(v6:Bool)(v7:Qae)(v8:List Int)(v9 v10:Int):Option (List Int×List Bool×List Bool×List Bool×List Int×Bool⊕List Int×List Bool×List Bool×List Bool×List Int×Bool):=M ctx tb G 202 (v0,v1,v2,v3,v4,v5,v6,v7,v8,v9,v10)
def Qg2 (v0 v1 v2:List Bool)(v3:List Qak)(v4:List GFun)(v5:List UInt8)(v6 v7:Int)(v8:List GVar)(v9:List Qae)(v10:Int)(v11:Bool)(v12:List GVar):Option Int:=M ctx tb G 203 (v0,v1,v2,v3,v4,v5,v6,v7,v8,v9,v10,v11,v12)
def QcD (v0 v1:List Qas)(v2 v3:Int):Option (List Qas):=M ctx tb G 204 (v0,v1,v2,v3)
def QkL (v0 v1:Qas):Option Bool:=M ctx tb G 205 (v0,v1)
def QjD (v0:List Bool)(v1:Int):Option Bool:=M ctx tb G 206 (v0,v1)
def Qb4 (v0:List Int)(v1 v2:List Bool)(v3 v4:Int)(v5:Qag)(v6:GFun)(v7:Qae)(v8:List Int)(v9:Int):Option (List Bool×List Bool×Int×Int⊕List Bool×List Bool×Int×Int):=M ctx tb G 207 (v0,v1,v2,v3,v4,v5,v6,v7,v8,v9)
def QaK (v0 v1 v2:List Bool)(v3:List Qak)(v4:List GFun)(v5:List UInt8)(v6 v7:Int)(v8:List GVar)(v9:List Qae)(v10:Int)(v11:Bool)(v12:Qae)(v13:Int)(v14 v15:List Int)(v16 v17:Int):Option (List Bool⊕List Bool):=M ctx tb G 208 (v0,v1,v2,v3,v4,v5,v6,v7,v8,v9,v10,v11,v12,v13,v14,v15,v16,v17)
def Qg3 (v0 v1:List Bool)(v2:List Int)(v3:GFun)(v4:List Int):Option (List Bool×List Bool×List Int×Bool):=M ctx tb G 209 (v0,v1,v2,v3,v4)
def QbO (v0 v1 v2:List Bool)(v3:List Qak)(v4:List GFun)(v5:List UInt8)(v6 v7:Int)(v8:List GVar)(v9:List Qae)(v10:Int)(v11:Bool)(v12:List GVar)(v13 v14:Int):Option (Unit⊕Int):=M ctx tb G 210 (v0,v1,v2,v3,v4,v5,v6,v7,v8,v9,v10,v11,v12,v13,v14)
def Qcl (v0 v1:List Bool)(v2:GFun)(v3 v4 v5:Int):Option (Unit⊕Unit):=M ctx tb G 211 (v0,v1,v2,v3,v4,v5)
def Qej (v0:Qag)(v1:GFun)(v2:Qae):Option Bool:=M ctx tb G 212 (v0,v1,v2)
def QdQ (v0 v1:List Int)(v2:GFun)(v3:List Int)(v4 v5:Int):Option (List Int):=M ctx tb G 213 (v0,v1,v2,v3,v4,v5)
def QaC (v0 v1 v2:List Bool)(v3:List Qak)(v4:List GFun)(v5:List UInt8)(v6 v7:Int)(v8:List GVar)(v9:List Qae)(v10:Int)(v11:Bool)(v12:Qae)(v13 v14:List Int)(v15 v16:Int):Option (List Bool⊕List Bool):=M ctx tb G 214 (v0,v1,v2,v3,v4,v5,v6,v7,v8,v9,v10,v11,v12,v13,v14,v15,v16)
def Qb5 (v0 v1:List Bool)(v2:List Int)(v3:GFun)(v4:List Int)(v5 v6:Int):Option (List Bool×List Bool×List Int⊕List Bool×List Bool×List Int):=M ctx tb G 215 (v0,v1,v2,v3,v4,v5,v6)
def QfJ (v0 v1 v2:List Bool)(v3:List Qak)(v4:List GFun)(v5:List UInt8)(v6 v7:Int)(v8:List GVar)(v9:List Qae)(v10:Int)(v11:Bool)(v12:GVar):Option Bool:=M ctx tb G 216 (v0,v1,v2,v3,v4,v5,v6,v7,v8,v9,v10,v11,v12)
def Qek (v0:Qag)(v1:GFun)(v2:Qae):Option Bool:=M ctx tb G 217 (v0,v1,v2)
def Qbk (v0 v1 v2:List Bool)(v3:List Qak)(v4:List GFun)(v5:List UInt8)(v6 v7:Int)(v8:List GVar)(v9:List Qae)(v10:Int)(v11:Bool)(v12:Qae)(v13:List Int)(v14 v15:Int):Option (List Bool×List Bool×List Bool⊕List Bool×List Bool×List Bool×Int×Int):=M ctx tb G 218 (v0,v1,v2,v3,v4,v5,v6,v7,v8,v9,v10,v11,v12,v13,v14,v15)
def Qa3 (v0:GFun)(v1:Int):Option Int:=M ctx tb G 219 (v0,v1)
def QfK (v0:Qag)(v1:GFun)(v2:Int)(v3:List Int):Option Bool:=M ctx tb G 220 (v0,v1,v2,v3)
def QfL (v0:Qag)(v1:GFun)(v2 v3:Int)(v4:List Int)(v5:Int):Option Bool:=M ctx tb G 221 (v0,v1,v2,v3,v4,v5)
def Qix (v0:List Qak)(v1:Int):Option Bool:=M ctx tb G 222 (v0,v1)
def QaS (v0 v1 v2:List Bool)(v3:List Qak)(v4:List GFun)(v5:List UInt8)(v6 v7:Int)(v8:List GVar)(v9:List Qae)(v10:Int)(v11:Bool)(v12:Qae):Option Bool:=M ctx tb G 223 (v0,v1,v2,v3,v4,v5,v6,v7,v8,v9,v10,v11,v12)
def QcF (v0:Qag)(v1:GFun)(v2:Qae)(v3 v4:Int):Option (Unit⊕Unit):=M ctx tb G 224 (v0,v1,v2,v3,v4)
def QcG (v0:Qag)(v1:GFun)(v2:Qae)(v3:List Int)(v4:Int):Option (Unit⊕Unit):=M ctx tb G 225 (v0,v1,v2,v3,v4)
def Qbl (v0 v1 v2:List Bool)(v3:List Qak)(v4:List GFun)(v5:List UInt8)(v6 v7:Int)(v8:List GVar)(v9:List Qae)(v10:Int)(v11:Bool)(v12:Qae)(v13:Int)(v14 v15:List Int)(v16 v17:Int)(v18:List Int)(v19 v20:Int):Option (List Bool):=M ctx tb G 226 (v0,v1,v2,v3,v4,v5,v6,v7,v8,v9,v10,v11,v12,v13,v14,v15,v16,v17,v18,v19,v20)
def QeZ (v0 v1:GFun)(v2:List Int)(v3:Int):Option (Unit⊕Unit):=M ctx tb G 227 (v0,v1,v2,v3)
def Qdk (v0:Qag)(v1:GFun)(v2 v3:Int)(v4:List Int)(v5 v6:Int):Option (Unit⊕Unit):=M ctx tb G 228 (v0,v1,v2,v3,v4,v5,v6)
def Qob (v0:List Qak)(v1:Int):Option (List GCon):=M ctx tb G 229 (v0,v1)
def Qg4 (v0:List Bool)(v1:List Int):Option (List Bool):=M ctx tb G 230 (v0,v1)
def QcO (v0:List GCon):Option Bool:=M ctx tb G 231 v0
def Qav (v0 v1 v2:List Bool)(v3:List Qak)(v4:List GFun)(v5:List UInt8)(v6 v7:Int)(v8:List GVar)(v9:List Qae)(v10:Int)(v11:Bool)(v12:Int):Option Int:=M ctx tb G 232 (v0,v1,v2,v3,v4,v5,v6,v7,v8,v9,v10,v11,v12)
def QcU (v0 v1 v2:List Bool)(v3:List Int)(v4:List Qak)(v5:List GFun)(v6:List UInt8)(v7 v8:Int)(v9:List GVar)(v10:List Qae)(v11:Int)(v12:Bool)(v13:List Int)(v14:Int):Option Bool:=M ctx tb G 233 (v0,v1,v2,v3,v4,v5,v6,v7,v8,v9,v10,v11,v12,v13,v14)
def Qbm (v0 v1 v2:List Bool)(v3:List Qak)(v4:List GFun)(v5:List UInt8)(v6 v7:Int)(v8:List GVar)(v9:List Qae)(v10:Int)(v11:Bool)(v12:Int):Option Bool:=M ctx tb G 234 (v0,v1,v2,v3,v4,v5,v6,v7,v8,v9,v10,v11,v12)
def Qcm (v0 v1 v2:List Bool)(v3:List Qak)(v4:List GFun)(v5:List UInt8)(v6 v7:Int)(v8:List GVar)(v9:List Qae)(v10:Int)(v11:Bool)(v12:Int)(v13:List Int):Option Bool:=M ctx tb G 235 (v0,v1,v2,v3,v4,v5,v6,v7,v8,v9,v10,v11,v12,v13)
def Qcs (v0 v1 v2:List Bool)(v3:List Qak)(v4:List GFun)(v5:List UInt8)(v6 v7:Int)(v8:List GVar)(v9:List Qae)(v10:Int)(v11:Bool)(v12 v13:Int):Option (Unit⊕List Int):=M ctx tb G 236 (v0,v1,v2,v3,v4,v5,v6,v7,v8,v9,v10,v11,v12,v13)
def Qbn (v0 v1 v2:List Bool)(v3:List Qak)(v4:List GFun)(v5:List UInt8)(v6 v7:Int)(v8:List GVar)(v9:List Qae)(v10:Int)(v11:Bool)(v12:Qae)(v13:List Int)(v14 v15:Int)(v16:List Int)(v17 v18:Int):Option (List Bool):=M ctx tb G 237 (v0,v1,v2,v3,v4,v5,v6,v7,v8,v9,v10,v11,v12,v13,v14,v15,v16,v17,v18)
def Qb6 (v0:List Bool)(v1:List Int)(v2 v3:Int):Option (List Bool):=M ctx tb G 238 (v0,v1,v2,v3)
def Qg5 (v0:List GCon):Option Int:=M ctx tb G 239 v0
def Qbg (v0 v1 v2:List Bool)(v3:List Int)(v4:List Qak)(v5:List GFun)(v6:List UInt8)(v7 v8:Int)(v9:List GVar)(v10:List Qae)(v11:Int)(v12:Bool)(v13:Int)(v14:List Int)(v15 v16:Int):Option (Unit⊕Unit):=M ctx tb G 240 (v0,v1,v2,v3,v4,v5,v6,v7,v8,v9,v10,v11,v12,v13,v14,v15,v16)
def Qel (v0 v1 v2:List Bool)(v3:List Qak)(v4:List GFun)(v5:List UInt8)(v6 v7:Int)(v8:List GVar)(v9:List Qae)(v10:Int)(v11:Bool)(v12:Int):Option (List Int×Bool):=M ctx tb G 241 (v0,v1,v2,v3,v4,v5,v6,v7,v8,v9,v10,v11,v12)
def Qbo (v0 v1 v2:List Bool)(v3:List Qak)(v4:List GFun)(v5:List UInt8)(v6 v7:Int)(v8:List GVar)(v9:List Qae)(v10:Int)(v11:Bool)(v12 v13:List Int)(v14:Int):Option Bool:=M ctx tb G 242 (v0,v1,v2,v3,v4,v5,v6,v7,v8,v9,v10,v11,v12,v13,v14)
def QaU (v0 v1 v2:List Bool)(v3:List Qak)(v4:List GFun)(v5:List UInt8)(v6 v7:Int)(v8:List GVar)(v9:List Qae)(v10:Int)(v11:Bool)(v12:Int)(v13:List Qas)(v14 v15:Int):Option (Unit⊕Unit):=M ctx tb G 243 (v0,v1,v2,v3,v4,v5,v6,v7,v8,v9,v10,v11,v12,v13,v14,v15)
def QbP (v0:List GCon)(v1 v2:Int):Option (Unit⊕Int):=M ctx tb G 244 (v0,v1,v2)
def Qa8 (v0 v1 v2:List Bool)(v3:List Int)(v4:List Qak)(v5:List GFun)(v6:List UInt8)(v7 v8:Int)(v9:List GVar)(v10:List Qae)(v11:Int)(v12:Bool)(v13:List GVar)(v14 v15:Int):Option (List Int):=M ctx tb G 245 (v0,v1,v2,v3,v4,v5,v6,v7,v8,v9,v10,v11,v12,v13,v14,v15)
def Qaq (v0 v1 v2:List Bool)(v3:List Qak)(v4:List GFun)(v5:List UInt8)(v6 v7:Int)(v8:List GVar)(v9:List Qae)(v10:Int)(v11:Bool)(v12:Qae)(v13:List Int)(v14 v15:Int):Option (Unit⊕Unit):=M ctx tb G 246 (v0,v1,v2,v3,v4,v5,v6,v7,v8,v9,v10,v11,v12,v13,v14,v15)
def Qa2 (v0 v1 v2:List Bool)(v3:List Qak)(v4:List GFun)(v5:List UInt8)(v6 v7:Int)(v8:List GVar)(v9:List Qae)(v10:Int)(v11:Bool)(v12:List Int)(v13:Int)(v14:List Int)(v15 v16:Int):Option (Unit⊕Unit):=M ctx tb G 247 (v0,v1,v2,v3,v4,v5,v6,v7,v8,v9,v10,v11,v12,v13,v14,v15,v16)
def QoR (v0:GCon):Option Bool:=M ctx tb G 248 v0
theorem Qjp v0 v1:Qdx v0 v1=
 (Qmc).bind fun v2=>bif v2 then (Qm3 v0).bind fun v3=>bif v3 then (Qm3 v1).bind fun v4=>bif v4 then (Qmd v0 v1).bind fun v5=>(Qn4 v0 v1).bind fun v6=>some (v5==v6) else some true else some true else some false:=me 0
theorem Qvf v0:Qm3 v0=
 (bif (decide ((12:Int)<(v0.1.length:Int))) then some true else some (decide ((6:Int)<(v0.2.length:Int)))).bind fun v1=>bif v1 then some false else (QfC v0 v0.1 v0.1.length 0).bind fun
   |.inl _=> some false
   |.inr _=> (QfE v0.2 v0.2.length 0).bind fun
    |.inl _=> some false
    |.inr _=> some true:=me 4
theorem QrE v0 v1:Qmd v0 v1=
 ((Qlm v0).bind fun v2=>bif decide (v2=0) then (Qlm v1).bind fun v3=>some (!(decide (v3=0))) else some true).bind fun v2=>bif v2 then some false else ((Qfn v0.1 v1.1).bind fun v3=>bif v3 then (QgR v0.2 v1.2).bind fun v4=>some v4 else some false).bind fun v3=>some v3:=me 5
theorem QkM v0 v1 v2 v3:QfC v0 v1 v2 v3=
 bif decide (v3<v2) then (Sy.at' v1 v3).bind fun v4=>(bif (decide ((60:Int)<(v4.1.length:Int))) then some true else some (decide ((20:Int)<(v4.2.length:Int)))).bind fun v5=>bif v5 then some (.inl ()) else (QfD v0 v1 v2 v3 v4.2 v4.2.length 0).bind fun
   |.inl _=> some (.inl ())
   |.inr _=> QfC v0 v1 v2 (Ev.wr .i64 (v3+1)) else some (.inr ()):=me 6
theorem QtP v0 v1:Qn4 v0 v1=
 ((Qje v0).bind fun v2=>bif decide (v2=0) then (Qje v1).bind fun v3=>some (!(decide (v3=0))) else some true).bind fun v2=>(bif v2 then some true else (QgQ v0.1 v1.1).bind fun v3=>some (!v3)).bind fun v3=>(bif v3 then some true else some (!(decide ((v0.2.length:Int)=(v1.2.length:Int))))).bind fun v4=>bif v4 then some false else (QeQ v0 v1 0).bind fun
   |.inl _=> some true
   |.inr _=> some false:=me 7
theorem QtQ v0:Qlm v0=
 (Qme v0.1).bind fun v1=>bif decide (v1=0) then bif (decide ((128:Int)<(v0.2.length:Int))) then some (6:Int) else (QeP v0 v0.2.length 0).bind fun
   |.inl _=> some (0:Int)
   |.inr v2=> some v2 else some v1:=me 8
theorem QkN v0 v1 v2 v3 v4 v5 v6:QfD v0 v1 v2 v3 v4 v5 v6=
 bif decide (v6<v5) then (Sy.at' v4 v6).bind fun v7=>(bif (decide ((60:Int)<(v7.1.length:Int))) then some true else some (decide ((10:Int)<(v7.2.length:Int)))).bind fun v8=>bif v8 then some (.inl ()) else QfD v0 v1 v2 v3 v4 v5 (Ev.wr .i64 (v6+1)) else some (.inr ()):=me 9
theorem QkO v0 v1 v2:QfE v0 v1 v2=
 bif decide (v2<v1) then (Sy.at' v0 v2).bind fun v3=>(bif (decide ((100:Int)<(v3.1.length:Int))) then some true else some (decide ((120:Int)<(v3.2.2.2.1.length:Int)))).bind fun v4=>(bif v4 then some true else some (decide ((80:Int)<(v3.2.2.2.2.1.length:Int)))).bind fun v5=>(bif v5 then some true else some (decide ((200:Int)<v3.2.1))).bind fun v6=>bif v6 then some (.inl ()) else (QfF v0 v1 v2 v3.2.2.2.2.1 v3.2.2.2.2.1.length 0).bind fun
   |.inl _=> some (.inl ())
   |.inr _=> QfE v0 v1 (Ev.wr .i64 (v2+1)) else some (.inr ()):=me 10
theorem Qlv v0 v1:Qfn v0 v1=
 bif (decide ((v0.length:Int)=(v1.length:Int))) then (Qb9 v1 v0 v0.length 0).bind fun
   |.inl _=> some true
   |.inr _=> some false else some false:=me 11
theorem QrF v0:Qje v0=
 (Qmf v0.1).bind fun v1=>bif decide (v1=0) then bif (decide ((128:Int)<(v0.2.length:Int))) then some (6:Int) else (QdG v0 0).bind fun
   |.inl _=> some (0:Int)
   |.inr v2=> some v2 else some v1:=me 12
theorem QrG v0:Qme v0=
 (Qn5 v0).bind fun v1=>bif v1 then some (6:Int) else (QkD v0).bind fun v2=>bif v2 then (Qmg v0).bind fun v3=>bif v3 then some (8:Int) else (QdH v0 v0 v0.length 0).bind fun
   |.inl _=> (QkH v0).bind fun v4=>bif v4 then some (0:Int) else some (7:Int)
   |.inr _=> some (10:Int) else some (3:Int):=me 13
theorem Qm8 v0 v1:QgQ v0 v1=
 bif (decide ((v0.length:Int)=(v1.length:Int))) then (QcP v0 v1 0).bind fun
   |.inl _=> some false
   |.inr _=> some true else some false:=me 14
theorem QjE v0 v1 v2:QeP v0 v1 v2=
 bif decide (v2<v1) then (Qjf v0 v2).bind fun ⟨v3,v4⟩=>bif decide (v4=0) then QeP v0 v1 (Ev.wr .i64 (v2+1)) else some (.inr v4) else some (.inl ()):=me 15
theorem QkP v0 v1 v2 v3 v4 v5:QfF v0 v1 v2 v3 v4 v5=
 bif decide (v5<v4) then (Sy.at' v3 v5).bind fun v6=>(bif (decide ((12:Int)<(v6.2.2.1.length:Int))) then some true else some (decide ((12:Int)<(v6.2.2.2.2.2.2.1.length:Int)))).bind fun v7=>(bif v7 then some true else some (decide ((20:Int)<(v6.2.2.2.2.2.2.2.2.1.length:Int)))).bind fun v8=>bif v8 then some (.inl ()) else (QfG v0 v1 v2 v3 v4 v5 v6.2.2.2.2.2.2.2.2.1 v6.2.2.2.2.2.2.2.2.1.length 0).bind fun
   |.inl _=> some (.inl ())
   |.inr _=> QfF v0 v1 v2 v3 v4 (Ev.wr .i64 (v5+1)) else some (.inr ()):=me 16
theorem Qe0 v0 v1 v2 v3:Qb9 v0 v1 v2 v3=
 bif decide (v3<v2) then (Sy.at' v1 v3).bind fun v4=>(Sy.at' v0 v3).bind fun v5=>(Qm4 v4 v5).bind fun v6=>bif v6 then Qb9 v0 v1 v2 (Ev.wr .i64 (v3+1)) else some (.inr ()) else some (.inl ()):=me 17
theorem QrH v0:Qmf v0=
 (Qn6 v0).bind fun v1=>bif v1 then some (6:Int) else (QkE v0).bind fun v2=>bif v2 then (Qmh v0).bind fun v3=>bif v3 then some (8:Int) else (Qmi v0).bind fun v4=>bif v4 then (QkI v0).bind fun v5=>bif v5 then some (0:Int) else some (7:Int) else some (10:Int) else some (3:Int):=me 18
theorem QtR v0:Qn5 v0=
 bif (decide ((64:Int)<(v0.length:Int))) then some true else (Qgi v0 v0.length 0).bind fun
   |.inl _=> some true
   |.inr _=> some false:=me 19
theorem QjF v0 v1 v2:QeQ v0 v1 v2=
 bif (decide (v2<(v0.2.length:Int))) then (Sy.at' v0.2 v2).bind fun v3=>(Qc6 v3).bind fun ⟨v4,v5⟩=>(Sy.at' v1.2 v2).bind fun v6=>(Qc6 v6).bind fun ⟨v7,v8⟩=>(bif decide (v5=0) then some (!(decide (v8=0))) else some true).bind fun v9=>(bif v9 then some true else (Qgk v4 v7).bind fun v10=>some (!v10)).bind fun v10=>bif v10 then some (.inr ()) else QeQ v0 v1 (Ev.wr .i64 (v2+1)) else some (.inl ()):=me 20
theorem Qiy v0 v1:QdG v0 v1=
 bif (decide (v1<(v0.2.length:Int))) then (Qh4 v0 v1).bind fun ⟨v2,v3⟩=>bif decide (v3=0) then QdG v0 (Ev.wr .i64 (v1+1)) else some (.inr v3) else some (.inl ()):=me 21
theorem QqR v0:QkD v0=
 (bif (decide ((v0.length:Int)=(0:Int))) then some true else (Sy.at' v0 0).bind fun v1=>some (!(decide (v1.1=([66,111,111,108]:List UInt8))))).bind fun v1=>(bif v1 then some true else (Sy.at' v0 0).bind fun v2=>some (!(decide ((v2.2.length:Int)=(2:Int))))).bind fun v2=>bif v2 then some false else (Sy.at' v0 0).bind fun v3=>(Sy.at' v3.2 0).bind fun v4=>(Sy.at' v3.2 1).bind fun v5=>(bif (decide (v4.1=([70,97,108,115,101]:List UInt8))) then some (!(decide (v5.1=([84,114,117,101]:List UInt8)))) else some true).bind fun v6=>(bif v6 then some true else some (decide ((0:Int)<(Ev.wr .i64 ((v4.2.length:Int)+(v5.2.length:Int)))))).bind fun v7=>bif v7 then some false else (Qc7 v0 v0.length 0).bind fun
      |.inl _=> some true
      |.inr _=> some false:=me 22
theorem QfM v0 v1 v2:QcP v0 v1 v2=
 bif (decide (v2<(v0.length:Int))) then (Sy.at' v0 v2).bind fun v3=>(Sy.at' v1 v2).bind fun v4=>bif decide (v3.1=v4.1) then bif (decide ((v3.2.length:Int)=(v4.2.length:Int))) then (QcQ v0 v1 v2 0).bind fun
   |.inl _=> some (.inl ())
   |.inr _=> QcP v0 v1 (Ev.wr .i64 (v2+1)) else some (.inl ()) else some (.inl ()) else some (.inr ()):=me 23
theorem Qo2 v0 v1:Qjf v0 v1=
 (bif (decide (v1<(0:Int))) then some true else some (!(decide (v1<(v0.2.length:Int))))).bind fun v2=>bif v2 then some ((0:Int),(2:Int)) else (Sy.at' v0.2 v1).bind fun v3=>(Qed ([]:List (Bool)) ([]:List (Bool)) ([]:List (Bool)) v0.1 v0.2 v3.1 v3.2.1 v3.2.2.1 v3.2.2.2.1 v3.2.2.2.2.1 v3.2.2.2.2.2.1 v3.2.2.2.2.2.2 v1).bind fun v4=>bif decide (v4=0) then bif v3.2.2.2.2.2.2 then some ((0:Int),(0:Int)) else bif (decide ((v3.2.2.2.2.1.length:Int)<(0:Int))) then none else bif (decide (((v3.2.2.2.2.1.length:Int).toNat * (1:Nat))≤(140737488355328:Nat))) then bif (decide ((v3.2.2.2.1.length:Int)<(0:Int))) then none else bif (decide (((v3.2.2.2.1.length:Int).toNat * (1:Nat))≤(140737488355328:Nat))) then (Qcx (List.replicate (v3.2.2.2.2.1.length:Int).toNat false) (List.replicate (v3.2.2.2.1.length:Int).toNat false) (List.replicate (v3.2.2.2.1.length:Int).toNat false) v3 v0.1 v0.2 v3.1 v3.2.1 v3.2.2.1 v3.2.2.2.1 v3.2.2.2.2.1 v3.2.2.2.2.2.1 v3.2.2.2.2.2.2 v3.2.1 0).bind fun ⟨v5,v6⟩=>(Sy.at' (List.replicate (v3.2.2.2.2.1.length:Int).toNat false) v3.2.2.2.2.2.1).bind fun v7=>(Qcg (List.set (List.replicate (v3.2.2.2.2.1.length:Int).toNat false) v3.2.2.2.2.2.1.toNat true) v5 v6 v0.1 v0.2 v3.1 v3.2.1 v3.2.2.1 v3.2.2.2.1 v3.2.2.2.2.1 v3.2.2.2.2.2.1 v3.2.2.2.2.2.2 v3.2.2.2.2.2.1).bind fun ⟨v8,v9,v10,v11,v12⟩=>bif decide (v12=0) then (Qgm v8 (false)).bind fun v13=>bif (decide (v13<(0:Int))) then (Qcz v9 (false)).bind fun v14=>bif v14 then some ((-1:Int),(3:Int)) else some ((0:Int),(0:Int)) else some (v13,(3:Int)) else some (v11,v12) else none else none else some ((-1:Int),v4):=me 24
theorem QkQ v0 v1 v2 v3 v4 v5 v6 v7 v8:QfG v0 v1 v2 v3 v4 v5 v6 v7 v8=
 bif decide (v8<v7) then (Sy.at' v6 v8).bind fun v9=>bif (decide ((12:Int)<(v9.1.length:Int))) then some (.inl ()) else QfG v0 v1 v2 v3 v4 v5 v6 v7 (Ev.wr .i64 (v8+1)) else some (.inr ()):=me 25
theorem Qo3 v0 v1:Qm4 v0 v1=
 (bif decide (v0.1=v1.1) then (Qee v0.2 v1.2).bind fun v2=>some v2 else some false).bind fun v2=>some v2:=me 26
theorem QtS v0:Qn6 v0=
 bif (decide ((64:Int)<(v0.length:Int))) then some true else (Qgj v0 0).bind fun
   |.inl _=> some true
   |.inr _=> some false:=me 27
theorem QjG v0 v1 v2:Qgi v0 v1 v2=
 bif decide (v2<v1) then (Sy.at' v0 v2).bind fun v3=>(bif (decide ((16:Int)<(v3.2.length:Int))) then some true else (Qdy v3.2).bind fun v4=>some v4).bind fun v4=>bif v4 then some (.inl ()) else Qgi v0 v1 (Ev.wr .i64 (v2+1)) else some (.inr ()):=me 28
theorem QrI v0:Qmg v0=
 (QdI (Sy.putD .str .bool ([]:List ((List UInt8)×(Bool))) ([73,110,116]:List UInt8) true) ([]:List ((List UInt8)×(Bool))) v0 v0.length 0).bind fun
  |.inl _=> some true
  |.inr _=> some false:=me 29
theorem QqS v0:QkE v0=
 (bif (decide ((v0.length:Int)=(0:Int))) then some true else (Sy.at' v0 0).bind fun v1=>some (!(decide (v1.1=([66,111,111,108]:List UInt8))))).bind fun v1=>(bif v1 then some true else (Sy.at' v0 0).bind fun v2=>some (!(decide ((v2.2.length:Int)=(2:Int))))).bind fun v2=>bif v2 then some false else (Sy.at' v0 0).bind fun v3=>(Sy.at' v3.2 0).bind fun v4=>(Sy.at' v3.2 1).bind fun v5=>(bif (decide (v4.1=([70,97,108,115,101]:List UInt8))) then some (!(decide (v5.1=([84,114,117,101]:List UInt8)))) else some true).bind fun v6=>(bif v6 then some true else some (decide ((0:Int)<(v4.2.length:Int)))).bind fun v7=>(bif v7 then some true else some (decide ((0:Int)<(v5.2.length:Int)))).bind fun v8=>bif v8 then some false else (Qc8 v0 0).bind fun
      |.inl _=> some true
      |.inr _=> some false:=me 30
theorem QqT v0:Qc6 v0=
 (QtM v0).bind fun ⟨v1,v2,v3,v4,v5,v6,v7,v8,v9,v10,v11,v12⟩=>bif v12 then some ((([]:List UInt8),((0:Int),((0:Int),(([]:List (GVar)),(([]:List (Qae)),((0:Int),false)))))),(3:Int)) else bif (decide (v11<(0:Int))) then none else bif (decide ((v11.toNat * (16:Nat))≤(140737488355328:Nat))) then (Qch ([]:List (GVar)) ([]:List (Qae)) v1 v2 v3 (List.replicate v11.toNat ((0:Int),false)) ([]:List (Qae)) v0 ([]:List UInt8) 0 0 0 (false) v4 v5 v6 v7 v8 v9 v10 v11 v12 v0.1 v0.2.1 v0.2.2.1 0 v0.2.2.2.2.2.2 0).bind fun v13=>(QgY ([]:List (GVar)) ([]:List (Qae)) v1 v2 v3 v13 ([]:List (Qae)) v0 ([]:List UInt8) 0 0 0 (false) v4 v5 v6 v7 v8 v9 v10 v11 v12 v0.1 v0.2.1 v0.2.2.1 0 v0.2.2.2.2.2.2 0).bind fun v14=>some ((v0.1,(v0.2.1,(v0.2.2.1,(v13,(v14,((0:Int),v0.2.2.2.2.2.2)))))),(0:Int)) else none:=me 31
theorem Qoc v0 v1:Qh4 v0 v1=
 (bif (decide (v1<(0:Int))) then some true else some (!(decide (v1<(v0.2.length:Int))))).bind fun v2=>bif v2 then some ((0:Int),(2:Int)) else (QkF v0 v1).bind fun v3=>bif decide (v3=0) then (Sy.at' v0.2 v1).bind fun v4=>bif v4.2.2.2.2.2.2 then some ((0:Int),(0:Int)) else bif (decide ((v4.2.2.2.2.1.length:Int)<(0:Int))) then none else bif (decide (((v4.2.2.2.2.1.length:Int).toNat * (1:Nat))≤(140737488355328:Nat))) then bif (decide ((v4.2.2.2.1.length:Int)<(0:Int))) then none else bif (decide (((v4.2.2.2.1.length:Int).toNat * (1:Nat))≤(140737488355328:Nat))) then (Qce (List.replicate (v4.2.2.2.2.1.length:Int).toNat false) (List.replicate (v4.2.2.2.1.length:Int).toNat false) ([]:List (Int)) v0 v4 0 0 0).bind fun v5=>(Sy.at' (List.replicate (v4.2.2.2.2.1.length:Int).toNat false) v4.2.2.2.2.2.1).bind fun v6=>(Qdb (List.set (List.replicate (v4.2.2.2.2.1.length:Int).toNat false) v4.2.2.2.2.2.1.toNat true) (List.replicate (v4.2.2.2.1.length:Int).toNat false) v5 0 0 v0 v4 v4.2.2.2.2.2.1).bind fun ⟨v7,v8,v9,v10⟩=>bif decide (v10=0) then (Qdv v7 v8 v4 v9 v10 0).bind fun
                 |.inl v11=> some (v11,(3:Int))
                 |.inr _=> (Qcl v7 v8 v4 v9 v10 v4.2.1).bind fun
                  |.inl _=> some ((-1:Int),(3:Int))
                  |.inr _=> some ((0:Int),(0:Int)) else some (v9,v10) else none else none else some ((-1:Int),v3):=me 32
theorem QhF v0 v1 v2:Qc7 v0 v1 v2=
 bif decide (v2<v1) then (Sy.at' v0 v2).bind fun v3=>((Qln v3.1).bind fun v4=>bif v4 then some (decide ((v3.2.length:Int)=(0:Int))) else some true).bind fun v4=>(bif v4 then some true else (QcI v3.2).bind fun v5=>some v5).bind fun v5=>bif v5 then some (.inr ()) else Qc7 v0 v1 (Ev.wr .i64 (v2+1)) else some (.inl ()):=me 33
theorem QfN v0 v1 v2 v3:QcQ v0 v1 v2 v3=
 (Sy.at' v0 v2).bind fun v4=>bif (decide (v3<(v4.2.length:Int))) then (Sy.at' v4.2 v3).bind fun v5=>(Sy.at' v1 v2).bind fun v6=>(Sy.at' v6.2 v3).bind fun v7=>(bif decide (v5.1=v7.1) then some (!(decide ((v5.2.length:Int)=(v7.2.length:Int)))) else some true).bind fun v8=>bif v8 then some (.inl ()) else (QcR v5 v7 v0 v1 v2 v3 0).bind fun
   |.inl _=> some (.inl ())
   |.inr _=> QcQ v0 v1 v2 (Ev.wr .i64 (v3+1)) else some (.inr ()):=me 34
theorem QjV v0 v1 v2 v3 v4 v5 v6 v7 v8 v9 v10 v11 v12:Qed v0 v1 v2 v3 v4 v5 v6 v7 v8 v9 v10 v11 v12=
 (QqP v5).bind fun v13=>bif v13 then bif (decide (v12<(0:Int))) then none else bif (decide ((v4.length:Int)<v12)) then none else (Qa6 v0 v1 v2 v3 v4 v5 v6 v7 v8 v9 v10 v11 (v5,(v6,(v7,(v8,(v9,(v10,v11)))))) (List.take v12.toNat v4) ((List.take v12.toNat v4).length:Int) 0).bind fun
   |.inl _=> some (8:Int)
   |.inr _=> (bif (decide ((6:Int)<v6)) then some true else some (decide ((512:Int)<(v8.length:Int)))).bind fun v14=>(bif v14 then some true else some (decide ((4096:Int)<(v9.length:Int)))).bind fun v15=>bif v15 then some (6:Int) else (bif (decide (v6<(0:Int))) then some true else some (decide ((v8.length:Int)<v6))).bind fun v16=>bif v16 then some (3:Int) else (bif v11 then (bif (decide (v6<(v8.length:Int))) then some true else some (decide ((0:Int)<(v9.length:Int)))).bind fun v17=>(bif v17 then some true else some (!(decide (v10=0)))).bind fun v18=>bif v18 then some (.inl ()) else some (.inr ()) else (bif (decide (v10<(0:Int))) then some true else some (!(decide (v10<(v9.length:Int))))).bind fun v17=>bif v17 then some (.inl ()) else some (.inr ()):Option ((Unit)⊕(Unit))).bind fun
         |.inl _=> some (3:Int)
         |.inr _=> ((Qef v0 v1 v2 v3 v4 v5 v6 v7 v8 v9 v10 v11 v7).bind fun v17=>bif v17 then (QcK v0 v1 v2 v3 v4 v5 v6 v7 v8 v9 v10 v11 v8).bind fun v18=>some (.inl v18) else some (.inr ()):Option (((Bool))⊕(Unit))).bind fun
          |.inl v17=> bif v17 then some (10:Int) else (QcN v0 v1 v2 v3 v4 v5 v6 v7 v8 v9 v10 v11 v8).bind fun v18=>bif v18 then some (11:Int) else some (0:Int)
          |.inr _=> some (10:Int) else some (3:Int):=me 35
theorem QjW v0 v1:Qee v0 v1=
 bif (decide ((v0.length:Int)=(v1.length:Int))) then (QbG v1 v0 v0.length 0).bind fun
   |.inl _=> some true
   |.inr _=> some false else some false:=me 36
theorem QjH v0 v1:Qgj v0 v1=
 bif (decide (v1<(v0.length:Int))) then (Sy.at' v0 v1).bind fun v2=>bif (decide ((16:Int)<(v2.2.length:Int))) then some (.inl ()) else (QeR v0 v1 0).bind fun
      |.inl _=> some (.inl ())
      |.inr _=> Qgj v0 (Ev.wr .i64 (v1+1)) else some (.inr ()):=me 37
theorem Qjq v0:Qdy v0=
 (Qit v0).bind fun v1=>some (!(decide (v1<(0:Int)))):=me 38
theorem QjX v0 v1:QgR v0 v1=
 bif (decide ((v0.length:Int)=(v1.length:Int))) then (Qa7 v1 v0 v0.length 0).bind fun
   |.inl _=> some true
   |.inr _=> some false else some false:=me 39
theorem Qiz v0 v1 v2 v3:QdH v0 v1 v2 v3=
 bif decide (v3<v2) then (Sy.at' v1 v3).bind fun v4=>(Qfs v0 v1 v2 v3 v4.2 v4.2.length 0).bind fun
   |.inl _=> QdH v0 v1 v2 (Ev.wr .i64 (v3+1))
   |.inr _=> some (.inr ()) else some (.inl ()):=me 40
theorem QrJ v0:Qmh v0=
 (QdJ (([73,110,116]:List UInt8)::([]:List (List UInt8))) ([]:List (List UInt8)) v0 0).bind fun
  |.inl _=> some false
  |.inr _=> some true:=me 41
theorem Qo4 v0 v1:Qgk v0 v1=
 (bif decide (v0.1=v1.1) then some (!(decide (v0.2.1=v1.2.1))) else some true).bind fun v2=>(bif v2 then some true else some (!(decide (v0.2.2.1=v1.2.2.1)))).bind fun v3=>(bif v3 then some true else some (!(decide (v0.2.2.2.2.2.1=v1.2.2.2.2.2.1)))).bind fun v4=>(bif v4 then some true else some (!(v0.2.2.2.2.2.2==v1.2.2.2.2.2.2))).bind fun v5=>(bif v5 then some true else some (!(decide ((v0.2.2.2.1.length:Int)=(v1.2.2.2.1.length:Int))))).bind fun v6=>(bif v6 then some true else some (!(decide ((v0.2.2.2.2.1.length:Int)=(v1.2.2.2.2.1.length:Int))))).bind fun v7=>bif v7 then some false else (Qd6 v0 v1 0).bind fun
   |.inl _=> some false
   |.inr _=> (Qd7 v0 v1 0).bind fun
    |.inl _=> some true
    |.inr _=> some false:=me 42
theorem QiA v0 v1 v2 v3 v4:QdI v0 v1 v2 v3 v4=
 bif decide (v4<v3) then (Sy.at' v2 v4).bind fun v5=>bif (Sy.findD .str .bool v0 v5.1 false) then some (.inl ()) else (QdK (Sy.putD .str .bool v0 v5.1 true) v1 v2 v3 v4 v5.2 v5.2.length 0).bind fun
   |.inl _=> some (.inl ())
   |.inr v6=> QdI (Sy.putD .str .bool v0 v5.1 true) v6 v2 v3 (Ev.wr .i64 (v4+1)) else some (.inr ()):=me 43
theorem QhG v0 v1:Qc8 v0 v1=
 bif (decide (v1<(v0.length:Int))) then ((Sy.at' v0 v1).bind fun v2=>(QhB v2.1).bind fun v3=>bif v3 then some (decide ((v2.2.length:Int)=(0:Int))) else some true).bind fun v2=>bif v2 then some (.inr ()) else (Qc9 v0 v1 0).bind fun
      |.inl _=> some (.inr ())
      |.inr _=> Qc8 v0 (Ev.wr .i64 (v1+1)) else some (.inl ()):=me 44
theorem QwA v0:QtM v0=
 (bif (decide (v0.2.1<(0:Int))) then some true else some (decide ((v0.2.2.2.1.length:Int)<v0.2.1))).bind fun v1=>bif v1 then some (([]:List (Int)),([]:List (Int)),([]:List (Int)),v0.1,v0.2.1,v0.2.2.1,v0.2.2.2.1,v0.2.2.2.2.1,v0.2.2.2.2.2.1,v0.2.2.2.2.2.2,(0:Int),true) else (Qfo ([]:List (Int)) ([]:List (Int)) ([]:List (Int)) ([]:List (Int)) v0 v0.1 v0.2.1 v0.2.2.1 v0.2.2.2.1 v0.2.2.2.2.1 v0.2.2.2.2.2.1 v0.2.2.2.2.2.2 0 (false) 0).bind fun ⟨v2,v3⟩=>(QgT ([]:List (Int)) v2 ([]:List (Int)) v3 v0 v0.1 v0.2.1 v0.2.2.1 v0.2.2.2.1 v0.2.2.2.2.1 v0.2.2.2.2.2.1 v0.2.2.2.2.2.2 v0.2.1 (false) 0).bind fun v4=>(bif v0.2.2.2.2.2.2 then some (v4,v2,([]:List (Int)),v0.2.1,false) else (Qcy v4 v2 ([]:List (Int)) v3 v0.1 v0.2.1 v0.2.2.1 v0.2.2.2.1 v0.2.2.2.2.1 v0.2.2.2.2.2.1 v0.2.2.2.2.2.2 v0.2.1 (false) v0.2.2.2.2.2.1).bind fun ⟨v5,v6,v7,v8,v9⟩=>some (v5,v6,v7,v8,v9):Option (((List (Int))×(List (Int))×(List (Int))×(Int)×(Bool)))).bind fun ⟨v5,v6,v7,v8,v9⟩=>some (v5,v6,v7,v0.1,v0.2.1,v0.2.2.1,v0.2.2.2.1,v0.2.2.2.2.1,v0.2.2.2.2.2.1,v0.2.2.2.2.2.2,v8,v9):=me 45
theorem QqU v0 v1:QkF v0 v1=
 (Sy.at' v0.2 v1).bind fun v2=>(Qn7 v2.1).bind fun v3=>bif v3 then (Qda v0 v2 v1 0).bind fun
   |.inl _=> some (8:Int)
   |.inr _=> (bif (decide ((6:Int)<v2.2.1)) then some true else some (decide ((512:Int)<(v2.2.2.2.1.length:Int)))).bind fun v4=>(bif v4 then some true else some (decide ((4096:Int)<(v2.2.2.2.2.1.length:Int)))).bind fun v5=>bif v5 then some (6:Int) else (bif (decide (v2.2.1<(0:Int))) then some true else some (decide ((v2.2.2.2.1.length:Int)<v2.2.1))).bind fun v6=>bif v6 then some (3:Int) else (bif v2.2.2.2.2.2.2 then bif (decide ((v2.2.2.2.1.length:Int)=v2.2.1)) then some (.inl (decide ((0:Int)<(v2.2.2.2.2.1.length:Int)))) else some (.inl true) else some (.inr ()):Option (((Bool))⊕(Unit))).bind fun
         |.inl v7=> (bif v7 then some true else some (!(decide (v2.2.2.2.2.2.1=(0:Int))))).bind fun v8=>(bif v8 then some (.inl ()) else bif v2.2.2.2.2.2.2 then some (.inr (.inl ())) else bif (decide (v2.2.2.2.2.2.1<(0:Int))) then some (.inr (.inr true)) else some (.inr (.inr (!(decide (v2.2.2.2.2.2.1<(v2.2.2.2.2.1.length:Int)))))):Option ((Unit)⊕(Unit)⊕((Bool)))).bind fun
          |.inl _=> some (3:Int)
          | (.inr (.inl _))=>(Qdd v0 v2.2.2.1).bind fun v9=>bif v9 then (Qbd v0 v2 0).bind fun
            |.inl _=> some (10:Int)
            |.inr _=> (Qa1 v0 v2 0).bind fun
             |.inl _=> some (0:Int)
             |.inr _=> some (11:Int) else some (10:Int)
          | (.inr (.inr v9))=>bif v9 then some (3:Int) else (Qdd v0 v2.2.2.1).bind fun v10=>bif v10 then (Qbd v0 v2 0).bind fun
            |.inl _=> some (10:Int)
            |.inr _=> (Qa1 v0 v2 0).bind fun
             |.inl _=> some (0:Int)
             |.inr _=> some (11:Int) else some (10:Int)
         |.inr _=> (bif v2.2.2.2.2.2.2 then some (.inl ()) else bif (decide (v2.2.2.2.2.2.1<(0:Int))) then some (.inr true) else some (.inr (!(decide (v2.2.2.2.2.2.1<(v2.2.2.2.2.1.length:Int))))):Option ((Unit)⊕((Bool)))).bind fun
          |.inl _=> (Qdd v0 v2.2.2.1).bind fun v7=>bif v7 then (Qbd v0 v2 0).bind fun
            |.inl _=> some (10:Int)
            |.inr _=> (Qa1 v0 v2 0).bind fun
             |.inl _=> some (0:Int)
             |.inr _=> some (11:Int) else some (10:Int)
          |.inr v7=> bif v7 then some (3:Int) else (Qdd v0 v2.2.2.1).bind fun v8=>bif v8 then (Qbd v0 v2 0).bind fun
                |.inl _=> some (10:Int)
                |.inr _=> (Qa1 v0 v2 0).bind fun
                 |.inl _=> some (0:Int)
                 |.inr _=> some (11:Int) else some (10:Int) else some (3:Int):=me 46
theorem QtT v0:Qln v0=
 (bif (decide (v0=([]:List UInt8))) then some true else some (decide ((32:Int)<(v0.length:Int)))).bind fun v1=>(bif v1 then some true else (Sy.at' (List.map (fun (b:UInt8)=>(b.toNat:Int)) v0) 0).bind fun v2=>some (decide (v2<(65:Int)))).bind fun v2=>(bif v2 then some true else (Sy.at' (List.map (fun (b:UInt8)=>(b.toNat:Int)) v0) 0).bind fun v3=>some (decide ((90:Int)<v3))).bind fun v3=>bif v3 then some false else (Qcr v0 v0.length 0).bind fun
   |.inl _=> some false
   |.inr _=> some true:=me 47
theorem QfO v0 v1 v2 v3 v4 v5 v6:QcR v0 v1 v2 v3 v4 v5 v6=
 bif (decide (v6<(v0.2.length:Int))) then (Sy.at' v0.2 v6).bind fun v7=>(Sy.at' v1.2 v6).bind fun v8=>bif decide (v7=v8) then QcR v0 v1 v2 v3 v4 v5 (Ev.wr .i64 (v6+1)) else some (.inl ()) else some (.inr ()):=me 48
theorem Qvg v0:QqP v0=
 (strings_Cut v0 ([46]:List UInt8)).bind fun ⟨v1,v2,v3⟩=>((QhC v1 97 122).bind fun v4=>bif v4 then bif v3 then (QhC v2 97 122).bind fun v5=>some (.inl v5) else some (.inl true) else some (.inr ()):Option (((Bool))⊕(Unit))).bind fun
  |.inl v4=> some v4
  |.inr _=> some false:=me 49
theorem QdR v0 v1 v2 v3:QbG v0 v1 v2 v3=
 bif decide (v3<v2) then (Sy.at' v1 v3).bind fun v4=>(Sy.at' v0 v3).bind fun v5=>(QkG v4 v5).bind fun v6=>bif v6 then QbG v0 v1 v2 (Ev.wr .i64 (v3+1)) else some (.inr ()) else some (.inl ()):=me 50
theorem QjI v0 v1 v2:QeR v0 v1 v2=
 (Sy.at' v0 v1).bind fun v3=>bif (decide (v2<(v3.2.length:Int))) then (Sy.at' v3.2 v2).bind fun v4=>bif (decide ((6:Int)<(v4.2.length:Int))) then some (.inl ()) else QeR v0 v1 (Ev.wr .i64 (v2+1)) else some (.inr ()):=me 51
theorem Qlw v0:Qit v0=
 (Qca v0 v0.length 0).bind fun
  |.inl _=> some (-1:Int)
  |.inr v1=> some v1:=me 52
theorem QrK v0:Qmi v0=
 (Qft v0 0).bind fun
  |.inl _=> some true
  |.inr _=> some false:=me 53
theorem Qf7 v0 v1 v2 v3 v4 v5 v6 v7:Qce v0 v1 v2 v3 v4 v5 v6 v7=
 bif decide (v7<v4.2.1) then bif (decide (((v2.length+(1:Nat)) * (8:Nat))≤(35184372088832:Nat))) then Qce v0 v1 (v2++(v7::([]:List (Int)))) v3 v4 v5 v6 (Ev.wr .i64 (v7+1)) else none else some v2:=me 54
theorem Qh6 v0:QcI v0=
 (QgS v0).bind fun v1=>some (!(decide (v1<(0:Int)))):=me 55
theorem QdS v0 v1 v2 v3 v4 v5 v6 v7 v8 v9 v10 v11 v12 v13 v14 v15:Qa6 v0 v1 v2 v3 v4 v5 v6 v7 v8 v9 v10 v11 v12 v13 v14 v15=
 bif decide (v15<v14) then (Sy.at' v13 v15).bind fun v16=>bif decide (v16.1=v12.1) then some (.inl ()) else Qa6 v0 v1 v2 v3 v4 v5 v6 v7 v8 v9 v10 v11 v12 v13 v14 (Ev.wr .i64 (v15+1)) else some (.inr ()):=me 56
theorem QdT v0 v1 v2 v3:Qa7 v0 v1 v2 v3=
 bif decide (v3<v2) then (Sy.at' v1 v3).bind fun v4=>(Sy.at' v0 v3).bind fun v5=>(Qm5 v4 v5).bind fun v6=>bif v6 then Qa7 v0 v1 v2 (Ev.wr .i64 (v3+1)) else some (.inr ()) else some (.inl ()):=me 57
theorem QiB v0 v1 v2 v3 v4 v5 v6:Qfs v0 v1 v2 v3 v4 v5 v6=
 bif decide (v6<v5) then (Sy.at' v4 v6).bind fun v7=>(QcJ v0 v7.2).bind fun v8=>bif v8 then some (.inr ()) else Qfs v0 v1 v2 v3 v4 v5 (Ev.wr .i64 (v6+1)) else some (.inl ()):=me 58
theorem QiC v0 v1 v2 v3:QdJ v0 v1 v2 v3=
 bif (decide (v3<(v2.length:Int))) then (Sy.at' v2 v3).bind fun v4=>(Qpu v0 v4.1).bind fun v5=>bif v5 then some (.inr ()) else bif (decide (((v0.length+(1:Nat)) * (16:Nat))≤(35184372088832:Nat))) then (QdL (v0++(v4.1::([]:List (List UInt8)))) v1 v2 v3 0).bind fun
   |.inl _=> some (.inr ())
   |.inr v6=> QdJ (v0++(v4.1::([]:List (List UInt8)))) v6 v2 (Ev.wr .i64 (v3+1)) else none else some (.inl ()):=me 59
theorem Qg6 v0 v1 v2:Qd6 v0 v1 v2=
 bif (decide (v2<(v0.2.2.2.1.length:Int))) then (Sy.at' v0.2.2.2.1 v2).bind fun v3=>(Sy.at' v1.2.2.2.1 v2).bind fun v4=>bif ((decide (v3.1=v4.1))&&(v3.2==v4.2)) then Qd6 v0 v1 (Ev.wr .i64 (v2+1)) else some (.inl ()) else some (.inr ()):=me 60
theorem QiD v0 v1 v2 v3 v4 v5 v6 v7:QdK v0 v1 v2 v3 v4 v5 v6 v7=
 bif decide (v7<v6) then (Sy.at' v5 v7).bind fun v8=>bif (Sy.findD .str .bool v1 v8.1 false) then some (.inl ()) else QdK v0 (Sy.putD .str .bool v1 v8.1 true) v2 v3 v4 v5 v6 (Ev.wr .i64 (v7+1)) else some (.inr v1):=me 61
theorem QqV v0:QhB v0=
 (Qby v0 0).bind fun
  |.inl _=> some false
  |.inr _=> (bif (decide ((v0.length:Int)<(1:Int))) then some false else some (!(decide ((32:Int)<(v0.length:Int))))).bind fun v1=>some v1:=me 62
theorem QlK v0 v1 v2 v3 v4 v5 v6 v7 v8 v9 v10 v11 v12 v13 v14:Qfo v0 v1 v2 v3 v4 v5 v6 v7 v8 v9 v10 v11 v12 v13 v14=
 bif (decide (v14<(v4.2.2.2.1.length:Int))) then bif (decide (((v1.length+(1:Nat)) * (8:Nat))≤(35184372088832:Nat))) then bif decide (v14<v4.2.1) then (Sy.at' (v1++((-1:Int)::([]:List (Int)))) v14).bind fun v15=>bif (decide (((v3.length+(1:Nat)) * (8:Nat))≤(35184372088832:Nat))) then Qfo v0 (List.set (v1++((-1:Int)::([]:List (Int)))) v14.toNat v14) v2 (v3++(v14::([]:List (Int)))) v4 v5 v6 v7 v8 v9 v10 v11 v12 v13 (Ev.wr .i64 (v14+1)) else none else Qfo v0 (v1++((-1:Int)::([]:List (Int)))) v2 v3 v4 v5 v6 v7 v8 v9 v10 v11 v12 v13 (Ev.wr .i64 (v14+1)) else none else some (v1,v3):=me 63
theorem QtU v0:Qn7 v0=
 (QeS v0 0).bind fun
  |.inl _=> (Qiu v0 97 122).bind fun v1=>some v1
  |.inr v1=> some v1:=me 64
theorem QjJ v0 v1 v2:Qcr v0 v1 v2=
 bif decide (v2<v1) then (Sy.at' (List.map (fun (b:UInt8)=>(b.toNat:Int)) v0) v2).bind fun v3=>(bif (decide (v3<(97:Int))) then some false else some (!(decide ((122:Int)<v3)))).bind fun v4=>(bif v4 then some (.inl ()) else bif (decide (v3<(65:Int))) then some (.inr false) else some (.inr (!(decide ((90:Int)<v3)))):Option ((Unit)⊕((Bool)))).bind fun
   |.inl _=> Qcr v0 v1 (Ev.wr .i64 (v2+1))
   |.inr v5=> (bif v5 then some (.inl ()) else bif (decide (v3<(48:Int))) then some (.inr false) else some (.inr (!(decide ((57:Int)<v3)))):Option ((Unit)⊕((Bool)))).bind fun
    |.inl _=> Qcr v0 v1 (Ev.wr .i64 (v2+1))
    |.inr v6=> (bif v6 then some true else some (decide (v3=95))).bind fun v7=>bif v7 then Qcr v0 v1 (Ev.wr .i64 (v2+1)) else some (.inl ()) else some (.inr ()):=me 65
theorem QqW v0 v1 v2:QhC v0 v1 v2=
 (bif (decide ((v0.length:Int)=(0:Int))) then some true else some (decide ((32:Int)<(v0.length:Int)))).bind fun v3=>(bif v3 then some true else (Sy.at' (List.map (fun (b:UInt8)=>(b.toNat:Int)) v0) 0).bind fun v4=>some (decide (v4<v1))).bind fun v4=>(bif v4 then some true else (Sy.at' (List.map (fun (b:UInt8)=>(b.toNat:Int)) v0) 0).bind fun v5=>some (decide (v2<v5))).bind fun v5=>bif v5 then some false else (QoP v0 ([97,98,99,100,101,102,103,104,105,106,107,108,109,110,111,112,113,114,115,116,117,118,119,120,121,122,65,66,67,68,69,70,71,72,73,74,75,76,77,78,79,80,81,82,83,84,85,86,87,88,89,90,48,49,50,51,52,53,54,55,56,57,95]:List UInt8)).bind fun v6=>some (decide (v6=([]:List UInt8))):=me 66
theorem Qm9 v0 v1:QkG v0 v1=
 (bif decide (v0.1=v1.1) then (Qjg v0.2 v1.2).bind fun v2=>some v2 else some false).bind fun v2=>some v2:=me 67
theorem Qe1 v0 v1 v2:Qca v0 v1 v2=
 bif decide (v2<v1) then (Sy.at' v0 v2).bind fun v3=>(QoQ v3).bind fun v4=>bif v4 then some (.inr v2) else Qca v0 v1 (Ev.wr .i64 (v2+1)) else some (.inl ()):=me 68
theorem QqX v0:QkH v0=
 bif (decide ((Ev.wr .i64 ((v0.length:Int)+1))<(0:Int))) then none else bif (decide (((Ev.wr .i64 ((v0.length:Int)+1)).toNat * (1:Nat))≤(140737488355328:Nat))) then (Sy.at' (List.replicate (Ev.wr .i64 ((v0.length:Int)+1)).toNat false) 0).bind fun v1=>(QeT (List.set (List.replicate (Ev.wr .i64 ((v0.length:Int)+1)).toNat false) (0:Nat) true) v0 (true)).bind fun v2=>(Qcz v2 (false)).bind fun v3=>some (!v3) else none:=me 69
theorem QqY v0:QkI v0=
 bif (decide ((Ev.wr .i64 ((v0.length:Int)+1))<(0:Int))) then none else bif (decide (((Ev.wr .i64 ((v0.length:Int)+1)).toNat * (1:Nat))≤(140737488355328:Nat))) then (Sy.at' (List.replicate (Ev.wr .i64 ((v0.length:Int)+1)).toNat false) 0).bind fun v1=>(Qdc (List.set (List.replicate (Ev.wr .i64 ((v0.length:Int)+1)).toNat false) (0:Nat) true) v0 0).bind fun v2=>(Qdf v2 0).bind fun
      |.inl _=> some false
      |.inr _=> some true else none:=me 70
theorem QhH v0 v1 v2:Qc9 v0 v1 v2=
 (Sy.at' v0 v1).bind fun v3=>bif (decide (v2<(v3.2.length:Int))) then (Sy.at' v3.2 v2).bind fun v4=>(QhB v4.1).bind fun v5=>bif v5 then Qc9 v0 v1 (Ev.wr .i64 (v2+1)) else some (.inl ()) else some (.inr ()):=me 71
theorem QhI v0 v1 v2 v3:Qda v0 v1 v2 v3=
 bif decide (v3<v2) then (Sy.at' v0.2 v3).bind fun v4=>bif decide (v4.1=v1.1) then some (.inl ()) else Qda v0 v1 v2 (Ev.wr .i64 (v3+1)) else some (.inr ()):=me 72
theorem QiE v0 v1:Qft v0 v1=
 bif (decide (v1<(v0.length:Int))) then (Qfu v0 v1 0).bind fun
   |.inl _=> Qft v0 (Ev.wr .i64 (v1+1))
   |.inr _=> some (.inr ()) else some (.inl ()):=me 73
theorem QjY v0:QgS v0=
 (QbH v0 v0.length 0).bind fun
  |.inl _=> some (-1:Int)
  |.inr v1=> some v1:=me 74
theorem Qo5 v0 v1:Qm5 v0 v1=
 (Qbs v0).bind fun ⟨v2,v3⟩=>(Qbs v1).bind fun ⟨v4,v5⟩=>(Qji v2 v4).bind fun v6=>some v6:=me 75
theorem Qh7 v0 v1:QcJ v0 v1=
 (QgU v0 v1).bind fun v2=>some (!(decide (v2<(0:Int)))):=me 76
theorem QwB v0 v1:Qpu v0 v1=
 (Qjh v0 v1 0).bind fun
  |.inl _=> some true
  |.inr _=> some false:=me 77
theorem QhJ v0 v1:Qby v0 v1=
 bif (decide (v1<(v0.length:Int))) then (Sy.at' (List.map (fun (b:UInt8)=>(b.toNat:Int)) v0) v1).bind fun v2=>(bif (decide (v2<(65:Int))) then some false else some (!(decide ((90:Int)<v2)))).bind fun v3=>(bif v3 then some (.inl ()) else bif decide (v1=0) then some (.inr (.inl ())) else bif (decide (v2<(97:Int))) then some (.inr (.inr false)) else some (.inr (.inr (!(decide ((122:Int)<v2))))):Option ((Unit)⊕(Unit)⊕((Bool)))).bind fun
   |.inl _=> Qby v0 (Ev.wr .i64 (v1+1))
   | (.inr (.inl _))=>some (.inl ())
   | (.inr (.inr v4))=>(bif v4 then some (.inl ()) else bif (decide (v2<(48:Int))) then some (.inr false) else some (.inr (!(decide ((57:Int)<v2)))):Option ((Unit)⊕((Bool)))).bind fun
    |.inl _=> Qby v0 (Ev.wr .i64 (v1+1))
    |.inr v5=> (bif v5 then some true else some (decide (v2=95))).bind fun v6=>bif v6 then Qby v0 (Ev.wr .i64 (v1+1)) else some (.inl ()) else some (.inr ()):=me 78
theorem QjK v0 v1:QeS v0 v1=
 bif (decide (v1<(v0.length:Int))) then (Sy.at' (List.map (fun (b:UInt8)=>(b.toNat:Int)) v0) v1).bind fun v2=>bif decide (v2=46) then (bif (decide (v1<(0:Int))) then none else bif (decide ((v0.length:Int)<v1)) then none else (Qiu (List.take (v1.toNat - (0:Nat)) (List.drop (0:Nat) v0)) 97 122).bind fun v3=>bif v3 then bif (decide ((Ev.wr .i64 (v1+1))<(0:Int))) then none else bif (decide ((v0.length:Int)<(Ev.wr .i64 (v1+1)))) then none else (Qiu (List.take (v0.length - (Ev.wr .i64 (v1+1)).toNat) (List.drop (Ev.wr .i64 (v1+1)).toNat v0)) 97 122).bind fun v4=>some v4 else some false).bind fun v3=>some (.inr v3) else QeS v0 (Ev.wr .i64 (v1+1)) else some (.inl ()):=me 79
theorem Qo6 v0 v1:Qjg v0 v1=
 bif (decide ((v0.length:Int)=(v1.length:Int))) then (Qd8 v0 v1 v0.length 0).bind fun
   |.inl _=> some false
   |.inr _=> some true else some false:=me 80
theorem QqZ v0:QoQ v0=
 some (decide ((6:Int)<(v0.2.length:Int))):=me 81
theorem Qna v0 v1 v2 v3 v4 v5 v6 v7:Qdb v0 v1 v2 v3 v4 v5 v6 v7=
 (Sy.at' v6.2.2.2.2.1 v7).bind fun v8=>(Qf1 v0 v1 v2 v7 v4 v5 v6 v8).bind fun ⟨v9,v10⟩=>bif decide (v10=0) then (Qiv v8).bind fun v11=>(Qb2 v2 v0 v9 v7 v10 v5 v6 v8 v11 0).bind fun
   |.inl v12=> some (v12,v9,v7,(3:Int))
   |.inr v12=> (Qb4 v2 v12 v9 v7 v10 v5 v6 v8 v11 0).bind fun
    | (.inl ⟨v13,v14,v15,v16⟩)=>some (v13,v14,v15,v16)
    | (.inr ⟨v13,v14,v15,v16⟩)=>some (v13,v14,v15,v16) else some (v0,v9,v7,v10):=me 82
theorem Qe9 v0 v1 v2 v3 v4 v5 v6 v7 v8 v9 v10 v11 v12:Qef v0 v1 v2 v3 v4 v5 v6 v7 v8 v9 v10 v11 v12=
 (bif (decide (v12<(0:Int))) then some false else some (!(decide ((v3.length:Int)<v12)))).bind fun v13=>some v13:=me 83
theorem Qg7 v0 v1 v2:Qd7 v0 v1 v2=
 bif (decide (v2<(v0.2.2.2.2.1.length:Int))) then (Sy.at' v0.2.2.2.2.1 v2).bind fun v3=>(Sy.at' v1.2.2.2.2.1 v2).bind fun v4=>(Qh5 v3 v4).bind fun v5=>bif v5 then Qd7 v0 v1 (Ev.wr .i64 (v2+1)) else some (.inr ()) else some (.inl ()):=me 84
theorem QlL v0 v1 v2 v3 v4 v5 v6 v7 v8 v9 v10 v11 v12 v13 v14:QgT v0 v1 v2 v3 v4 v5 v6 v7 v8 v9 v10 v11 v12 v13 v14=
 bif (decide (v14<(v4.2.2.2.2.1.length:Int))) then bif (decide (((v0.length+(1:Nat)) * (8:Nat))≤(35184372088832:Nat))) then QgT (v0++((-1:Int)::([]:List (Int)))) v1 v2 v3 v4 v5 v6 v7 v8 v9 v10 v11 v12 v13 (Ev.wr .i64 (v14+1)) else none else some v0:=me 85
theorem QiF v0 v1 v2 v3 v4:QdL v0 v1 v2 v3 v4=
 (Sy.at' v2 v3).bind fun v5=>bif (decide (v4<(v5.2.length:Int))) then (Sy.at' v5.2 v4).bind fun v6=>(Qpu v1 v6.1).bind fun v7=>bif v7 then some (.inl ()) else bif (decide (((v1.length+(1:Nat)) * (16:Nat))≤(35184372088832:Nat))) then QdL v0 (v1++(v6.1::([]:List (List UInt8)))) v2 v3 (Ev.wr .i64 (v4+1)) else none else some (.inr v1):=me 86
theorem QhK v0 v1 v2:QeT v0 v1 v2=
 bif v2 then (Qcf v0 v1 (false) v1.length 0).bind fun ⟨v3,v4⟩=>QeT v3 v1 v4 else some v0:=me 87
theorem QhL v0 v1 v2:Qdc v0 v1 v2=
 bif (decide ((v1.length:Int)<v2)) then some v0 else (Qde v0 v1 v2 0).bind fun v3=>Qdc v3 v1 (Ev.wr .i64 (v2+1)):=me 88
theorem QiG v0 v1 v2:Qfu v0 v1 v2=
 (Sy.at' v0 v1).bind fun v3=>bif (decide (v2<(v3.2.length:Int))) then (Sy.at' v3.2 v2).bind fun v4=>(Qfv v0 v1 v2 v4.2 0).bind fun
   |.inl _=> Qfu v0 v1 (Ev.wr .i64 (v2+1))
   |.inr _=> some (.inr ()) else some (.inl ()):=me 89
theorem QdU v0 v1 v2:QbH v0 v1 v2=
 bif decide (v2<v1) then (Sy.at' v0 v2).bind fun v3=>(QlI v3).bind fun v4=>bif v4 then some (.inr v2) else QbH v0 v1 (Ev.wr .i64 (v2+1)) else some (.inl ()):=me 90
theorem Qo7 v0:Qbs v0=
 (Qgl v0).bind fun ⟨v1,v2,v3⟩=>bif v3 then bif (decide (v0.2.1<(0:Int))) then none else bif (decide ((v0.2.2.2.1.length:Int)<v0.2.1)) then none else bif (decide (((List.take v0.2.1.toNat v0.2.2.2.1).length * (16:Nat))≤(35184372088832:Nat))) then (QcA ([]:List (GVar)) ([]:List (Qae)) (List.take v0.2.1.toNat v0.2.2.2.1) ([]:List (Qae)) v0 ([]:List UInt8) 0 0 0 (false) v0.1 v0.2.1 v0.2.2.1 0 v0.2.2.2.2.2.2 v1 v2 v2.length 0).bind fun v4=>(Qjj v0).bind fun ⟨v5,v6,v7⟩=>(QaP ([]:List (GVar)) ([]:List (Qae)) v4 ([]:List (Qae)) v0 ([]:List UInt8) 0 0 0 (false) v0.1 v0.2.1 v0.2.2.1 0 v0.2.2.2.2.2.2 v5 v6 v1 v1.length 0).bind fun v8=>some ((v0.1,(v0.2.1,(v0.2.2.1,(v4,(v8,((0:Int),v0.2.2.2.2.2.2)))))),(0:Int)) else none else some ((([]:List UInt8),((0:Int),((0:Int),(([]:List (GVar)),(([]:List (Qae)),((0:Int),false)))))),(3:Int)):=me 91
theorem QjZ v0 v1:QgU v0 v1=
 (QbI v0 v1 v1.length 0).bind fun
  |.inl _=> some (-1:Int)
  |.inr v2=> some v2:=me 92
theorem QlM v0 v1 v2:Qjh v0 v1 v2=
 bif (decide (v2<(v0.length:Int))) then (Sy.at' v0 v2).bind fun v3=>bif decide (v3=v1) then some (.inl ()) else Qjh v0 v1 (Ev.wr .i64 (v2+1)) else some (.inr ()):=me 93
theorem QtV v0 v1 v2:Qiu v0 v1 v2=
 (bif (decide ((v0.length:Int)<(1:Int))) then some true else some (decide ((32:Int)<(v0.length:Int)))).bind fun v3=>(bif v3 then some true else (Sy.at' (List.map (fun (b:UInt8)=>(b.toNat:Int)) v0) 0).bind fun v4=>some (decide (v4<v1))).bind fun v4=>(bif v4 then some true else (Sy.at' (List.map (fun (b:UInt8)=>(b.toNat:Int)) v0) 0).bind fun v5=>some (decide (v2<v5))).bind fun v5=>bif v5 then some false else (QeU v0 0).bind fun
   |.inl _=> some true
   |.inr _=> some false:=me 94
theorem Qg8 v0 v1 v2 v3:Qd8 v0 v1 v2 v3=
 bif decide (v3<v2) then (Sy.at' v0 v3).bind fun v4=>(Sy.at' v1 v3).bind fun v5=>bif decide (v4=v5) then Qd8 v0 v1 v2 (Ev.wr .i64 (v3+1)) else some (.inl ()) else some (.inr ()):=me 95
theorem Qg9 v0 v1 v2 v3 v4 v5 v6 v7 v8 v9 v10 v11 v12 v13 v14:Qcx v0 v1 v2 v3 v4 v5 v6 v7 v8 v9 v10 v11 v12 v13 v14=
 bif decide (v14<v13) then (Sy.at' v1 v14).bind fun v15=>(Sy.at' v2 v14).bind fun v16=>Qcx v0 (List.set v1 v14.toNat true) (List.set v2 v14.toNat true) v3 v4 v5 v6 v7 v8 v9 v10 v11 v12 v13 (Ev.wr .i64 (v14+1)) else some (v1,v2):=me 96
theorem Qq0 v0 v1:Qdd v0 v1=
 (bif (decide (v1<(0:Int))) then some false else some (!(decide ((v0.1.length:Int)<v1)))).bind fun v2=>some v2:=me 97
theorem QrL v0 v1:Qji v0 v1=
 (bif decide (v0.1=v1.1) then some (decide (v0.2.1=v1.2.1)) else some false).bind fun v2=>(bif v2 then some (decide (v0.2.2.1=v1.2.2.1)) else some false).bind fun v3=>(bif v3 then some (v0.2.2.2.2.2.2==v1.2.2.2.2.2.2) else some false).bind fun v4=>(bif v4 then some (decide (v0.2.2.2.2.2.1=v1.2.2.2.2.2.1)) else some false).bind fun v5=>(bif v5 then (QgV v0.2.2.2.1 v1.2.2.2.1).bind fun v6=>some v6 else some false).bind fun v6=>(bif v6 then (Qeg v0.2.2.2.2.1 v1.2.2.2.2.1).bind fun v7=>some v7 else some false).bind fun v7=>some v7:=me 98
theorem Qmj v0 v1 v2 v3 v4 v5 v6 v7:Qf1 v0 v1 v2 v3 v4 v5 v6 v7=
 (Qn8 v7).bind fun v8=>bif v8 then (Qlo v7).bind fun v9=>(Qbz v2 v0 v1 v3 v4 v5 v6 v7 v9 0).bind fun
   |.inl _=> (Qeh v7).bind fun v10=>(QbC v2 v0 v1 v3 v4 v5 v6 v7 v10 0).bind fun
    |.inl _=> some (v1,(2:Int))
    |.inr _=> (bif (decide (v7.1=(6:Int))) then some true else some (decide (v7.1=(7:Int)))).bind fun v11=>(bif v11 then some true else some (decide (v7.1=(8:Int)))).bind fun v12=>(bif v12 then bif (decide (v7.2.2.2.2.2.1<(0:Int))) then some (.inl true) else some (.inl (!(decide (v7.2.2.2.2.2.1<(v5.2.length:Int))))) else some (.inr ()):Option (((Bool))⊕(Unit))).bind fun
     |.inl v13=> (bif v13 then some (.inl ()) else bif (decide (v7.1=(2:Int))) then bif (decide (v7.2.2.2.2.1<(0:Int))) then some (.inr (.inl true)) else some (.inr (.inl (decide ((7:Int)<v7.2.2.2.2.1)))) else some (.inr (.inr ())):Option ((Unit)⊕((Bool))⊕(Unit))).bind fun
      |.inl _=> some (v1,(2:Int))
      | (.inr (.inl v14))=>bif v14 then some (v1,(2:Int)) else (QaN v2 v0 v1 v3 v4 v5 v6 v7 v10 0).bind fun
        |.inl v15=> some (v15,(8:Int))
        |.inr v15=> (Qej v5 v6 v7).bind fun v16=>bif v16 then (Qek v5 v6 v7).bind fun v17=>bif v17 then some (v15,(0:Int)) else some (v15,(11:Int)) else some (v15,(10:Int))
      | (.inr (.inr _))=>(QaN v2 v0 v1 v3 v4 v5 v6 v7 v10 0).bind fun
       |.inl v14=> some (v14,(8:Int))
       |.inr v14=> (Qej v5 v6 v7).bind fun v15=>bif v15 then (Qek v5 v6 v7).bind fun v16=>bif v16 then some (v14,(0:Int)) else some (v14,(11:Int)) else some (v14,(10:Int))
     |.inr _=> (bif (decide (v7.1=(2:Int))) then bif (decide (v7.2.2.2.2.1<(0:Int))) then some (.inl true) else some (.inl (decide ((7:Int)<v7.2.2.2.2.1))) else some (.inr ()):Option (((Bool))⊕(Unit))).bind fun
      |.inl v13=> bif v13 then some (v1,(2:Int)) else (QaN v2 v0 v1 v3 v4 v5 v6 v7 v10 0).bind fun
        |.inl v14=> some (v14,(8:Int))
        |.inr v14=> (Qej v5 v6 v7).bind fun v15=>bif v15 then (Qek v5 v6 v7).bind fun v16=>bif v16 then some (v14,(0:Int)) else some (v14,(11:Int)) else some (v14,(10:Int))
      |.inr _=> (QaN v2 v0 v1 v3 v4 v5 v6 v7 v10 0).bind fun
       |.inl v13=> some (v13,(8:Int))
       |.inr v13=> (Qej v5 v6 v7).bind fun v14=>bif v14 then (Qek v5 v6 v7).bind fun v15=>bif v15 then some (v13,(0:Int)) else some (v13,(11:Int)) else some (v13,(10:Int))
   |.inr _=> some (v1,(9:Int)) else some (v1,(3:Int)):=me 99
theorem Qod v0 v1:Qh5 v0 v1=
 (bif decide (v0.1=v1.1) then some (!(decide (v0.2.1=v1.2.1))) else some true).bind fun v2=>(bif v2 then some true else some (!(decide (v0.2.2.2.1=v1.2.2.2.1)))).bind fun v3=>(bif v3 then some true else some (!(decide (v0.2.2.2.2.1=v1.2.2.2.2.1)))).bind fun v4=>(bif v4 then some true else some (!(decide (v0.2.2.2.2.2.1=v1.2.2.2.2.2.1)))).bind fun v5=>(bif v5 then some true else some (!(v0.2.2.2.2.2.2.2.1==v1.2.2.2.2.2.2.2.1))).bind fun v6=>(bif v6 then some true else some (!(decide (v0.2.2.2.2.2.2.2.2.2=v1.2.2.2.2.2.2.2.2.2)))).bind fun v7=>bif v7 then some false else ((QdM v0.2.2.1 v1.2.2.1).bind fun v8=>bif v8 then (QdM v0.2.2.2.2.2.2.1 v1.2.2.2.2.2.2.1).bind fun v9=>some (!v9) else some true).bind fun v8=>(bif v8 then some true else some (!(decide ((v0.2.2.2.2.2.2.2.2.1.length:Int)=(v1.2.2.2.2.2.2.2.2.1.length:Int))))).bind fun v9=>bif v9 then some false else (Qci v0 v1 0).bind fun
      |.inl _=> some false
      |.inr _=> some true:=me 100
theorem QhM v0 v1 v2 v3 v4:Qcf v0 v1 v2 v3 v4=
 bif decide (v4<v3) then (Sy.at' v1 v4).bind fun v5=>(QcL v0 v5.2).bind fun v6=>(bif v6 then (Sy.at' v0 (Ev.wr .i64 (v4+1))).bind fun v7=>some (!v7) else some false).bind fun v7=>bif v7 then (Sy.at' v0 (Ev.wr .i64 (v4+1))).bind fun v8=>Qcf (List.set v0 (Ev.wr .i64 (v4+1)).toNat true) v1 (true) v3 (Ev.wr .i64 (v4+1)) else Qcf v0 v1 v2 v3 (Ev.wr .i64 (v4+1)) else some (v0,v2):=me 101
theorem QhN v0 v1 v2 v3:Qde v0 v1 v2 v3=
 bif (decide (v3<(v1.length:Int))) then (Qdg v0 v1 v2 v3 0).bind fun v4=>Qde v4 v1 v2 (Ev.wr .i64 (v3+1)) else some v0:=me 102
theorem QiH v0 v1 v2 v3 v4:Qfv v0 v1 v2 v3 v4=
 bif (decide (v4<(v3.length:Int))) then (Sy.at' v3 v4).bind fun v5=>(QhD v0 v5).bind fun v6=>bif v6 then Qfv v0 v1 v2 v3 (Ev.wr .i64 (v4+1)) else some (.inr ()) else some (.inl ()):=me 103
theorem Qoe v0:QlI v0=
 (Qln v0.1).bind fun v1=>some (!v1):=me 104
theorem Qo8 v0:Qgl v0=
 (bif (decide (v0.2.1<(0:Int))) then some true else some (decide ((v0.2.2.2.1.length:Int)<v0.2.1))).bind fun v1=>bif v1 then some (([]:List (Int)),([]:List (Int)),false) else bif v0.2.2.2.2.2.2 then some (([]:List (Int)),([]:List (Int)),true) else bif (decide ((v0.2.2.2.2.1.length:Int)<(0:Int))) then none else bif (decide (((v0.2.2.2.2.1.length:Int).toNat * (1:Nat))≤(140737488355328:Nat))) then bif (decide ((v0.2.2.2.1.length:Int)<(0:Int))) then none else bif (decide (((v0.2.2.2.1.length:Int).toNat * (1:Nat))≤(140737488355328:Nat))) then (QbU ([]:List (Int)) ([]:List (Int)) (List.replicate (v0.2.2.2.2.1.length:Int).toNat false) (List.replicate (v0.2.2.2.1.length:Int).toNat false) (List.replicate (v0.2.2.2.1.length:Int).toNat false) v0 v0.2.1 0).bind fun ⟨v2,v3⟩=>(Qdi (List.replicate (v0.2.2.2.2.1.length:Int).toNat false) v0 v0.2.2.2.2.2.1).bind fun ⟨v4,v5⟩=>bif v5 then (Qcj ([]:List (Int)) v3 v4 v2 ([]:List (Int)) v0 (true) v0.2.2.2.2.2.1).bind fun ⟨v6,v7,v8,v9,v10,v11⟩=>some (v6,v10,v11) else some (([]:List (Int)),([]:List (Int)),false) else none else none:=me 105
theorem QdV v0 v1 v2 v3:QbI v0 v1 v2 v3=
 bif decide (v3<v2) then (Sy.at' v1 v3).bind fun v4=>(Qm6 v0 v4).bind fun v5=>bif v5 then some (.inr v3) else QbI v0 v1 v2 (Ev.wr .i64 (v3+1)) else some (.inl ()):=me 106
theorem QjL v0 v1:QeU v0 v1=
 bif (decide (v1<(v0.length:Int))) then (Sy.at' (List.map (fun (b:UInt8)=>(b.toNat:Int)) v0) v1).bind fun v2=>(QkJ v2).bind fun v3=>bif v3 then QeU v0 (Ev.wr .i64 (v1+1)) else some (.inr ()) else some (.inl ()):=me 107
theorem Qh8 v0 v1 v2 v3 v4 v5 v6 v7 v8 v9 v10 v11 v12:QcK v0 v1 v2 v3 v4 v5 v6 v7 v8 v9 v10 v11 v12=
 (QgW v0 v1 v2 v3 v4 v5 v6 v7 v8 v9 v10 v11 v12).bind fun v13=>some (!(decide (v13<(0:Int)))):=me 108
theorem Qmk v0 v1 v2 v3 v4 v5 v6 v7 v8 v9 v10 v11 v12 v13:Qcy v0 v1 v2 v3 v4 v5 v6 v7 v8 v9 v10 v11 v12 v13=
 (bif v12 then some true else some (decide (v13<(0:Int)))).bind fun v14=>(bif v14 then some true else some (!(decide (v13<(v8.length:Int))))).bind fun v15=>(bif v15 then some true else (Sy.at' v0 v13).bind fun v16=>some (!(decide (v16<(0:Int))))).bind fun v16=>bif v16 then some (v0,v1,v2,v11,true) else (Sy.at' v0 v13).bind fun v17=>bif (decide (((v2.length+(1:Nat)) * (8:Nat))≤(35184372088832:Nat))) then (Sy.at' v8 v13).bind fun v18=>(Qlo v18).bind fun v19=>(Qbb v3 (List.set v0 v13.toNat (v2.length:Int)) v1 (v2++(v13::([]:List (Int)))) v4 v5 v6 v7 v8 v9 v10 v11 v12 v18 v19 0).bind fun v20=>(Qiv v18).bind fun v21=>(QbA v3 (List.set v0 v13.toNat (v2.length:Int)) v1 (v2++(v13::([]:List (Int)))) v4 v5 v6 v7 v8 v9 v10 v11 v20 v18 v21 0).bind fun ⟨v22,v23,v24,v25,v26⟩=>some (v22,v23,v24,v25,v26) else none:=me 109
theorem QhO v0 v1 v2:Qbd v0 v1 v2=
 bif (decide (v2<(v1.2.2.2.1.length:Int))) then (Sy.at' v1.2.2.2.1 v2).bind fun v3=>(Qdd v0 v3.1).bind fun v4=>bif v4 then Qbd v0 v1 (Ev.wr .i64 (v2+1)) else some (.inl ()) else some (.inr ()):=me 110
theorem Qha v0 v1:Qcz v0 v1=
 (Qgm v0 v1).bind fun v2=>some (!(decide (v2<(0:Int)))):=me 111
theorem QhP v0 v1:Qdf v0 v1=
 bif (decide (v1<(v0.length:Int))) then (Sy.at' v0 v1).bind fun v2=>bif v2 then Qdf v0 (Ev.wr .i64 (v1+1)) else some (.inl ()) else some (.inr ()):=me 112
theorem Qhb v0 v1 v2 v3 v4 v5 v6 v7 v8 v9 v10 v11 v12 v13 v14 v15 v16 v17 v18:QcA v0 v1 v2 v3 v4 v5 v6 v7 v8 v9 v10 v11 v12 v13 v14 v15 v16 v17 v18=
 bif decide (v18<v17) then (Sy.at' v16 v18).bind fun v19=>(Sy.at' v4.2.2.2.1 v19).bind fun v20=>bif (decide (((v2.length+(1:Nat)) * (16:Nat))≤(35184372088832:Nat))) then QcA v0 v1 (v2++(v20::([]:List (GVar)))) v3 v4 v5 v6 v7 v8 v9 v10 v11 v12 v13 v14 v15 v16 v17 (Ev.wr .i64 (v18+1)) else none else some v2:=me 113
theorem Qnb v0 v1:QgV v0 v1=
 bif (decide ((v0.length:Int)=(v1.length:Int))) then (QcS v0 v1 v0.length 0).bind fun
   |.inl _=> some false
   |.inr _=> some true else some false:=me 114
theorem QtW v0:Qn8 v0=
 (bif (decide (v0.1<(0:Int))) then some true else some (decide ((9:Int)<v0.1))).bind fun v1=>bif v1 then some false else (Sy.at' ((1:Int)::((0:Int)::((2:Int)::((-1:Int)::((1:Int)::((1:Int)::((-1:Int)::((-1:Int)::((-1:Int)::((1:Int)::([]:List (Int)))))))))))) v0.1).bind fun v2=>bif (decide (v2<(0:Int))) then (bif (decide (v0.1=(1:Int))) then some true else some (decide (v0.1=(2:Int)))).bind fun v3=>(bif v3 then some true else some (decide (v0.1=(3:Int)))).bind fun v4=>(bif v4 then some true else some (decide (v0.1=(4:Int)))).bind fun v5=>(bif v5 then some true else some (decide (v0.1=(6:Int)))).bind fun v6=>(bif (decide (v0.1=(6:Int))) then some true else some (decide (v0.1=(7:Int)))).bind fun v7=>(bif v7 then some true else some (decide (v0.1=(8:Int)))).bind fun v8=>(bif (decide (v0.2.1=(0:Int))) then some false else some (!v6)).bind fun v9=>(bif v9 then some (.inl ()) else bif (decide (v0.2.2.2.1=(0:Int))) then some (.inr false) else some (.inr (!(decide (v0.1=(3:Int))))):Option ((Unit)⊕((Bool)))).bind fun
      |.inl _=> some false
      |.inr v10=> (bif v10 then some (!(decide (v0.1=(8:Int)))) else some false).bind fun v11=>(bif v11 then some (.inl ()) else bif (decide (v0.2.2.2.2.1=(0:Int))) then some (.inr false) else some (.inr (!(decide (v0.1=(1:Int))))):Option ((Unit)⊕((Bool)))).bind fun
       |.inl _=> some false
       |.inr v12=> (bif v12 then some (!(decide (v0.1=(2:Int)))) else some false).bind fun v13=>(bif v13 then some (!(decide (v0.1=(8:Int)))) else some false).bind fun v14=>bif v14 then some false else (bif (decide (v0.2.2.2.2.2.1=(0:Int))) then some false else some (!v8)).bind fun v15=>(bif v15 then some (.inl ()) else bif (decide ((0:Int)<(v0.2.2.2.2.2.2.1.length:Int))) then some (.inr (!(decide (v0.1=(8:Int))))) else some (.inr false):Option ((Unit)⊕((Bool)))).bind fun
         |.inl _=> some false
         |.inr v16=> (bif v16 then some (.inl ()) else bif v0.2.2.2.2.2.2.2.1 then some (.inr (!(decide (v0.1=(9:Int))))) else some (.inr false):Option ((Unit)⊕((Bool)))).bind fun
          |.inl _=> some false
          |.inr v17=> (bif v17 then some (.inl ()) else bif (decide ((0:Int)<(v0.2.2.2.2.2.2.2.2.1.length:Int))) then some (.inr (!(decide (v0.1=(9:Int))))) else some (.inr false):Option ((Unit)⊕((Bool)))).bind fun
           |.inl _=> some false
           |.inr v18=> bif v18 then some false else (bif (decide (v0.2.2.2.2.2.2.2.2.2=(0:Int))) then some true else some v6).bind fun v19=>(bif v19 then some true else some (decide (v0.1=(5:Int)))).bind fun v20=>some v20 else bif (decide ((v0.2.2.1.length:Int)=v2)) then (bif (decide (v0.1=(1:Int))) then some true else some (decide (v0.1=(2:Int)))).bind fun v3=>(bif v3 then some true else some (decide (v0.1=(3:Int)))).bind fun v4=>(bif v4 then some true else some (decide (v0.1=(4:Int)))).bind fun v5=>(bif v5 then some true else some (decide (v0.1=(6:Int)))).bind fun v6=>(bif (decide (v0.1=(6:Int))) then some true else some (decide (v0.1=(7:Int)))).bind fun v7=>(bif v7 then some true else some (decide (v0.1=(8:Int)))).bind fun v8=>(bif (decide (v0.2.1=(0:Int))) then some false else some (!v6)).bind fun v9=>(bif v9 then some (.inl ()) else bif (decide (v0.2.2.2.1=(0:Int))) then some (.inr false) else some (.inr (!(decide (v0.1=(3:Int))))):Option ((Unit)⊕((Bool)))).bind fun
       |.inl _=> some false
       |.inr v10=> (bif v10 then some (!(decide (v0.1=(8:Int)))) else some false).bind fun v11=>(bif v11 then some (.inl ()) else bif (decide (v0.2.2.2.2.1=(0:Int))) then some (.inr false) else some (.inr (!(decide (v0.1=(1:Int))))):Option ((Unit)⊕((Bool)))).bind fun
        |.inl _=> some false
        |.inr v12=> (bif v12 then some (!(decide (v0.1=(2:Int)))) else some false).bind fun v13=>(bif v13 then some (!(decide (v0.1=(8:Int)))) else some false).bind fun v14=>bif v14 then some false else (bif (decide (v0.2.2.2.2.2.1=(0:Int))) then some false else some (!v8)).bind fun v15=>(bif v15 then some (.inl ()) else bif (decide ((0:Int)<(v0.2.2.2.2.2.2.1.length:Int))) then some (.inr (!(decide (v0.1=(8:Int))))) else some (.inr false):Option ((Unit)⊕((Bool)))).bind fun
          |.inl _=> some false
          |.inr v16=> (bif v16 then some (.inl ()) else bif v0.2.2.2.2.2.2.2.1 then some (.inr (!(decide (v0.1=(9:Int))))) else some (.inr false):Option ((Unit)⊕((Bool)))).bind fun
           |.inl _=> some false
           |.inr v17=> (bif v17 then some (.inl ()) else bif (decide ((0:Int)<(v0.2.2.2.2.2.2.2.2.1.length:Int))) then some (.inr (!(decide (v0.1=(9:Int))))) else some (.inr false):Option ((Unit)⊕((Bool)))).bind fun
            |.inl _=> some false
            |.inr v18=> bif v18 then some false else (bif (decide (v0.2.2.2.2.2.2.2.2.2=(0:Int))) then some true else some v6).bind fun v19=>(bif v19 then some true else some (decide (v0.1=(5:Int)))).bind fun v20=>some v20 else some false:=me 115
theorem Qof v0 v1:QdM v0 v1=
 bif (decide ((v0.length:Int)=(v1.length:Int))) then (Qds v0 v1 0).bind fun
   |.inl _=> some false
   |.inr _=> some true else some false:=me 116
theorem Qh9 v0 v1:QcL v0 v1=
 (QgX v0 v1).bind fun v2=>some (!(decide (v2<(0:Int)))):=me 117
theorem QhQ v0 v1 v2 v3 v4:Qdg v0 v1 v2 v3 v4=
 (Sy.at' v1 v3).bind fun v5=>bif (decide (v4<(v5.2.length:Int))) then (Sy.at' v5.2 v4).bind fun v6=>(Qdh v0 v1 v2 v3 v4 (true) v6.2 0).bind fun v7=>((Sy.at' v0 (Ev.wr .i64 (v3+1))).bind fun v8=>bif v8 then some true else some v7).bind fun v8=>(Sy.at' v0 (Ev.wr .i64 (v3+1))).bind fun v9=>Qdg (List.set v0 (Ev.wr .i64 (v3+1)).toNat v8) v1 v2 v3 (Ev.wr .i64 (v4+1)) else some v0:=me 118
theorem Qq1 v0 v1:QhD v0 v1=
 (bif (decide (v1<(0:Int))) then some false else some (!(decide ((v0.length:Int)<v1)))).bind fun v2=>some v2:=me 119
theorem Qhc v0 v1 v2 v3 v4 v5 v6 v7:QbU v0 v1 v2 v3 v4 v5 v6 v7=
 bif decide (v7<v6) then (Sy.at' v3 v7).bind fun v8=>(Sy.at' v4 v7).bind fun v9=>QbU v0 v1 v2 (List.set v3 v7.toNat true) (List.set v4 v7.toNat true) v5 v6 (Ev.wr .i64 (v7+1)) else some (v3,v4):=me 120
theorem Qo9 v0 v1:Qm6 v0 v1=
 (QhE v0 v1).bind fun v2=>some (!v2):=me 121
theorem Qq2 v0:QkJ v0=
 (bif (decide (v0<(97:Int))) then some false else some (!(decide ((122:Int)<v0)))).bind fun v1=>(bif v1 then some (.inl ()) else bif (decide (v0<(65:Int))) then some (.inr false) else some (.inr (!(decide ((90:Int)<v0)))):Option ((Unit)⊕((Bool)))).bind fun
  |.inl _=> some true
  |.inr v2=> (bif v2 then some (.inl ()) else bif (decide (v0<(48:Int))) then some (.inr false) else some (.inr (!(decide ((57:Int)<v0)))):Option ((Unit)⊕((Bool)))).bind fun
   |.inl _=> some true
   |.inr v3=> (bif v3 then some true else some (decide (v0=95))).bind fun v4=>some v4:=me 122
theorem Qlx v0 v1 v2 v3 v4 v5 v6 v7 v8 v9 v10 v11 v12:Qcg v0 v1 v2 v3 v4 v5 v6 v7 v8 v9 v10 v11 v12=
 (Sy.at' v9 v12).bind fun v13=>(QeV v0 v1 v2 v3 v4 v5 v6 v7 v8 v9 v10 v11 v13).bind fun ⟨v14,v15⟩=>bif decide (v15=0) then (QgZ v13).bind fun v16=>(QaK v0 v14 v2 v3 v4 v5 v6 v7 v8 v9 v10 v11 v13 v12 v16 v16 v16.length 0).bind fun
   |.inl v17=> some (v17,v14,v2,v12,(3:Int))
   |.inr v17=> (Qbk v17 v14 v2 v3 v4 v5 v6 v7 v8 v9 v10 v11 v13 v16 v16.length 0).bind fun
    | (.inl ⟨v18,v19,v20⟩)=>some (v18,v19,v20,(0:Int),(0:Int))
    | (.inr ⟨v18,v19,v20,v21,v22⟩)=>some (v18,v19,v20,v21,v22) else some (v0,v14,v2,v12,v15):=me 123
theorem QhR v0 v1 v2 v3 v4 v5 v6 v7 v8 v9 v10 v11 v12 v13 v14 v15 v16 v17 v18 v19 v20 v21 v22 v23 v24 v25 v26 v27:Qch v0 v1 v2 v3 v4 v5 v6 v7 v8 v9 v10 v11 v12 v13 v14 v15 v16 v17 v18 v19 v20 v21 v22 v23 v24 v25 v26 v27=
 bif (decide (v27<(v7.2.2.2.1.length:Int))) then (Sy.at' v3 v27).bind fun v28=>bif (decide (v28<(0:Int))) then Qch v0 v1 v2 v3 v4 v5 v6 v7 v8 v9 v10 v11 v12 v13 v14 v15 v16 v17 v18 v19 v20 v21 v22 v23 v24 v25 v26 (Ev.wr .i64 (v27+1)) else (Sy.at' v7.2.2.2.1 v27).bind fun v29=>(Sy.at' v5 v28).bind fun v30=>Qch v0 v1 v2 v3 v4 (List.set v5 v28.toNat v29) v6 v7 v8 v9 v10 v11 v12 v13 v14 v15 v16 v17 v18 v19 v20 v21 v22 v23 v24 v25 v26 (Ev.wr .i64 (v27+1)) else some v5:=me 124
theorem Qj0 v0 v1:Qeg v0 v1=
 bif (decide ((v0.length:Int)=(v1.length:Int))) then (QbJ v1 v0 v0.length 0).bind fun
   |.inl _=> some true
   |.inr _=> some false else some false:=me 125
theorem QtX v0:Qlo v0=
 (bif (decide (v0.1<(0:Int))) then some true else some (decide ((9:Int)<v0.1))).bind fun v1=>(bif v1 then some true else some (decide (v0.1=(1:Int)))).bind fun v2=>bif v2 then some ([]:List (Int)) else (Qdt ([]:List (Int)) v0 0).bind fun v3=>(bif (decide (v0.1=(8:Int))) then (Qdu v3 v0 0).bind fun v4=>some v4 else some v3:Option (((List (Int))))).bind fun v4=>some v4:=me 126
theorem Qf8 v0 v1 v2:Qci v0 v1 v2=
 bif (decide (v2<(v0.2.2.2.2.2.2.2.2.1.length:Int))) then (Sy.at' v0.2.2.2.2.2.2.2.2.1 v2).bind fun v3=>(Sy.at' v1.2.2.2.2.2.2.2.2.1 v2).bind fun v4=>bif decide (v3.2=v4.2) then (QdM v3.1 v4.1).bind fun v5=>bif v5 then Qci v0 v1 (Ev.wr .i64 (v2+1)) else some (.inl ()) else some (.inl ()) else some (.inr ()):=me 127
theorem Qj1 v0 v1 v2 v3 v4 v5 v6 v7 v8 v9 v10 v11 v12:QgW v0 v1 v2 v3 v4 v5 v6 v7 v8 v9 v10 v11 v12=
 (QbK v0 v1 v2 v3 v4 v5 v6 v7 v8 v9 v10 v11 v12 v12.length 0).bind fun
  |.inl _=> some (-1:Int)
  |.inr v13=> some v13:=me 128
theorem Qfa v0 v1 v2 v3 v4 v5 v6 v7 v8 v9 v10 v11 v12 v13 v14 v15:Qbb v0 v1 v2 v3 v4 v5 v6 v7 v8 v9 v10 v11 v12 v13 v14 v15=
 bif (decide (v15<(v14.length:Int))) then (Sy.at' v14 v15).bind fun v16=>(QtN v0 v16).bind fun v17=>bif v17 then Qbb v0 v1 v2 v3 v4 v5 v6 v7 v8 v9 v10 v11 v12 v13 v14 (Ev.wr .i64 (v15+1)) else Qbb v0 v1 v2 v3 v4 v5 v6 v7 v8 v9 v10 v11 (true) v13 v14 (Ev.wr .i64 (v15+1)) else some v12:=me 129
theorem QjM v0 v1:Qgm v0 v1=
 (QcB v0 v1 v0.length 0).bind fun
  |.inl v2=> some v2
  |.inr _=> some (-1:Int):=me 130
theorem QfP v0 v1 v2 v3:QcS v0 v1 v2 v3=
 bif decide (v3<v2) then (Sy.at' v0 v3).bind fun v4=>(Sy.at' v1 v3).bind fun v5=>bif ((decide (v4.1=v5.1))&&(v4.2==v5.2)) then QcS v0 v1 v2 (Ev.wr .i64 (v3+1)) else some (.inl ()) else some (.inr ()):=me 131
theorem Qf9 v0 v1 v2:Qds v0 v1 v2=
 bif (decide (v2<(v0.length:Int))) then (Sy.at' v0 v2).bind fun v3=>(Sy.at' v1 v2).bind fun v4=>bif decide (v3=v4) then Qds v0 v1 (Ev.wr .i64 (v2+1)) else some (.inl ()) else some (.inr ()):=me 132
theorem Qj2 v0 v1:QgX v0 v1=
 (QbL v0 v1 v1.length 0).bind fun
  |.inl _=> some (-1:Int)
  |.inr v2=> some v2:=me 133
theorem QhS v0 v1 v2 v3 v4 v5 v6 v7:Qdh v0 v1 v2 v3 v4 v5 v6 v7=
 bif (decide (v7<(v6.length:Int))) then (bif v5 then (Sy.at' v6 v7).bind fun v8=>(Sy.at' v0 v8).bind fun v9=>some (true,v9) else some (false,false):Option (((Bool)×(Bool)))).bind fun ⟨v8,v9⟩=>Qdh v0 v1 v2 v3 v4 v9 v6 (Ev.wr .i64 (v7+1)) else some v5:=me 134
theorem Qq3 v0 v1:QhE v0 v1=
 (bif (decide (v1<(0:Int))) then some false else some (!(decide ((v0.length:Int)<v1)))).bind fun v2=>some v2:=me 135
theorem QhT v0 v1 v2:Qa1 v0 v1 v2=
 bif (decide (v2<(v1.2.2.2.1.length:Int))) then (Sy.at' v1.2.2.2.1 v2).bind fun v3=>bif v3.2 then (Qfp v0.1 v3.1).bind fun v4=>bif v4 then some (.inr ()) else Qa1 v0 v1 (Ev.wr .i64 (v2+1)) else Qa1 v0 v1 (Ev.wr .i64 (v2+1)) else some (.inl ()):=me 136
theorem QrM v0:Qjj v0=
 (Qgl v0).bind fun ⟨v1,v2,v3⟩=>bif v3 then bif (decide ((v0.2.2.2.2.1.length:Int)<(0:Int))) then none else bif (decide (((v0.2.2.2.2.1.length:Int).toNat * (8:Nat))≤(140737488355328:Nat))) then bif (decide ((v0.2.2.2.1.length:Int)<(0:Int))) then none else bif (decide (((v0.2.2.2.1.length:Int).toNat * (8:Nat))≤(140737488355328:Nat))) then (QdN (List.replicate (v0.2.2.2.2.1.length:Int).toNat (0:Int)) (List.replicate (v0.2.2.2.1.length:Int).toNat (0:Int)) v0 v1 v2 ((List.replicate (v0.2.2.2.2.1.length:Int).toNat (0:Int)).length:Int) 0).bind fun v4=>(QcE v4 (List.replicate (v0.2.2.2.1.length:Int).toNat (0:Int)) v0 v1 v2 ((List.replicate (v0.2.2.2.1.length:Int).toNat (0:Int)).length:Int) 0).bind fun v5=>(QdP v4 v5 v0 v2 v1 v1.length 0).bind fun v6=>(QdQ v6 v5 v0 v2 v2.length 0).bind fun v7=>some (v6,v7,(0:Int)) else none else none else some (([]:List (Int)),([]:List (Int)),(3:Int)):=me 137
theorem Qfb v0 v1 v2 v3 v4 v5 v6 v7 v8 v9:Qbz v0 v1 v2 v3 v4 v5 v6 v7 v8 v9=
 bif (decide (v9<(v8.length:Int))) then (Sy.at' v8 v9).bind fun v10=>(QtO v0 v10).bind fun v11=>bif v11 then Qbz v0 v1 v2 v3 v4 v5 v6 v7 v8 (Ev.wr .i64 (v9+1)) else some (.inr ()) else some (.inl ()):=me 138
theorem Qnc v0 v1 v2:Qdi v0 v1 v2=
 (bif (decide (v2<(0:Int))) then some true else some (!(decide (v2<(v1.2.2.2.2.1.length:Int))))).bind fun v3=>(bif v3 then some true else (Sy.at' v0 v2).bind fun v4=>some v4).bind fun v4=>bif v4 then some (v0,false) else (Sy.at' v0 v2).bind fun v5=>some ((List.set v0 v2.toNat true),true):=me 139
theorem QkR v0 v1 v2 v3 v4 v5 v6 v7 v8 v9 v10 v11 v12:QeV v0 v1 v2 v3 v4 v5 v6 v7 v8 v9 v10 v11 v12=
 (QqQ v12).bind fun v13=>bif v13 then (QkK v12).bind fun v14=>(Qbe v0 v1 v2 v3 v4 v5 v6 v7 v8 v9 v10 v11 v12 v14 v14.length 0).bind fun
   |.inl _=> some (v1,(9:Int))
   |.inr _=> (Qes v12).bind fun v15=>(Qbf v0 v1 v2 v3 v4 v5 v6 v7 v8 v9 v10 v11 v12 v15 v15 v15.length 0).bind fun
    |.inl _=> some (v1,(2:Int))
    |.inr _=> (Qoa).bind fun _=>(Sy.at' (((1:Int),(false,(false,(false,(false,(false,(false,(false,false))))))))::(((0:Int),(true,(false,(true,(false,(false,(false,(true,false))))))))::(((2:Int),(true,(false,(true,(false,(false,(false,(true,false))))))))::(((-1:Int),(true,(true,(false,(false,(false,(false,(true,false))))))))::(((1:Int),(true,(false,(false,(false,(false,(false,(true,false))))))))::(((1:Int),(false,(false,(false,(false,(false,(false,(true,false))))))))::(((-1:Int),(true,(false,(false,(true,(false,(false,(true,false))))))))::(((-1:Int),(false,(false,(false,(true,(false,(false,(false,false))))))))::(((-1:Int),(false,(true,(true,(true,(true,(false,(false,false))))))))::(((1:Int),(false,(false,(false,(false,(false,(true,(false,true))))))))::([]:List (QA9)))))))))))) v12.1).bind fun v16=>bif v16.2.2.2.2.1 then bif (decide (v12.2.2.2.2.2.1<(0:Int))) then some (v1,(2:Int)) else bif (decide (v12.2.2.2.2.2.1<(v4.length:Int))) then bif (decide (v12.1=(2:Int))) then bif (decide (v12.2.2.2.2.1<(0:Int))) then some (v1,(2:Int)) else bif (decide (v12.2.2.2.2.1<(8:Int))) then (QaC v0 v1 v2 v3 v4 v5 v6 v7 v8 v9 v10 v11 v12 v15 v15 v15.length 0).bind fun
               |.inl v17=> some (v17,(8:Int))
               |.inr v17=> (QaS v0 v17 v2 v3 v4 v5 v6 v7 v8 v9 v10 v11 v12).bind fun v18=>bif v18 then (Qaq v0 v17 v2 v3 v4 v5 v6 v7 v8 v9 v10 v11 v12 v15 v15.length 0).bind fun
                 |.inl _=> some (v17,(11:Int))
                 |.inr _=> some (v17,(0:Int)) else some (v17,(10:Int)) else some (v1,(2:Int)) else (QaC v0 v1 v2 v3 v4 v5 v6 v7 v8 v9 v10 v11 v12 v15 v15 v15.length 0).bind fun
              |.inl v17=> some (v17,(8:Int))
              |.inr v17=> (QaS v0 v17 v2 v3 v4 v5 v6 v7 v8 v9 v10 v11 v12).bind fun v18=>bif v18 then (Qaq v0 v17 v2 v3 v4 v5 v6 v7 v8 v9 v10 v11 v12 v15 v15.length 0).bind fun
                |.inl _=> some (v17,(11:Int))
                |.inr _=> some (v17,(0:Int)) else some (v17,(10:Int)) else some (v1,(2:Int)) else bif (decide (v12.1=(2:Int))) then bif (decide (v12.2.2.2.2.1<(0:Int))) then some (v1,(2:Int)) else bif (decide (v12.2.2.2.2.1<(8:Int))) then (QaC v0 v1 v2 v3 v4 v5 v6 v7 v8 v9 v10 v11 v12 v15 v15 v15.length 0).bind fun
              |.inl v17=> some (v17,(8:Int))
              |.inr v17=> (QaS v0 v17 v2 v3 v4 v5 v6 v7 v8 v9 v10 v11 v12).bind fun v18=>bif v18 then (Qaq v0 v17 v2 v3 v4 v5 v6 v7 v8 v9 v10 v11 v12 v15 v15.length 0).bind fun
                |.inl _=> some (v17,(11:Int))
                |.inr _=> some (v17,(0:Int)) else some (v17,(10:Int)) else some (v1,(2:Int)) else (QaC v0 v1 v2 v3 v4 v5 v6 v7 v8 v9 v10 v11 v12 v15 v15 v15.length 0).bind fun
          |.inl v17=> some (v17,(8:Int))
          |.inr v17=> (QaS v0 v17 v2 v3 v4 v5 v6 v7 v8 v9 v10 v11 v12).bind fun v18=>bif v18 then (Qaq v0 v17 v2 v3 v4 v5 v6 v7 v8 v9 v10 v11 v12 v15 v15.length 0).bind fun
            |.inl _=> some (v17,(11:Int))
            |.inr _=> some (v17,(0:Int)) else some (v17,(10:Int)) else some (v1,(3:Int)):=me 140
theorem QdW v0 v1 v2 v3:QbJ v0 v1 v2 v3=
 bif decide (v3<v2) then (Sy.at' v1 v3).bind fun v4=>(Sy.at' v0 v3).bind fun v5=>(Qjk v4 v5).bind fun v6=>bif v6 then QbJ v0 v1 v2 (Ev.wr .i64 (v3+1)) else some (.inr ()) else some (.inl ()):=me 141
theorem QjN v0 v1 v2:Qdt v0 v1 v2=
 bif (decide (v2<(v1.2.2.1.length:Int))) then (bif (decide (v1.1=(8:Int))) then (Sy.at' v1.2.2.1 v2).bind fun v3=>some (!(decide (v3<(0:Int)))) else some true).bind fun v3=>bif v3 then (Sy.at' v1.2.2.1 v2).bind fun v4=>bif (decide (((v0.length+(1:Nat)) * (8:Nat))≤(35184372088832:Nat))) then Qdt (v0++(v4::([]:List (Int)))) v1 (Ev.wr .i64 (v2+1)) else none else Qdt v0 v1 (Ev.wr .i64 (v2+1)) else some v0:=me 142
theorem QdX v0 v1 v2 v3 v4 v5 v6 v7 v8 v9 v10 v11 v12 v13 v14:QbK v0 v1 v2 v3 v4 v5 v6 v7 v8 v9 v10 v11 v12 v13 v14=
 bif decide (v14<v13) then (Sy.at' v12 v14).bind fun v15=>(QfH v0 v1 v2 v3 v4 v5 v6 v7 v8 v9 v10 v11 v15).bind fun v16=>bif v16 then some (.inr v14) else QbK v0 v1 v2 v3 v4 v5 v6 v7 v8 v9 v10 v11 v12 v13 (Ev.wr .i64 (v14+1)) else some (.inl ()):=me 143
theorem QwC v0 v1:QtN v0 v1=
 (Qjl v0 v1 0).bind fun
  |.inl _=> some true
  |.inr _=> some false:=me 144
theorem Qct v0 v1 v2 v3:QcB v0 v1 v2 v3=
 bif decide (v3<v2) then (Sy.at' v0 v3).bind fun v4=>bif (v1==v4) then some (.inl v3) else QcB v0 v1 v2 (Ev.wr .i64 (v3+1)) else some (.inr ()):=me 145
theorem QdY v0 v1 v2 v3:QbL v0 v1 v2 v3=
 bif decide (v3<v2) then (Sy.at' v1 v3).bind fun v4=>(QlJ v0 v4).bind fun v5=>bif v5 then some (.inr v3) else QbL v0 v1 v2 (Ev.wr .i64 (v3+1)) else some (.inl ()):=me 146
theorem QhU v0 v1 v2 v3 v4 v5 v6 v7 v8 v9 v10 v11 v12 v13 v14 v15 v16 v17 v18 v19 v20 v21 v22 v23 v24 v25 v26 v27:QgY v0 v1 v2 v3 v4 v5 v6 v7 v8 v9 v10 v11 v12 v13 v14 v15 v16 v17 v18 v19 v20 v21 v22 v23 v24 v25 v26 v27=
 bif (decide (v27<(v4.length:Int))) then (Sy.at' v4 v27).bind fun v28=>(Sy.at' v7.2.2.2.2.1 v28).bind fun v29=>(Qiw v29 v2 v3).bind fun v30=>bif (decide (((v6.length+(1:Nat)) * (128:Nat))≤(35184372088832:Nat))) then (Qck v0 v1 v2 v3 v4 v5 (v6++(v30::([]:List (Qae)))) v7 v8 v9 v10 v11 v12 v13 v14 v15 v16 v17 v18 v19 v20 v21 v22 v23 v24 v25 v26 (Ev.wr .i64 (v27+1))).bind fun v31=>some v31 else none else some v6:=me 147
theorem Qhd v0 v1 v2 v3 v4 v5 v6 v7 v8 v9 v10 v11 v12 v13 v14 v15 v16 v17 v18 v19:QaP v0 v1 v2 v3 v4 v5 v6 v7 v8 v9 v10 v11 v12 v13 v14 v15 v16 v17 v18 v19=
 bif decide (v19<v18) then (Sy.at' v17 v19).bind fun v20=>(Sy.at' v4.2.2.2.2.1 v20).bind fun v21=>((bif (decide (v21.1<(0:Int))) then some false else some (!(decide ((9:Int)<v21.1)))).bind fun v22=>(bif v22 then some (!(decide (v21.1=(1:Int)))) else some false).bind fun v23=>bif v23 then (QbB v16 v21.2.2.1).bind fun v24=>(QbB v16 v21.2.2.2.2.2.2.1).bind fun v25=>some (v21.1,(v21.2.1,(v24,(v21.2.2.2.1,(v21.2.2.2.2.1,(v21.2.2.2.2.2.1,(v25,v21.2.2.2.2.2.2.2))))))) else some v21:Option Qae).bind fun v22=>((bif (decide (v22.1=(9:Int))) then some false else (Qes v22).bind fun v23=>some (decide ((0:Int)<(v23.length:Int)))).bind fun v23=>bif v23 then (Sy.at' v16 v22.2.1).bind fun v24=>some (v22.1,(v24,v22.2.2)) else some v22:Option Qae).bind fun v23=>((bif (decide (v23.1=(9:Int))) then some false else (QgZ v23).bind fun v24=>some (decide ((0:Int)<(v24.length:Int)))).bind fun v24=>bif v24 then (Sy.at' v15 v23.2.2.2.2.2.2.2.2.2).bind fun v25=>some (v23.1,(v23.2.1,(v23.2.2.1,(v23.2.2.2.1,(v23.2.2.2.2.1,(v23.2.2.2.2.2.1,(v23.2.2.2.2.2.2.1,(v23.2.2.2.2.2.2.2.1,(v23.2.2.2.2.2.2.2.2.1,v25))))))))) else some v23:Option Qae).bind fun v24=>(bif (decide (v24.1=(9:Int))) then (QcC v0 v1 v2 v3 ([]:List (Qas)) v4 v5 v6 v7 v8 v9 v10 v11 v12 v13 v14 v24.1 v24.2.1 v24.2.2.1 v24.2.2.2.1 v24.2.2.2.2.1 v24.2.2.2.2.2.1 v24.2.2.2.2.2.2.1 v24.2.2.2.2.2.2.2.1 v24.2.2.2.2.2.2.2.2.2 v15 v16 v17 v18 v19 v24.2.2.2.2.2.2.2.2.1 v24.2.2.2.2.2.2.2.2.1.length 0).bind fun v25=>some (.inl v25) else (Qjn v24.2.2.2.2.2.2.2.2.1).bind fun v25=>some (.inr (v24.1,(v24.2.1,(v24.2.2.1,(v24.2.2.2.1,(v24.2.2.2.2.1,(v24.2.2.2.2.2.1,(v24.2.2.2.2.2.2.1,(v24.2.2.2.2.2.2.2.1,(v25,v24.2.2.2.2.2.2.2.2.2)))))))))):Option (((List (Qas)))⊕((Qae)))).bind fun
   |.inl v25=> ((bif (decide (v24.1<(0:Int))) then some true else some (decide ((9:Int)<v24.1))).bind fun v26=>(bif v26 then some true else some (decide (v24.1=(1:Int)))).bind fun v27=>bif v27 then bif (decide ((v24.2.2.1.length * (8:Nat))≤(35184372088832:Nat))) then bif (decide ((v24.2.2.2.2.2.2.1.length * (8:Nat))≤(35184372088832:Nat))) then some (.inl ()) else none else none else some (.inr ()):Option ((Unit)⊕(Unit))).bind fun
    |.inl _=> bif (decide (((v3.length+(1:Nat)) * (128:Nat))≤(35184372088832:Nat))) then QaP v0 v1 v2 (v3++((v24.1,(v24.2.1,(v24.2.2.1,(v24.2.2.2.1,(v24.2.2.2.2.1,(v24.2.2.2.2.2.1,(v24.2.2.2.2.2.2.1,(v24.2.2.2.2.2.2.2.1,(v25,v24.2.2.2.2.2.2.2.2.2)))))))))::([]:List (Qae)))) v4 v5 v6 v7 v8 v9 v10 v11 v12 v13 v14 v15 v16 v17 v18 (Ev.wr .i64 (v19+1)) else none
    |.inr _=> bif (decide (((v3.length+(1:Nat)) * (128:Nat))≤(35184372088832:Nat))) then QaP v0 v1 v2 (v3++((v24.1,(v24.2.1,(v24.2.2.1,(v24.2.2.2.1,(v24.2.2.2.2.1,(v24.2.2.2.2.2.1,(v24.2.2.2.2.2.2.1,(v24.2.2.2.2.2.2.2.1,(v25,v24.2.2.2.2.2.2.2.2.2)))))))))::([]:List (Qae)))) v4 v5 v6 v7 v8 v9 v10 v11 v12 v13 v14 v15 v16 v17 v18 (Ev.wr .i64 (v19+1)) else none
   |.inr v25=> ((bif (decide (v25.1<(0:Int))) then some true else some (decide ((9:Int)<v25.1))).bind fun v26=>(bif v26 then some true else some (decide (v25.1=(1:Int)))).bind fun v27=>bif v27 then bif (decide ((v25.2.2.1.length * (8:Nat))≤(35184372088832:Nat))) then bif (decide ((v25.2.2.2.2.2.2.1.length * (8:Nat))≤(35184372088832:Nat))) then some (.inl ()) else none else none else some (.inr ()):Option ((Unit)⊕(Unit))).bind fun
    |.inl _=> bif (decide (((v3.length+(1:Nat)) * (128:Nat))≤(35184372088832:Nat))) then QaP v0 v1 v2 (v3++(v25::([]:List (Qae)))) v4 v5 v6 v7 v8 v9 v10 v11 v12 v13 v14 v15 v16 v17 v18 (Ev.wr .i64 (v19+1)) else none
    |.inr _=> bif (decide (((v3.length+(1:Nat)) * (128:Nat))≤(35184372088832:Nat))) then QaP v0 v1 v2 (v3++(v25::([]:List (Qae)))) v4 v5 v6 v7 v8 v9 v10 v11 v12 v13 v14 v15 v16 v17 v18 (Ev.wr .i64 (v19+1)) else none else some v3:=me 148
theorem QtY v0:Qiv v0=
 bif (decide (v0.1=(1:Int))) then some (v0.2.2.2.2.2.2.2.2.2::([]:List (Int))) else bif (decide (v0.1=(2:Int))) then some (v0.2.2.2.2.2.2.2.2.2::([]:List (Int))) else bif (decide (v0.1=(3:Int))) then some (v0.2.2.2.2.2.2.2.2.2::([]:List (Int))) else bif (decide (v0.1=(4:Int))) then some (v0.2.2.2.2.2.2.2.2.2::([]:List (Int))) else bif (decide (v0.1=(5:Int))) then some (v0.2.2.2.2.2.2.2.2.2::([]:List (Int))) else bif (decide (v0.1=(6:Int))) then some (v0.2.2.2.2.2.2.2.2.2::([]:List (Int))) else bif (decide (v0.1=(9:Int))) then (QeW ([]:List (Int)) v0 0).bind fun v1=>some v1 else some ([]:List (Int)):=me 149
theorem QtZ v0 v1:Qfp v0 v1=
 bif decide (v1=0) then some true else (QhD v0 v1).bind fun v2=>bif v2 then (Qgn v0 v1 0).bind fun
   |.inl _=> some false
   |.inr _=> some true else some false:=me 150
theorem QiI v0 v1 v2 v3 v4 v5 v6:QdN v0 v1 v2 v3 v4 v5 v6=
 bif decide (v6<v5) then (Sy.at' v0 v6).bind fun v7=>QdN (List.set v0 v6.toNat (-1:Int)) v1 v2 v3 v4 v5 (Ev.wr .i64 (v6+1)) else some v0:=me 151
theorem QwD v0 v1:QtO v0 v1=
 (Qjm v0 v1 0).bind fun
  |.inl _=> some true
  |.inr _=> some false:=me 152
theorem Qvh v0:QqQ v0=
 (Qn9 v0.1).bind fun ⟨v1,v2⟩=>(bif v2 then bif (decide (v1.1<(0:Int))) then some (.inl false) else some (.inl (!(decide ((v0.2.2.1.length:Int)=v1.1)))) else some (.inr ()):Option (((Bool))⊕(Unit))).bind fun
  |.inl v3=> bif v3 then some false else (bif v1.2.1 then some true else some (decide (v0.2.1=(0:Int)))).bind fun v4=>(bif v4 then bif v1.2.2.1 then some (.inl true) else some (.inl (decide (v0.2.2.2.1=(0:Int)))) else some (.inr ()):Option (((Bool))⊕(Unit))).bind fun
    |.inl v5=> (bif v5 then bif v1.2.2.2.1 then some (.inl true) else some (.inl (decide (v0.2.2.2.2.1=(0:Int)))) else some (.inr ()):Option (((Bool))⊕(Unit))).bind fun
     |.inl v6=> (bif v6 then bif v1.2.2.2.2.1 then some (.inl true) else some (.inl (decide (v0.2.2.2.2.2.1=(0:Int)))) else some (.inr ()):Option (((Bool))⊕(Unit))).bind fun
      |.inl v7=> (bif v7 then bif v1.2.2.2.2.2.1 then some (.inl true) else some (.inl (decide ((v0.2.2.2.2.2.2.1.length:Int)=(0:Int)))) else some (.inr ()):Option (((Bool))⊕(Unit))).bind fun
       |.inl v8=> (bif v8 then bif v1.2.2.2.2.2.2.1 then some (.inl true) else some (.inl (!v0.2.2.2.2.2.2.2.1)) else some (.inr ()):Option (((Bool))⊕(Unit))).bind fun
        |.inl v9=> (bif v9 then bif v1.2.2.2.2.2.2.2.1 then some (.inl true) else some (.inl (decide (v0.2.2.2.2.2.2.2.2.2=(0:Int)))) else some (.inr ()):Option (((Bool))⊕(Unit))).bind fun
         |.inl v10=> (bif v10 then bif v1.2.2.2.2.2.2.2.2 then some (.inl true) else some (.inl (decide ((v0.2.2.2.2.2.2.2.2.1.length:Int)=(0:Int)))) else some (.inr ()):Option (((Bool))⊕(Unit))).bind fun
          |.inl v11=> some v11
          |.inr _=> some false
         |.inr _=> some false
        |.inr _=> some false
       |.inr _=> some false
      |.inr _=> some false
     |.inr _=> some false
    |.inr _=> some false
  |.inr _=> some false:=me 153
theorem Qpa v0 v1:Qjk v0 v1=
 (bif decide (v0.1=v1.1) then some (decide (v0.2.1=v1.2.1)) else some false).bind fun v2=>(bif v2 then some (decide (v0.2.2.2.1=v1.2.2.2.1)) else some false).bind fun v3=>(bif v3 then some (decide (v0.2.2.2.2.1=v1.2.2.2.2.1)) else some false).bind fun v4=>(bif v4 then some (decide (v0.2.2.2.2.2.1=v1.2.2.2.2.2.1)) else some false).bind fun v5=>(bif v5 then some (v0.2.2.2.2.2.2.2.1==v1.2.2.2.2.2.2.2.1) else some false).bind fun v6=>(bif v6 then some (decide (v0.2.2.2.2.2.2.2.2.2=v1.2.2.2.2.2.2.2.2.2)) else some false).bind fun v7=>(bif v7 then (Qdj v0.2.2.1 v1.2.2.1).bind fun v8=>some v8 else some false).bind fun v8=>(bif v8 then (Qdj v0.2.2.2.2.2.2.1 v1.2.2.2.2.2.2.1).bind fun v9=>some v9 else some false).bind fun v9=>(bif v9 then (Qei v0.2.2.2.2.2.2.2.2.1 v1.2.2.2.2.2.2.2.2.1).bind fun v10=>some v10 else some false).bind fun v10=>some v10:=me 154
theorem QiJ v0 v1 v2 v3 v4 v5 v6 v7 v8 v9 v10 v11 v12:QfH v0 v1 v2 v3 v4 v5 v6 v7 v8 v9 v10 v11 v12=
 (Qef v0 v1 v2 v3 v4 v5 v6 v7 v8 v9 v10 v11 v12.1).bind fun v13=>some (!v13):=me 155
theorem QlN v0 v1 v2:Qjl v0 v1 v2=
 bif (decide (v2<(v0.length:Int))) then (Sy.at' v0 v2).bind fun v3=>bif decide (v3=v1) then some (.inl ()) else Qjl v0 v1 (Ev.wr .i64 (v2+1)) else some (.inr ()):=me 156
theorem Qog v0 v1:QlJ v0 v1=
 (QcM v0 v1.2).bind fun v2=>some (!v2):=me 157
theorem QrN v0:Qeh v0=
 bif (decide (v0.1=(1:Int))) then some (v0.2.1::([]:List (Int))) else bif (decide (v0.1=(2:Int))) then some (v0.2.1::([]:List (Int))) else bif (decide (v0.1=(3:Int))) then some (v0.2.1::([]:List (Int))) else bif (decide (v0.1=(4:Int))) then some (v0.2.1::([]:List (Int))) else bif (decide (v0.1=(6:Int))) then some (v0.2.1::([]:List (Int))) else bif (decide (v0.1=(9:Int))) then (QdO ([]:List (Int)) v0 0).bind fun v1=>some v1 else some ([]:List (Int)):=me 158
theorem Qnd v0 v1 v2 v3 v4 v5 v6 v7:Qcj v0 v1 v2 v3 v4 v5 v6 v7=
 (Sy.at' v5.2.2.2.2.1 v7).bind fun v8=>bif (decide (((v0.length+(1:Nat)) * (8:Nat))≤(35184372088832:Nat))) then (QkK v8).bind fun v9=>(Qb0 (v0++(v7::([]:List (Int)))) v1 v2 v3 v4 v5 v6 v8 v9 v9.length 0).bind fun
   |.inl _=> some ((v0++(v7::([]:List (Int)))),v1,v2,v3,v4,false)
   |.inr _=> (QgZ v8).bind fun v10=>(Qb3 (v0++(v7::([]:List (Int)))) v1 v2 v3 v4 v5 v6 v8 v10 v10.length 0).bind fun
    | (.inl ⟨v11,v12,v13,v14,v15,v16⟩)=>some (v11,v12,v13,v14,v15,v16)
    | (.inr ⟨v11,v12,v13,v14,v15,v16⟩)=>some (v11,v12,v13,v14,v15,v16) else none:=me 159
theorem Qfc v0 v1 v2 v3 v4 v5 v6 v7 v8 v9 v10 v11 v12 v13 v14 v15:QbA v0 v1 v2 v3 v4 v5 v6 v7 v8 v9 v10 v11 v12 v13 v14 v15=
 (bif (decide (v15<(v14.length:Int))) then some (!v12) else some false).bind fun v16=>bif v16 then (Qeh v13).bind fun v17=>(bif (decide (v13.1=(9:Int))) then (Sy.at' v13.2.2.2.2.2.2.2.2.1 v15).bind fun v18=>some v18.1 else some v17:Option (((List (Int))))).bind fun v18=>bif (decide ((v0.length * (8:Nat))≤(35184372088832:Nat))) then (QbD v0 v1 v2 v3 v0 v4 v5 v6 v7 v8 v9 v10 v11 v12 v13 v14 v15 v18 0).bind fun ⟨v19,v20,v21,v22⟩=>(Sy.at' v14 v15).bind fun v23=>(Qcy v1 v19 v3 v20 v4 v5 v6 v7 v8 v9 v10 v21 v22 v23).bind fun ⟨v24,v25,v26,v27,v28⟩=>QbA v0 v24 v25 v26 v4 v5 v6 v7 v8 v9 v10 v27 v28 v13 v14 (Ev.wr .i64 (v15+1)) else none else some (v1,v2,v3,v11,v12):=me 160
theorem QjO v0 v1 v2:Qdu v0 v1 v2=
 bif (decide (v2<(v1.2.2.2.2.2.2.1.length:Int))) then (Sy.at' v1.2.2.2.2.2.2.1 v2).bind fun v3=>bif (decide (v3<(0:Int))) then Qdu v0 v1 (Ev.wr .i64 (v2+1)) else bif (decide (((v0.length+(1:Nat)) * (8:Nat))≤(35184372088832:Nat))) then Qdu (v0++(v3::([]:List (Int)))) v1 (Ev.wr .i64 (v2+1)) else none else some v0:=me 161
theorem Qvi v0:QkK v0=
 (Qn9 v0.1).bind fun ⟨v1,v2⟩=>(bif v2 then some (decide (v1.1=(0:Int))) else some true).bind fun v3=>bif v3 then some ([]:List (Int)) else bif v1.2.2.2.2.2.1 then bif (decide ((v0.2.2.1.length * (8:Nat))≤(35184372088832:Nat))) then bif (decide (((v0.2.2.1.length+v0.2.2.2.2.2.2.1.length) * (8:Nat))≤(35184372088832:Nat))) then (Qet ([]:List (Int)) (v0.2.2.1++v0.2.2.2.2.2.2.1) ((v0.2.2.1++v0.2.2.2.2.2.2.1).length:Int) 0).bind fun v4=>some v4 else none else none else bif (decide ((v0.2.2.1.length * (8:Nat))≤(35184372088832:Nat))) then some v0.2.2.1 else none:=me 162
theorem Qne v0 v1 v2:Qiw v0 v1 v2=
 (bif (decide (v0.1<(0:Int))) then some false else some (!(decide ((9:Int)<v0.1)))).bind fun v3=>(bif v3 then some (!(decide (v0.1=(1:Int)))) else some false).bind fun v4=>(bif v4 then (Qm7 v0.2.2.1 v2).bind fun v5=>(Qm7 v0.2.2.2.2.2.2.1 v2).bind fun v6=>some (v0.1,(v0.2.1,(v5,(v0.2.2.2.1,(v0.2.2.2.2.1,(v0.2.2.2.2.2.1,(v6,v0.2.2.2.2.2.2.2))))))) else some v0:Option Qae).bind fun v5=>((bif (decide (v0.1=(1:Int))) then some true else some (decide (v0.1=(2:Int)))).bind fun v6=>(bif v6 then some true else some (decide (v0.1=(3:Int)))).bind fun v7=>(bif v7 then some true else some (decide (v0.1=(4:Int)))).bind fun v8=>(bif v8 then some true else some (decide (v0.1=(6:Int)))).bind fun v9=>bif v9 then (Sy.at' v2 v0.2.1).bind fun v10=>some (v5.1,(v10,v5.2.2)) else some v5:Option Qae).bind fun v6=>(Qiv v0).bind fun v7=>((bif (decide ((0:Int)<(v7.length:Int))) then some (!(decide (v0.1=(9:Int)))) else some false).bind fun v8=>bif v8 then (Sy.at' v1 v0.2.2.2.2.2.2.2.2.2).bind fun v9=>some (v6.1,(v6.2.1,(v6.2.2.1,(v6.2.2.2.1,(v6.2.2.2.2.1,(v6.2.2.2.2.2.1,(v6.2.2.2.2.2.2.1,(v6.2.2.2.2.2.2.2.1,(v6.2.2.2.2.2.2.2.2.1,v9))))))))) else some v6:Option Qae).bind fun v8=>(bif (decide (v0.1=(9:Int))) then (QeX ([]:List (Int)) ([]:List (Int)) ([]:List (Qas)) ([]:List (Qas)) v0 0 0 0 0 0 (false) 0 v8.1 v8.2.1 v8.2.2.1 v8.2.2.2.1 v8.2.2.2.2.1 v8.2.2.2.2.2.1 v8.2.2.2.2.2.2.1 v8.2.2.2.2.2.2.2.1 v8.2.2.2.2.2.2.2.2.2 v1 v2 0).bind fun v9=>some (.inl v9) else some (.inr ()):Option (((List (Qas)))⊕(Unit))).bind fun
  |.inl v9=> some (v8.1,(v8.2.1,(v8.2.2.1,(v8.2.2.2.1,(v8.2.2.2.2.1,(v8.2.2.2.2.2.1,(v8.2.2.2.2.2.2.1,(v8.2.2.2.2.2.2.2.1,(v9,v8.2.2.2.2.2.2.2.2.2)))))))))
  |.inr _=> some v8:=me 163
theorem Qnf v0 v1:QbB v0 v1=
 (Qb1 ([]:List (Int)) v0 v1 v1.length 0).bind fun v2=>some v2:=me 164
theorem Qhe v0 v1 v2 v3 v4 v5 v6 v7 v8 v9 v10 v11 v12 v13 v14 v15 v16 v17 v18 v19 v20 v21 v22 v23 v24 v25 v26 v27 v28 v29 v30 v31 v32:QcC v0 v1 v2 v3 v4 v5 v6 v7 v8 v9 v10 v11 v12 v13 v14 v15 v16 v17 v18 v19 v20 v21 v22 v23 v24 v25 v26 v27 v28 v29 v30 v31 v32=
 bif decide (v32<v31) then (Sy.at' v30 v32).bind fun v33=>(Sy.at' v25 v33.2).bind fun v34=>(QbB v26 v33.1).bind fun v35=>bif (decide (((v4.length+(1:Nat)) * (32:Nat))≤(35184372088832:Nat))) then QcC v0 v1 v2 v3 (v4++((v35,v34)::([]:List (Qas)))) v5 v6 v7 v8 v9 v10 v11 v12 v13 v14 v15 v16 v17 v18 v19 v20 v21 v22 v23 v24 v25 v26 v27 v28 v29 v30 v31 (Ev.wr .i64 (v32+1)) else none else some v4:=me 165
theorem Qt0 v0:Qes v0=
 (Qn9 v0.1).bind fun ⟨v1,v2⟩=>(bif v1.2.1 then some (v0.2.1::([]:List (Int))) else some ([]:List (Int)):Option (((List (Int))))).bind fun v3=>(bif v1.2.2.2.2.2.2.2.2 then (QeY v3 v0.2.2.2.2.2.2.2.2.1 v0.2.2.2.2.2.2.2.2.1.length 0).bind fun v4=>some v4 else some v3:Option (((List (Int))))).bind fun v4=>some v4:=me 166
theorem QjP v0 v1 v2:QeW v0 v1 v2=
 bif (decide (v2<(v1.2.2.2.2.2.2.2.2.1.length:Int))) then (Sy.at' v1.2.2.2.2.2.2.2.2.1 v2).bind fun v3=>bif (decide (((v0.length+(1:Nat)) * (8:Nat))≤(35184372088832:Nat))) then QeW (v0++(v3.2::([]:List (Int)))) v1 (Ev.wr .i64 (v2+1)) else none else some v0:=me 167
theorem QjQ v0 v1 v2:Qgn v0 v1 v2=
 (Sy.at' v0 (Ev.wr .i64 (v1 - 1))).bind fun v3=>bif (decide (v2<(v3.2.length:Int))) then (Sy.at' v3.2 v2).bind fun v4=>bif (decide ((0:Int)<(v4.2.length:Int))) then some (.inl ()) else Qgn v0 v1 (Ev.wr .i64 (v2+1)) else some (.inr ()):=me 168
theorem QlO v0 v1 v2:Qjm v0 v1 v2=
 bif (decide (v2<(v0.length:Int))) then (Sy.at' v0 v2).bind fun v3=>bif decide (v3=v1) then some (.inl ()) else Qjm v0 v1 (Ev.wr .i64 (v2+1)) else some (.inr ()):=me 169
theorem QyY v0:Qn9 v0=
 (bif (decide (v0<(0:Int))) then some true else some (!(decide (v0<(10:Int))))).bind fun v1=>bif v1 then some (((0:Int),(false,(false,(false,(false,(false,(false,(false,false)))))))),false) else (Qoa).bind fun _=>(Sy.at' (((1:Int),(false,(false,(false,(false,(false,(false,(false,false))))))))::(((0:Int),(true,(false,(true,(false,(false,(false,(true,false))))))))::(((2:Int),(true,(false,(true,(false,(false,(false,(true,false))))))))::(((-1:Int),(true,(true,(false,(false,(false,(false,(true,false))))))))::(((1:Int),(true,(false,(false,(false,(false,(false,(true,false))))))))::(((1:Int),(false,(false,(false,(false,(false,(false,(true,false))))))))::(((-1:Int),(true,(false,(false,(true,(false,(false,(true,false))))))))::(((-1:Int),(false,(false,(false,(true,(false,(false,(false,false))))))))::(((-1:Int),(false,(true,(true,(true,(true,(false,(false,false))))))))::(((1:Int),(false,(false,(false,(false,(false,(true,(false,true))))))))::([]:List (QA9)))))))))))) v0).bind fun v2=>some (v2,true):=me 170
theorem Qng v0 v1:Qdj v0 v1=
 bif (decide ((v0.length:Int)=(v1.length:Int))) then (QcT v0 v1 v0.length 0).bind fun
   |.inl _=> some false
   |.inr _=> some true else some false:=me 171
theorem Qia v0 v1:QcM v0 v1=
 (Qg0 v0 v1).bind fun v2=>some (!(decide (v2<(0:Int)))):=me 172
theorem Qfd v0 v1 v2 v3 v4 v5 v6 v7 v8 v9:QbC v0 v1 v2 v3 v4 v5 v6 v7 v8 v9=
 bif (decide (v9<(v8.length:Int))) then (Sy.at' v8 v9).bind fun v10=>bif (decide (v10<(0:Int))) then some (.inl ()) else bif (decide (v10<(v6.2.2.2.1.length:Int))) then QbC v0 v1 v2 v3 v4 v5 v6 v7 v8 (Ev.wr .i64 (v9+1)) else some (.inl ()) else some (.inr ()):=me 173
theorem QiK v0 v1 v2 v3 v4 v5 v6:QcE v0 v1 v2 v3 v4 v5 v6=
 bif decide (v6<v5) then (Sy.at' v1 v6).bind fun v7=>bif decide (v6<v2.2.1) then QcE v0 (List.set (List.set v1 v6.toNat (-1:Int)) v6.toNat v6) v2 v3 v4 v5 (Ev.wr .i64 (v6+1)) else QcE v0 (List.set v1 v6.toNat (-1:Int)) v2 v3 v4 v5 (Ev.wr .i64 (v6+1)) else some v1:=me 174
theorem Qeu v0 v1 v2 v3 v4 v5 v6 v7 v8 v9 v10 v11 v12 v13 v14 v15:Qbe v0 v1 v2 v3 v4 v5 v6 v7 v8 v9 v10 v11 v12 v13 v14 v15=
 bif decide (v15<v14) then (Sy.at' v13 v15).bind fun v16=>(bif (decide (v16<(0:Int))) then some true else some (!(decide (v16<(v2.length:Int))))).bind fun v17=>(bif v17 then some true else (Sy.at' v2 v16).bind fun v18=>some (!v18)).bind fun v18=>bif v18 then some (.inl ()) else Qbe v0 v1 v2 v3 v4 v5 v6 v7 v8 v9 v10 v11 v12 v13 v14 (Ev.wr .i64 (v15+1)) else some (.inr ()):=me 175
theorem Qga v0 v1 v2 v3 v4 v5 v6 v7 v8 v9 v10 v11 v12 v13 v14 v15 v16 v17 v18 v19 v20 v21 v22 v23 v24 v25 v26 v27:Qck v0 v1 v2 v3 v4 v5 v6 v7 v8 v9 v10 v11 v12 v13 v14 v15 v16 v17 v18 v19 v20 v21 v22 v23 v24 v25 v26 v27=
 bif (decide (v27<(v4.length:Int))) then (Sy.at' v4 v27).bind fun v28=>(Sy.at' v7.2.2.2.2.1 v28).bind fun v29=>(Qiw v29 v2 v3).bind fun v30=>bif (decide (((v6.length+(1:Nat)) * (128:Nat))≤(35184372088832:Nat))) then Qck v0 v1 v2 v3 v4 v5 (v6++(v30::([]:List (Qae)))) v7 v8 v9 v10 v11 v12 v13 v14 v15 v16 v17 v18 v19 v20 v21 v22 v23 v24 v25 v26 (Ev.wr .i64 (v27+1)) else none else some v6:=me 176
theorem Qvj v0:QgZ v0=
 (Qn9 v0.1).bind fun ⟨v1,v2⟩=>(bif v1.2.2.2.2.2.2.2.1 then some (v0.2.2.2.2.2.2.2.2.2::([]:List (Int))) else some ([]:List (Int)):Option (((List (Int))))).bind fun v3=>(bif v1.2.2.2.2.2.2.2.2 then (QfI v3 v0.2.2.2.2.2.2.2.2.1 v0.2.2.2.2.2.2.2.2.1.length 0).bind fun v4=>some v4 else some v3:Option (((List (Int))))).bind fun v4=>some v4:=me 177
theorem Qj3 v0 v1:Qei v0 v1=
 bif (decide ((v0.length:Int)=(v1.length:Int))) then (QbM v1 v0 v0.length 0).bind fun
   |.inl _=> some true
   |.inr _=> some false else some false:=me 178
theorem QiL v0 v1 v2:QdO v0 v1 v2=
 bif (decide (v2<(v1.2.2.2.2.2.2.2.2.1.length:Int))) then (Sy.at' v1.2.2.2.2.2.2.2.2.1 v2).bind fun v3=>bif (decide (((v0.length+v3.1.length) * (8:Nat))≤(35184372088832:Nat))) then QdO (v0++v3.1) v1 (Ev.wr .i64 (v2+1)) else none else some v0:=me 179
theorem QfQ v0 v1 v2 v3 v4 v5 v6 v7 v8 v9 v10:Qb0 v0 v1 v2 v3 v4 v5 v6 v7 v8 v9 v10=
 bif decide (v10<v9) then (Sy.at' v8 v10).bind fun v11=>(bif (decide (v11<(0:Int))) then some true else some (!(decide (v11<(v5.2.2.2.1.length:Int))))).bind fun v12=>(bif v12 then some true else (Sy.at' v1 v11).bind fun v13=>some (!v13)).bind fun v13=>bif v13 then some (.inl ()) else Qb0 v0 v1 v2 v3 v4 v5 v6 v7 v8 v9 (Ev.wr .i64 (v10+1)) else some (.inr ()):=me 180
theorem Qfe v0 v1 v2 v3 v4 v5 v6 v7 v8 v9 v10 v11 v12 v13 v14 v15 v16 v17 v18:QbD v0 v1 v2 v3 v4 v5 v6 v7 v8 v9 v10 v11 v12 v13 v14 v15 v16 v17 v18=
 bif (decide (v18<(v17.length:Int))) then (Sy.at' v17 v18).bind fun v19=>(Qg1 v1 v2 v3 v5 v6 v7 v8 v9 v10 v11 v12 v13 v19).bind fun ⟨v20,v21,v22⟩=>bif (decide (((v4.length+(1:Nat)) * (8:Nat))≤(35184372088832:Nat))) then QbD v0 v1 v20 v3 (v4++(v19::([]:List (Int)))) v5 v6 v7 v8 v9 v10 v11 v21 v22 v14 v15 v16 v17 (Ev.wr .i64 (v18+1)) else none else some (v2,v4,v12,v13):=me 181
theorem QkS v0 v1 v2 v3:Qet v0 v1 v2 v3=
 bif decide (v3<v2) then (Sy.at' v1 v3).bind fun v4=>bif (decide (v4<(0:Int))) then Qet v0 v1 v2 (Ev.wr .i64 (v3+1)) else bif (decide (((v0.length+(1:Nat)) * (8:Nat))≤(35184372088832:Nat))) then Qet (v0++(v4::([]:List (Int)))) v1 v2 (Ev.wr .i64 (v3+1)) else none else some v0:=me 182
theorem QwE v0 v1:Qm7 v0 v1=
 (Qjo ([]:List (Int)) v0 v1 0).bind fun v2=>some v2:=me 183
theorem QjR v0 v1 v2 v3 v4 v5 v6 v7 v8 v9 v10 v11 v12 v13 v14 v15 v16 v17 v18 v19 v20 v21 v22 v23:QeX v0 v1 v2 v3 v4 v5 v6 v7 v8 v9 v10 v11 v12 v13 v14 v15 v16 v17 v18 v19 v20 v21 v22 v23=
 bif (decide (v23<(v4.2.2.2.2.2.2.2.2.1.length:Int))) then (Sy.at' v4.2.2.2.2.2.2.2.2.1 v23).bind fun v24=>(Sy.at' v21 v24.2).bind fun v25=>(Qm7 v24.1 v22).bind fun v26=>bif (decide (((v3.length+(1:Nat)) * (32:Nat))≤(35184372088832:Nat))) then QeX v0 v1 v2 (v3++((v26,v25)::([]:List (Qas)))) v4 v5 v6 v7 v8 v9 v10 v11 v12 v13 v14 v15 v16 v17 v18 v19 v20 v21 v22 (Ev.wr .i64 (v23+1)) else none else some v3:=me 184
theorem QfR v0 v1 v2 v3 v4:Qb1 v0 v1 v2 v3 v4=
 bif decide (v4<v3) then (Sy.at' v2 v4).bind fun v5=>((bif (decide (v5<(0:Int))) then some false else some (decide (v5<(v1.length:Int)))).bind fun v6=>bif v6 then (Sy.at' v1 v5).bind fun v7=>some v7 else some v5).bind fun v6=>bif (decide (((v0.length+(1:Nat)) * (8:Nat))≤(35184372088832:Nat))) then Qb1 (v0++(v6::([]:List (Int)))) v1 v2 v3 (Ev.wr .i64 (v4+1)) else none else some v0:=me 185
theorem QjS v0 v1 v2 v3:QeY v0 v1 v2 v3=
 bif decide (v3<v2) then (Sy.at' v1 v3).bind fun v4=>bif (decide (((v0.length+v4.1.length) * (8:Nat))≤(35184372088832:Nat))) then QeY (v0++v4.1) v1 v2 (Ev.wr .i64 (v3+1)) else none else some v0:=me 186
theorem Qnh:Qoa=
 some ():=me 187
theorem QfS v0 v1 v2 v3:QcT v0 v1 v2 v3=
 bif decide (v3<v2) then (Sy.at' v0 v3).bind fun v4=>(Sy.at' v1 v3).bind fun v5=>bif decide (v4=v5) then QcT v0 v1 v2 (Ev.wr .i64 (v3+1)) else some (.inl ()) else some (.inr ()):=me 188
theorem Qj4 v0 v1:Qg0 v0 v1=
 (QbN v0 v1 v1.length 0).bind fun
  |.inl _=> some (-1:Int)
  |.inr v2=> some v2:=me 189
theorem Qib v0 v1 v2 v3 v4 v5 v6 v7 v8 v9 v10 v11 v12:QcN v0 v1 v2 v3 v4 v5 v6 v7 v8 v9 v10 v11 v12=
 (Qg2 v0 v1 v2 v3 v4 v5 v6 v7 v8 v9 v10 v11 v12).bind fun v13=>some (!(decide (v13<(0:Int)))):=me 190
theorem QfT v0 v1 v2 v3 v4 v5 v6 v7 v8 v9:Qb2 v0 v1 v2 v3 v4 v5 v6 v7 v8 v9=
 bif (decide (v9<(v8.length:Int))) then (Sy.at' v8 v9).bind fun v10=>bif (decide (v10<(0:Int))) then some (.inl v1) else bif (decide (v10<(v6.2.2.2.2.1.length:Int))) then (Sy.at' v1 v10).bind fun v11=>bif v11 then some (.inl v1) else Qb2 v0 (List.set v1 v10.toNat true) v2 v3 v4 v5 v6 v7 v8 (Ev.wr .i64 (v9+1)) else some (.inl v1) else some (.inr v1):=me 191
theorem Qpb v0:Qjn v0=
 (QcD ([]:List (Qas)) v0 v0.length 0).bind fun v1=>some v1:=me 192
theorem QkT v0 v1 v2 v3:QfI v0 v1 v2 v3=
 bif decide (v3<v2) then (Sy.at' v1 v3).bind fun v4=>bif (decide (((v0.length+(1:Nat)) * (8:Nat))≤(35184372088832:Nat))) then QfI (v0++(v4.2::([]:List (Int)))) v1 v2 (Ev.wr .i64 (v3+1)) else none else some v0:=me 193
theorem QdZ v0 v1 v2 v3:QbM v0 v1 v2 v3=
 bif decide (v3<v2) then (Sy.at' v1 v3).bind fun v4=>(Sy.at' v0 v3).bind fun v5=>(QkL v4 v5).bind fun v6=>bif v6 then QbM v0 v1 v2 (Ev.wr .i64 (v3+1)) else some (.inr ()) else some (.inl ()):=me 194
theorem Qni v0 v1 v2 v3 v4 v5 v6 v7 v8 v9 v10 v11 v12:Qg1 v0 v1 v2 v3 v4 v5 v6 v7 v8 v9 v10 v11 v12=
 (bif decide (v12<v4) then some true else some (!(decide (v12<(v6.length:Int))))).bind fun v13=>(bif v13 then some true else (Sy.at' v1 v12).bind fun v14=>some (!(decide (v14<(0:Int))))).bind fun v14=>bif v14 then some (v1,v10,true) else (Sy.at' v1 v12).bind fun v15=>some ((List.set v1 v12.toNat v10),(Ev.wr .i64 (v10+1)),v11):=me 195
theorem QlP v0 v1 v2 v3:Qjo v0 v1 v2 v3=
 bif (decide (v3<(v1.length:Int))) then (Sy.at' v1 v3).bind fun v4=>((bif (decide (v4<(0:Int))) then some false else some (decide (v4<(v2.length:Int)))).bind fun v5=>bif v5 then (Sy.at' v2 v4).bind fun v6=>some v6 else some v4).bind fun v5=>bif (decide (((v0.length+(1:Nat)) * (8:Nat))≤(35184372088832:Nat))) then Qjo (v0++(v5::([]:List (Int)))) v1 v2 (Ev.wr .i64 (v3+1)) else none else some v0:=me 196
theorem Qd0 v0 v1 v2 v3:QbN v0 v1 v2 v3=
 bif decide (v3<v2) then (Sy.at' v1 v3).bind fun v4=>(QjD v0 v4).bind fun v5=>bif v5 then some (.inr v3) else QbN v0 v1 v2 (Ev.wr .i64 (v3+1)) else some (.inl ()):=me 197
theorem Qgb v0 v1 v2 v3 v4 v5:Qdv v0 v1 v2 v3 v4 v5=
 bif (decide (v5<(v2.2.2.2.2.1.length:Int))) then (Sy.at' v0 v5).bind fun v6=>bif v6 then Qdv v0 v1 v2 v3 v4 (Ev.wr .i64 (v5+1)) else some (.inl v5) else some (.inr ()):=me 198
theorem Qff v0 v1 v2 v3 v4 v5 v6 v7 v8 v9:QaN v0 v1 v2 v3 v4 v5 v6 v7 v8 v9=
 bif (decide (v9<(v8.length:Int))) then (Sy.at' v8 v9).bind fun v10=>bif decide (v10<v6.2.1) then some (.inl v2) else (Sy.at' v2 v10).bind fun v11=>bif v11 then some (.inl v2) else QaN v0 v1 (List.set v2 v10.toNat true) v3 v4 v5 v6 v7 v8 (Ev.wr .i64 (v9+1)) else some (.inr v2):=me 199
theorem QiM v0 v1 v2 v3 v4 v5 v6:QdP v0 v1 v2 v3 v4 v5 v6=
 bif decide (v6<v5) then (Sy.at' v4 v6).bind fun v7=>(Sy.at' v0 v7).bind fun v8=>QdP (List.set v0 v7.toNat v6) v1 v2 v3 v4 v5 (Ev.wr .i64 (v6+1)) else some v0:=me 200
theorem Qev v0 v1 v2 v3 v4 v5 v6 v7 v8 v9 v10 v11 v12 v13 v14 v15 v16:Qbf v0 v1 v2 v3 v4 v5 v6 v7 v8 v9 v10 v11 v12 v13 v14 v15 v16=
 bif decide (v16<v15) then (Sy.at' v14 v16).bind fun v17=>(bif (decide (v17<(0:Int))) then some true else some (!(decide (v17<(v8.length:Int))))).bind fun v18=>bif v18 then some (.inl ()) else Qbf v0 v1 v2 v3 v4 v5 v6 v7 v8 v9 v10 v11 v12 v13 v14 v15 (Ev.wr .i64 (v16+1)) else some (.inr ()):=me 201
theorem QfU v0 v1 v2 v3 v4 v5 v6 v7 v8 v9 v10:Qb3 v0 v1 v2 v3 v4 v5 v6 v7 v8 v9 v10=
 bif decide (v10<v9) then (Sy.at' v8 v10).bind fun v11=>(Qes v7).bind fun v12=>(bif (decide (v7.1=(9:Int))) then (Sy.at' v7.2.2.2.2.2.2.2.2.1 v10).bind fun v13=>some v13.1 else some v12:Option (((List (Int))))).bind fun v13=>((Qdi v2 v5 v11).bind fun ⟨v14,v15⟩=>bif v15 then (Qg3 v3 v1 v4 v5 v13).bind fun ⟨v16,v17,v18,v19⟩=>some (.inl (v14,v16,v17,v18,(!v19))) else some (.inr v14):Option (((List (Bool))×(List (Bool))×(List (Bool))×(List (Int))×(Bool))⊕((List (Bool))))).bind fun
   | (.inl ⟨v14,v15,v16,v17,v18⟩)=>bif v18 then some (.inl (v0,v16,v14,v15,v17,false)) else (Qcj v0 v16 v14 v15 v17 v5 v6 v11).bind fun ⟨v19,v20,v21,v22,v23,v24⟩=>bif v24 then (Qg4 v20 v13).bind fun v25=>Qb3 v19 v25 v21 v22 v23 v5 v24 v7 v8 v9 (Ev.wr .i64 (v10+1)) else some (.inl (v19,v20,v21,v22,v23,v24))
   |.inr v14=> some (.inl (v0,v1,v14,v3,v4,false)) else some (.inr (v0,v1,v2,v3,v4,v6)):=me 202
theorem Qj5 v0 v1 v2 v3 v4 v5 v6 v7 v8 v9 v10 v11 v12:Qg2 v0 v1 v2 v3 v4 v5 v6 v7 v8 v9 v10 v11 v12=
 (QbO v0 v1 v2 v3 v4 v5 v6 v7 v8 v9 v10 v11 v12 v12.length 0).bind fun
  |.inl _=> some (-1:Int)
  |.inr v13=> some v13:=me 203
theorem Qhf v0 v1 v2 v3:QcD v0 v1 v2 v3=
 bif decide (v3<v2) then (Sy.at' v1 v3).bind fun v4=>bif (decide ((v4.1.length * (8:Nat))≤(35184372088832:Nat))) then bif (decide (((v0.length+(1:Nat)) * (32:Nat))≤(35184372088832:Nat))) then QcD (v0++(v4::([]:List (Qas)))) v1 v2 (Ev.wr .i64 (v3+1)) else none else none else some v0:=me 204
theorem Qnj v0 v1:QkL v0 v1=
 (bif decide (v0.2=v1.2) then (Qdj v0.1 v1.1).bind fun v2=>some v2 else some false).bind fun v2=>some v2:=me 205
theorem Qml v0 v1:QjD v0 v1=
 (Sy.at' v0 v1).bind fun v2=>some (!v2):=me 206
theorem Qdl v0 v1 v2 v3 v4 v5 v6 v7 v8 v9:Qb4 v0 v1 v2 v3 v4 v5 v6 v7 v8 v9=
 bif (decide (v9<(v8.length:Int))) then bif (decide ((v0.length * (8:Nat))≤(35184372088832:Nat))) then (bif (decide (v7.1=(9:Int))) then (Sy.at' v7.2.2.2.2.2.2.2.2.1 v9).bind fun v10=>bif (decide (((v0.length+v10.1.length) * (8:Nat))≤(35184372088832:Nat))) then some (v0++v10.1) else none else (Qeh v7).bind fun v10=>bif (decide (((v0.length+v10.length) * (8:Nat))≤(35184372088832:Nat))) then some (v0++v10) else none:Option (((List (Int))))).bind fun v10=>(Sy.at' v8 v9).bind fun v11=>(Qdb v1 v2 v10 v3 v4 v5 v6 v11).bind fun ⟨v12,v13,v14,v15⟩=>bif decide (v15=0) then Qb4 v0 v12 v13 v14 v15 v5 v6 v7 v8 (Ev.wr .i64 (v9+1)) else some (.inl (v12,v13,v14,v15)) else none else some (.inr (v1,v2,v3,v4)):=me 207
theorem Qe2 v0 v1 v2 v3 v4 v5 v6 v7 v8 v9 v10 v11 v12 v13 v14 v15 v16 v17:QaK v0 v1 v2 v3 v4 v5 v6 v7 v8 v9 v10 v11 v12 v13 v14 v15 v16 v17=
 bif decide (v17<v16) then (Sy.at' v15 v17).bind fun v18=>(bif (decide (v18<(0:Int))) then some true else some (!(decide (v18<(v9.length:Int))))).bind fun v19=>(bif v19 then some true else (Sy.at' v0 v18).bind fun v20=>some v20).bind fun v20=>bif v20 then some (.inl v0) else (Sy.at' v0 v18).bind fun v21=>QaK (List.set v0 v18.toNat true) v1 v2 v3 v4 v5 v6 v7 v8 v9 v10 v11 v12 v13 v14 v15 v16 (Ev.wr .i64 (v17+1)) else some (.inr v0):=me 208
theorem Qnk v0 v1 v2 v3 v4:Qg3 v0 v1 v2 v3 v4=
 (Qb5 v0 v1 v2 v3 v4 v4.length 0).bind fun
  | (.inl ⟨v5,v6,v7⟩)=>some (v5,v6,v7,false)
  | (.inr ⟨v5,v6,v7⟩)=>some (v5,v6,v7,true):=me 209
theorem Qd1 v0 v1 v2 v3 v4 v5 v6 v7 v8 v9 v10 v11 v12 v13 v14:QbO v0 v1 v2 v3 v4 v5 v6 v7 v8 v9 v10 v11 v12 v13 v14=
 bif decide (v14<v13) then (Sy.at' v12 v14).bind fun v15=>(QfJ v0 v1 v2 v3 v4 v5 v6 v7 v8 v9 v10 v11 v15).bind fun v16=>bif v16 then some (.inr v14) else QbO v0 v1 v2 v3 v4 v5 v6 v7 v8 v9 v10 v11 v12 v13 (Ev.wr .i64 (v14+1)) else some (.inl ()):=me 210
theorem Qgc v0 v1 v2 v3 v4 v5:Qcl v0 v1 v2 v3 v4 v5=
 bif (decide (v5<(v2.2.2.2.1.length:Int))) then (Sy.at' v1 v5).bind fun v6=>bif v6 then Qcl v0 v1 v2 v3 v4 (Ev.wr .i64 (v5+1)) else some (.inl ()) else some (.inr ()):=me 211
theorem QrO v0 v1 v2:Qej v0 v1 v2=
 bif (decide (v2.1=(0:Int))) then (Sy.at' v2.2.2.1 0).bind fun v3=>(Qa3 v1 v3).bind fun v4=>some (decide (v4=v1.2.2.1)) else bif (decide (v2.1=(1:Int))) then (Qa3 v1 v2.2.1).bind fun v3=>some (decide (v3=0)) else bif (decide (v2.1=(2:Int))) then (bif (decide (v2.2.2.2.2.1<(5:Int))) then some (0:Int) else some (1:Int)).bind fun v3=>(Sy.at' v2.2.2.1 0).bind fun v4=>(Qa3 v1 v4).bind fun v5=>bif decide (v5=0) then (Sy.at' v2.2.2.1 1).bind fun v6=>(Qa3 v1 v6).bind fun v7=>bif decide (v7=0) then (Qa3 v1 v2.2.1).bind fun v8=>some (decide (v8=v3)) else some false else some false else bif (decide (v2.1=(3:Int))) then (Qa3 v1 v2.2.1).bind fun v3=>(QfL v0 v1 v3 v2.2.2.2.1 v2.2.2.1 (-1:Int)).bind fun v4=>some v4 else bif (decide (v2.1=(4:Int))) then (Sy.at' v2.2.2.1 0).bind fun v3=>(Qa3 v1 v2.2.1).bind fun v4=>(Qa3 v1 v3).bind fun v5=>bif decide (v4=v5) then (Qfp v0.1 v4).bind fun v6=>some (!v6) else some false else bif (decide (v2.1=(5:Int))) then (Sy.at' v2.2.2.1 0).bind fun v3=>(Qa3 v1 v3).bind fun v4=>(Qfp v0.1 v4).bind fun v5=>some (!v5) else bif (decide (v2.1=(6:Int))) then (QfK v0 v1 v2.2.2.2.2.2.1 v2.2.2.1).bind fun v3=>bif v3 then (Sy.at' v0.2 v2.2.2.2.2.2.1).bind fun v4=>(Qa3 v1 v2.2.1).bind fun v5=>some (decide (v5=v4.2.2.1)) else some false else bif (decide (v2.1=(7:Int))) then (QfK v0 v1 v2.2.2.2.2.2.1 v2.2.2.1).bind fun v3=>bif v3 then (Sy.at' v0.2 v2.2.2.2.2.2.1).bind fun v4=>some (decide (v1.2.2.1=v4.2.2.1)) else some false else bif (decide (v2.1=(8:Int))) then (bif (decide (v2.2.2.2.2.1<(0:Int))) then some true else some (!(decide (v2.2.2.2.2.1<(v2.2.2.1.length:Int))))).bind fun v3=>(bif v3 then some true else (QfL v0 v1 v1.2.2.1 v2.2.2.2.1 v2.2.2.1 v2.2.2.2.2.1).bind fun v4=>some (!v4)).bind fun v4=>bif v4 then some false else (QfK v0 v1 v2.2.2.2.2.2.1 v2.2.2.2.2.2.2.1).bind fun v5=>bif v5 then (Sy.at' v0.2 v2.2.2.2.2.2.1).bind fun v6=>(Sy.at' v0.1 (Ev.wr .i64 (v1.2.2.1 - 1))).bind fun v7=>(Sy.at' v7.2 v2.2.2.2.1).bind fun v8=>(Sy.at' v8.2 v2.2.2.2.2.1).bind fun v9=>some (decide (v6.2.2.1=v9)) else some false else (Sy.at' v2.2.2.1 0).bind fun v3=>(Qa3 v1 v3).bind fun v4=>bif (decide (v4<(1:Int))) then some false else (Sy.at' v0.1 (Ev.wr .i64 (v4 - 1))).bind fun v5=>bif (decide ((v2.2.2.2.2.2.2.2.2.1.length:Int)=(v5.2.length:Int))) then bif v2.2.2.2.2.2.2.2.1 then (Qfp v0.1 v4).bind fun v6=>bif v6 then some false else (QcF v0 v1 v2 v4 0).bind fun
   |.inl _=> some false
   |.inr _=> some true else (QcF v0 v1 v2 v4 0).bind fun
                      |.inl _=> some false
                      |.inr _=> some true else some false:=me 212
theorem QiN v0 v1 v2 v3 v4 v5:QdQ v0 v1 v2 v3 v4 v5=
 bif decide (v5<v4) then (Sy.at' v3 v5).bind fun v6=>(Sy.at' v1 v6).bind fun v7=>QdQ v0 (List.set v1 v6.toNat (Ev.wr .i64 (v2.2.1+v5))) v2 v3 v4 (Ev.wr .i64 (v5+1)) else some v1:=me 213
theorem Qcn v0 v1 v2 v3 v4 v5 v6 v7 v8 v9 v10 v11 v12 v13 v14 v15 v16:QaC v0 v1 v2 v3 v4 v5 v6 v7 v8 v9 v10 v11 v12 v13 v14 v15 v16=
 bif decide (v16<v15) then (Sy.at' v14 v16).bind fun v17=>(Sy.at' v1 v17).bind fun v18=>bif v18 then some (.inl v1) else QaC v0 (List.set v1 v17.toNat true) v2 v3 v4 v5 v6 v7 v8 v9 v10 v11 v12 v13 v14 v15 (Ev.wr .i64 (v16+1)) else some (.inr v1):=me 214
theorem QfV v0 v1 v2 v3 v4 v5 v6:Qb5 v0 v1 v2 v3 v4 v5 v6=
 bif decide (v6<v5) then (Sy.at' v4 v6).bind fun v7=>(bif (decide (v7<(0:Int))) then some true else some (!(decide (v7<(v3.2.2.2.1.length:Int))))).bind fun v8=>(bif v8 then some true else (Sy.at' v0 v7).bind fun v9=>some v9).bind fun v9=>bif v9 then some (.inl (v0,v1,v2)) else (Sy.at' v0 v7).bind fun v10=>(Sy.at' v1 v7).bind fun v11=>bif (decide (((v2.length+(1:Nat)) * (8:Nat))≤(35184372088832:Nat))) then Qb5 (List.set v0 v7.toNat true) (List.set v1 v7.toNat true) (v2++(v7::([]:List (Int)))) v3 v4 v5 (Ev.wr .i64 (v6+1)) else none else some (.inr (v0,v1,v2)):=me 215
theorem QiO v0 v1 v2 v3 v4 v5 v6 v7 v8 v9 v10 v11 v12:QfJ v0 v1 v2 v3 v4 v5 v6 v7 v8 v9 v10 v11 v12=
 bif v12.2 then (Qix v3 v12.1).bind fun v13=>some v13 else some false:=me 216
theorem QrP v0 v1 v2:Qek v0 v1 v2=
 (Qeh v2).bind fun v3=>(QcG v0 v1 v2 v3 0).bind fun
  |.inl _=> some false
  |.inr _=> some true:=me 217
theorem Qcu v0 v1 v2 v3 v4 v5 v6 v7 v8 v9 v10 v11 v12 v13 v14 v15:Qbk v0 v1 v2 v3 v4 v5 v6 v7 v8 v9 v10 v11 v12 v13 v14 v15=
 bif decide (v15<v14) then (Sy.at' v13 v15).bind fun v16=>(Qes v12).bind fun v17=>(bif (decide (v12.1=(9:Int))) then (Sy.at' v12.2.2.2.2.2.2.2.2.1 v15).bind fun v18=>some v18.1 else some v17:Option (((List (Int))))).bind fun v18=>(Qbl v0 v1 v2 v3 v4 v5 v6 v7 v8 v9 v10 v11 v12 v16 v18 v13 v14 v15 v18 v18.length 0).bind fun v19=>(Qcg v0 v1 v19 v3 v4 v5 v6 v7 v8 v9 v10 v11 v16).bind fun ⟨v20,v21,v22,v23,v24⟩=>bif decide (v24=0) then (Qbn v20 v21 v22 v3 v4 v5 v6 v7 v8 v9 v10 v11 v12 v13 v14 v15 v18 v18.length 0).bind fun v25=>Qbk v20 v21 v25 v3 v4 v5 v6 v7 v8 v9 v10 v11 v12 v13 v14 (Ev.wr .i64 (v15+1)) else some (.inr (v20,v21,v22,v23,v24)) else some (.inl (v0,v1,v2)):=me 218
theorem Qt1 v0 v1:Qa3 v0 v1=
 (Sy.at' v0.2.2.2.1 v1).bind fun v2=>some v2.1:=me 219
theorem Qq4 v0 v1 v2 v3:QfK v0 v1 v2 v3=
 (Sy.at' v0.2 v2).bind fun v4=>(bif (decide (v4.2.1<(0:Int))) then some true else some (decide ((v4.2.2.2.1.length:Int)<v4.2.1))).bind fun v5=>(bif v5 then some true else some (!(decide ((v3.length:Int)=v4.2.1)))).bind fun v6=>bif v6 then some false else (QeZ v1 v4 v3 0).bind fun
   |.inl _=> some false
   |.inr _=> some true:=me 220
theorem Qq5 v0 v1 v2 v3 v4 v5:QfL v0 v1 v2 v3 v4 v5=
 (bif (decide (v2<(1:Int))) then some true else some (decide (v3<(0:Int)))).bind fun v6=>(bif v6 then some true else (Sy.at' v0.1 (Ev.wr .i64 (v2 - 1))).bind fun v7=>some (!(decide (v3<(v7.2.length:Int))))).bind fun v7=>(bif v7 then some true else (Sy.at' v0.1 (Ev.wr .i64 (v2 - 1))).bind fun v8=>(Sy.at' v8.2 v3).bind fun v9=>some (!(decide ((v4.length:Int)=(v9.2.length:Int))))).bind fun v8=>bif v8 then some false else (Qdk v0 v1 v2 v3 v4 v5 0).bind fun
   |.inl _=> some false
   |.inr _=> some true:=me 221
theorem Qt2 v0 v1:Qix v0 v1=
 ((QhE v0 v1).bind fun v2=>bif v2 then (Qob v0 v1).bind fun v3=>(QcO v3).bind fun v4=>some (!v4) else some false).bind fun v2=>some v2:=me 222
theorem QkU v0 v1 v2 v3 v4 v5 v6 v7 v8 v9 v10 v11 v12:QaS v0 v1 v2 v3 v4 v5 v6 v7 v8 v9 v10 v11 v12=
 bif (decide (v12.1=(0:Int))) then (Sy.at' v12.2.2.1 0).bind fun v13=>(Qav v0 v1 v2 v3 v4 v5 v6 v7 v8 v9 v10 v11 v13).bind fun v14=>some (decide (v14=v7)) else bif (decide (v12.1=(1:Int))) then (Qav v0 v1 v2 v3 v4 v5 v6 v7 v8 v9 v10 v11 v12.2.1).bind fun v13=>some (decide (v13=0)) else bif (decide (v12.1=(2:Int))) then (bif (decide (v12.2.2.2.2.1<(5:Int))) then some (0:Int) else some (1:Int)).bind fun v13=>((QcU v0 v1 v2 ((0:Int)::((0:Int)::([]:List (Int)))) v3 v4 v5 v6 v7 v8 v9 v10 v11 v12.2.2.1 (-1:Int)).bind fun v14=>bif v14 then (Qav v0 v1 v2 v3 v4 v5 v6 v7 v8 v9 v10 v11 v12.2.1).bind fun v15=>some (decide (v15=v13)) else some false).bind fun v14=>some v14 else bif (decide (v12.1=(3:Int))) then (Qav v0 v1 v2 v3 v4 v5 v6 v7 v8 v9 v10 v11 v12.2.1).bind fun v13=>(Qcs v0 v1 v2 v3 v4 v5 v6 v7 v8 v9 v10 v11 v13 v12.2.2.2.1).bind fun
   |.inl _=> some false
   |.inr v14=> (Qbo v0 v1 v2 v3 v4 v5 v6 v7 v8 v9 v10 v11 v12.2.2.1 v14 (-1:Int)).bind fun v15=>some v15 else bif (decide (v12.1=(4:Int))) then (Sy.at' v12.2.2.1 0).bind fun v13=>(Qav v0 v1 v2 v3 v4 v5 v6 v7 v8 v9 v10 v11 v12.2.1).bind fun v14=>(Qav v0 v1 v2 v3 v4 v5 v6 v7 v8 v9 v10 v11 v13).bind fun v15=>bif decide (v14=v15) then (Qbm v0 v1 v2 v3 v4 v5 v6 v7 v8 v9 v10 v11 v12.2.1).bind fun v16=>some (!v16) else some false else bif (decide (v12.1=(5:Int))) then (Sy.at' v12.2.2.1 0).bind fun v13=>(Qbm v0 v1 v2 v3 v4 v5 v6 v7 v8 v9 v10 v11 v13).bind fun v14=>some (!v14) else bif (decide (v12.1=(6:Int))) then (Qcm v0 v1 v2 v3 v4 v5 v6 v7 v8 v9 v10 v11 v12.2.2.2.2.2.1 v12.2.2.1).bind fun v13=>bif v13 then (Sy.at' v4 v12.2.2.2.2.2.1).bind fun v14=>(Qav v0 v1 v2 v3 v4 v5 v6 v7 v8 v9 v10 v11 v12.2.1).bind fun v15=>some (decide (v15=v14.2.2.1)) else some false else bif (decide (v12.1=(7:Int))) then (Qcm v0 v1 v2 v3 v4 v5 v6 v7 v8 v9 v10 v11 v12.2.2.2.2.2.1 v12.2.2.1).bind fun v13=>bif v13 then (Sy.at' v4 v12.2.2.2.2.2.1).bind fun v14=>some (decide (v7=v14.2.2.1)) else some false else bif (decide (v12.1=(8:Int))) then (Qcs v0 v1 v2 v3 v4 v5 v6 v7 v8 v9 v10 v11 v7 v12.2.2.2.1).bind fun
     |.inl _=> some false
     |.inr v13=> (bif (decide (v12.2.2.2.2.1<(0:Int))) then some true else some (!(decide (v12.2.2.2.2.1<(v13.length:Int))))).bind fun v14=>(bif v14 then some true else (Qbo v0 v1 v2 v3 v4 v5 v6 v7 v8 v9 v10 v11 v12.2.2.1 v13 v12.2.2.2.2.1).bind fun v15=>some (!v15)).bind fun v15=>bif v15 then some false else (Qcm v0 v1 v2 v3 v4 v5 v6 v7 v8 v9 v10 v11 v12.2.2.2.2.2.1 v12.2.2.2.2.2.2.1).bind fun v16=>bif v16 then (Sy.at' v4 v12.2.2.2.2.2.1).bind fun v17=>(Sy.at' v13 v12.2.2.2.2.1).bind fun v18=>some (decide (v17.2.2.1=v18)) else some false else (Sy.at' v12.2.2.1 0).bind fun v13=>(Qav v0 v1 v2 v3 v4 v5 v6 v7 v8 v9 v10 v11 v13).bind fun v14=>bif (decide (v14<(1:Int))) then some false else (Sy.at' v3 (Ev.wr .i64 (v14 - 1))).bind fun v15=>bif (decide ((v12.2.2.2.2.2.2.2.2.1.length:Int)=(v15.2.length:Int))) then bif v12.2.2.2.2.2.2.2.1 then (Qbm v0 v1 v2 v3 v4 v5 v6 v7 v8 v9 v10 v11 v13).bind fun v16=>bif v16 then some false else (QaU v0 v1 v2 v3 v4 v5 v6 v7 v8 v9 v10 v11 v14 v12.2.2.2.2.2.2.2.2.1 v12.2.2.2.2.2.2.2.2.1.length 0).bind fun
       |.inl _=> some false
       |.inr _=> some true else (QaU v0 v1 v2 v3 v4 v5 v6 v7 v8 v9 v10 v11 v14 v12.2.2.2.2.2.2.2.2.1 v12.2.2.2.2.2.2.2.2.1.length 0).bind fun
           |.inl _=> some false
           |.inr _=> some true else some false:=me 223
theorem QiP v0 v1 v2 v3 v4:QcF v0 v1 v2 v3 v4=
 bif (decide (v4<(v2.2.2.2.2.2.2.2.2.1.length:Int))) then (Sy.at' v2.2.2.2.2.2.2.2.2.1 v4).bind fun v5=>(QfL v0 v1 v3 v4 v5.1 (-1:Int)).bind fun v6=>bif v6 then QcF v0 v1 v2 v3 (Ev.wr .i64 (v4+1)) else some (.inl ()) else some (.inr ()):=me 224
theorem QiQ v0 v1 v2 v3 v4:QcG v0 v1 v2 v3 v4=
 bif (decide (v4<(v3.length:Int))) then bif (decide (v2.1=(9:Int))) then bif v2.2.2.2.2.2.2.2.1 then (Sy.at' v3 v4).bind fun v5=>(Sy.at' v1.2.2.2.1 v5).bind fun v6=>bif (!v6.2) then QcG v0 v1 v2 v3 (Ev.wr .i64 (v4+1)) else some (.inl ()) else (Sy.at' v3 v4).bind fun v5=>(Qa3 v1 v5).bind fun v6=>(Qfp v0.1 v6).bind fun v7=>(Sy.at' v1.2.2.2.1 v5).bind fun v8=>bif (v8.2==(!v7)) then QcG v0 v1 v2 v3 (Ev.wr .i64 (v4+1)) else some (.inl ()) else (Sy.at' v3 v4).bind fun v5=>(Sy.at' v1.2.2.2.1 v5).bind fun v6=>bif (!v6.2) then QcG v0 v1 v2 v3 (Ev.wr .i64 (v4+1)) else some (.inl ()) else some (.inr ()):=me 225
theorem Qe3 v0 v1 v2 v3 v4 v5 v6 v7 v8 v9 v10 v11 v12 v13 v14 v15 v16 v17 v18 v19 v20:Qbl v0 v1 v2 v3 v4 v5 v6 v7 v8 v9 v10 v11 v12 v13 v14 v15 v16 v17 v18 v19 v20=
 bif decide (v20<v19) then (Sy.at' v18 v20).bind fun v21=>(Sy.at' v2 v21).bind fun v22=>Qbl v0 v1 (List.set v2 v21.toNat true) v3 v4 v5 v6 v7 v8 v9 v10 v11 v12 v13 v14 v15 v16 v17 v18 v19 (Ev.wr .i64 (v20+1)) else some v2:=me 226
theorem QhV v0 v1 v2 v3:QeZ v0 v1 v2 v3=
 bif (decide (v3<(v2.length:Int))) then (Sy.at' v2 v3).bind fun v4=>bif (decide (v4<(0:Int))) then some (.inl ()) else (Sy.at' v1.2.2.2.1 v3).bind fun v5=>(Qa3 v0 v4).bind fun v6=>bif decide (v6=v5.1) then QeZ v0 v1 v2 (Ev.wr .i64 (v3+1)) else some (.inl ()) else some (.inr ()):=me 227
theorem QhW v0 v1 v2 v3 v4 v5 v6:Qdk v0 v1 v2 v3 v4 v5 v6=
 bif (decide (v6<(v4.length:Int))) then bif decide (v6=v5) then (Sy.at' v4 v6).bind fun v7=>bif (decide (v7=(-1:Int))) then Qdk v0 v1 v2 v3 v4 v5 (Ev.wr .i64 (v6+1)) else some (.inl ()) else (Sy.at' v4 v6).bind fun v7=>bif (decide (v7<(0:Int))) then some (.inl ()) else (Sy.at' v0.1 (Ev.wr .i64 (v2 - 1))).bind fun v8=>(Sy.at' v8.2 v3).bind fun v9=>(Sy.at' v9.2 v6).bind fun v10=>(Qa3 v1 v7).bind fun v11=>bif decide (v11=v10) then Qdk v0 v1 v2 v3 v4 v5 (Ev.wr .i64 (v6+1)) else some (.inl ()) else some (.inr ()):=me 228
theorem Qt3 v0 v1:Qob v0 v1=
 (bif (decide (v1<(1:Int))) then some true else some (decide ((v0.length:Int)<v1))).bind fun v2=>bif v2 then some ([]:List (GCon)) else (Sy.at' v0 (Ev.wr .i64 (v1 - 1))).bind fun v3=>some v3.2:=me 229
theorem Qnl v0 v1:Qg4 v0 v1=
 (Qb6 v0 v1 v1.length 0).bind fun v2=>some v2:=me 230
theorem Qic v0:QcO v0=
 (Qg5 v0).bind fun v1=>some (!(decide (v1<(0:Int)))):=me 231
theorem Qjr v0 v1 v2 v3 v4 v5 v6 v7 v8 v9 v10 v11 v12:Qav v0 v1 v2 v3 v4 v5 v6 v7 v8 v9 v10 v11 v12=
 (Sy.at' v8 v12).bind fun v13=>some v13.1:=me 232
theorem QkV v0 v1 v2 v3 v4 v5 v6 v7 v8 v9 v10 v11 v12 v13 v14:QcU v0 v1 v2 v3 v4 v5 v6 v7 v8 v9 v10 v11 v12 v13 v14=
 bif (decide ((v13.length:Int)=(v3.length:Int))) then (Qbg v0 v1 v2 v3 v4 v5 v6 v7 v8 v9 v10 v11 v12 v14 v13 v13.length 0).bind fun
   |.inl _=> some false
   |.inr _=> some true else some false:=me 233
theorem Qjs v0 v1 v2 v3 v4 v5 v6 v7 v8 v9 v10 v11 v12:Qbm v0 v1 v2 v3 v4 v5 v6 v7 v8 v9 v10 v11 v12=
 (Qav v0 v1 v2 v3 v4 v5 v6 v7 v8 v9 v10 v11 v12).bind fun v13=>(Qix v3 v13).bind fun v14=>some v14:=me 234
theorem Qly v0 v1 v2 v3 v4 v5 v6 v7 v8 v9 v10 v11 v12 v13:Qcm v0 v1 v2 v3 v4 v5 v6 v7 v8 v9 v10 v11 v12 v13=
 (Qel v0 v1 v2 v3 v4 v5 v6 v7 v8 v9 v10 v11 v12).bind fun ⟨v14,v15⟩=>(bif v15 then (QcU v0 v1 v2 v14 v3 v4 v5 v6 v7 v8 v9 v10 v11 v13 (-1:Int)).bind fun v16=>some v16 else some false).bind fun v16=>some v16:=me 235
theorem Qj6 v0 v1 v2 v3 v4 v5 v6 v7 v8 v9 v10 v11 v12 v13:Qcs v0 v1 v2 v3 v4 v5 v6 v7 v8 v9 v10 v11 v12 v13=
 (bif (decide (v12<(1:Int))) then some true else some (decide (v13<(0:Int)))).bind fun v14=>(bif v14 then some true else (Sy.at' v3 (Ev.wr .i64 (v12 - 1))).bind fun v15=>some (!(decide (v13<(v15.2.length:Int))))).bind fun v15=>bif v15 then some (.inl ()) else (Sy.at' v3 (Ev.wr .i64 (v12 - 1))).bind fun v16=>(Sy.at' v16.2 v13).bind fun v17=>some (.inr v17.2):=me 236
theorem Qe4 v0 v1 v2 v3 v4 v5 v6 v7 v8 v9 v10 v11 v12 v13 v14 v15 v16 v17 v18:Qbn v0 v1 v2 v3 v4 v5 v6 v7 v8 v9 v10 v11 v12 v13 v14 v15 v16 v17 v18=
 bif decide (v18<v17) then (Sy.at' v16 v18).bind fun v19=>(Sy.at' v2 v19).bind fun v20=>Qbn v0 v1 (List.set v2 v19.toNat false) v3 v4 v5 v6 v7 v8 v9 v10 v11 v12 v13 v14 v15 v16 v17 (Ev.wr .i64 (v18+1)) else some v2:=me 237
theorem QfW v0 v1 v2 v3:Qb6 v0 v1 v2 v3=
 bif decide (v3<v2) then (Sy.at' v1 v3).bind fun v4=>(Sy.at' v0 v4).bind fun v5=>Qb6 (List.set v0 v4.toNat false) v1 v2 (Ev.wr .i64 (v3+1)) else some v0:=me 238
theorem Qj7 v0:Qg5 v0=
 (QbP v0 v0.length 0).bind fun
  |.inl _=> some (-1:Int)
  |.inr v1=> some v1:=me 239
theorem Qew v0 v1 v2 v3 v4 v5 v6 v7 v8 v9 v10 v11 v12 v13 v14 v15 v16:Qbg v0 v1 v2 v3 v4 v5 v6 v7 v8 v9 v10 v11 v12 v13 v14 v15 v16=
 bif decide (v16<v15) then (Sy.at' v14 v16).bind fun v17=>bif decide (v16=v13) then bif (decide (v17=(-1:Int))) then Qbg v0 v1 v2 v3 v4 v5 v6 v7 v8 v9 v10 v11 v12 v13 v14 v15 (Ev.wr .i64 (v16+1)) else some (.inl ()) else bif (decide (v17<(0:Int))) then some (.inl ()) else (Sy.at' v9 v17).bind fun v18=>(Sy.at' v3 v16).bind fun v19=>bif decide (v18.1=v19) then Qbg v0 v1 v2 v3 v4 v5 v6 v7 v8 v9 v10 v11 v12 v13 v14 v15 (Ev.wr .i64 (v16+1)) else some (.inl ()) else some (.inr ()):=me 240
theorem Qj8 v0 v1 v2 v3 v4 v5 v6 v7 v8 v9 v10 v11 v12:Qel v0 v1 v2 v3 v4 v5 v6 v7 v8 v9 v10 v11 v12=
 (Sy.at' v4 v12).bind fun v13=>(bif (decide (v13.2.1<(0:Int))) then some true else some (decide ((v13.2.2.2.1.length:Int)<v13.2.1))).bind fun v14=>bif v14 then some (([]:List (Int)),false) else bif (decide (v13.2.1<(0:Int))) then none else bif (decide ((v13.2.2.2.1.length:Int)<v13.2.1)) then none else (Qa8 v0 v1 v2 ([]:List (Int)) v3 v4 v5 v6 v7 v8 v9 v10 v11 (List.take v13.2.1.toNat v13.2.2.2.1) ((List.take v13.2.1.toNat v13.2.2.2.1).length:Int) 0).bind fun v15=>some (v15,true):=me 241
theorem Qjt v0 v1 v2 v3 v4 v5 v6 v7 v8 v9 v10 v11 v12 v13 v14:Qbo v0 v1 v2 v3 v4 v5 v6 v7 v8 v9 v10 v11 v12 v13 v14=
 bif (decide ((v12.length:Int)=(v13.length:Int))) then (Qa2 v0 v1 v2 v3 v4 v5 v6 v7 v8 v9 v10 v11 v13 v14 v12 v12.length 0).bind fun
   |.inl _=> some false
   |.inr _=> some true else some false:=me 242
theorem Qex v0 v1 v2 v3 v4 v5 v6 v7 v8 v9 v10 v11 v12 v13 v14 v15:QaU v0 v1 v2 v3 v4 v5 v6 v7 v8 v9 v10 v11 v12 v13 v14 v15=
 bif decide (v15<v14) then (Sy.at' v13 v15).bind fun v16=>(Sy.at' v3 (Ev.wr .i64 (v12 - 1))).bind fun v17=>(Sy.at' v17.2 v15).bind fun v18=>(Qbo v0 v1 v2 v3 v4 v5 v6 v7 v8 v9 v10 v11 v16.1 v18.2 (-1:Int)).bind fun v19=>bif v19 then QaU v0 v1 v2 v3 v4 v5 v6 v7 v8 v9 v10 v11 v12 v13 v14 (Ev.wr .i64 (v15+1)) else some (.inl ()) else some (.inr ()):=me 243
theorem Qd2 v0 v1 v2:QbP v0 v1 v2=
 bif decide (v2<v1) then (Sy.at' v0 v2).bind fun v3=>(QoR v3).bind fun v4=>bif v4 then some (.inr v2) else QbP v0 v1 (Ev.wr .i64 (v2+1)) else some (.inl ()):=me 244
theorem Qd3 v0 v1 v2 v3 v4 v5 v6 v7 v8 v9 v10 v11 v12 v13 v14 v15:Qa8 v0 v1 v2 v3 v4 v5 v6 v7 v8 v9 v10 v11 v12 v13 v14 v15=
 bif decide (v15<v14) then (Sy.at' v13 v15).bind fun v16=>bif (decide (((v3.length+(1:Nat)) * (8:Nat))≤(35184372088832:Nat))) then Qa8 v0 v1 v2 (v3++(v16.1::([]:List (Int)))) v4 v5 v6 v7 v8 v9 v10 v11 v12 v13 v14 (Ev.wr .i64 (v15+1)) else none else some v3:=me 245
theorem Qey v0 v1 v2 v3 v4 v5 v6 v7 v8 v9 v10 v11 v12 v13 v14 v15:Qaq v0 v1 v2 v3 v4 v5 v6 v7 v8 v9 v10 v11 v12 v13 v14 v15=
 bif decide (v15<v14) then (Sy.at' v13 v15).bind fun v16=>(Sy.at' v8 v16).bind fun v17=>bif (decide (v12.1=(9:Int))) then bif v12.2.2.2.2.2.2.2.1 then bif (!v17.2) then Qaq v0 v1 v2 v3 v4 v5 v6 v7 v8 v9 v10 v11 v12 v13 v14 (Ev.wr .i64 (v15+1)) else some (.inl ()) else (Qix v3 v17.1).bind fun v18=>bif (v17.2==(!v18)) then Qaq v0 v1 v2 v3 v4 v5 v6 v7 v8 v9 v10 v11 v12 v13 v14 (Ev.wr .i64 (v15+1)) else some (.inl ()) else bif (!v17.2) then Qaq v0 v1 v2 v3 v4 v5 v6 v7 v8 v9 v10 v11 v12 v13 v14 (Ev.wr .i64 (v15+1)) else some (.inl ()) else some (.inr ()):=me 246
theorem Qdw v0 v1 v2 v3 v4 v5 v6 v7 v8 v9 v10 v11 v12 v13 v14 v15 v16:Qa2 v0 v1 v2 v3 v4 v5 v6 v7 v8 v9 v10 v11 v12 v13 v14 v15 v16=
 bif decide (v16<v15) then (Sy.at' v14 v16).bind fun v17=>bif decide (v16=v13) then bif (decide (v17=(-1:Int))) then Qa2 v0 v1 v2 v3 v4 v5 v6 v7 v8 v9 v10 v11 v12 v13 v14 v15 (Ev.wr .i64 (v16+1)) else some (.inl ()) else bif (decide (v17<(0:Int))) then some (.inl ()) else (Sy.at' v8 v17).bind fun v18=>(Sy.at' v12 v16).bind fun v19=>bif decide (v18.1=v19) then Qa2 v0 v1 v2 v3 v4 v5 v6 v7 v8 v9 v10 v11 v12 v13 v14 v15 (Ev.wr .i64 (v16+1)) else some (.inl ()) else some (.inr ()):=me 247
theorem Qq6 v0:QoR v0=
 some (decide ((0:Int)<(v0.2.length:Int))):=me 248
theorem QrQ (s sep:List UInt8):strings_Cut s sep=cutM s sep:=QEB ctx tb G 2 (by kernel_rfl) (s,sep)
theorem Qq7 (s cs:List UInt8):QoP s cs=Qwy s cs:=QEB ctx tb G 3 (by kernel_rfl) (s,cs)
end
end Go.Proofs.YtkecfadnfnnfaaaGreatDoor.LabB
