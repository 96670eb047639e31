/- The families of functions and loops of this program: tables, nothing is claimed here. -/
import Derived.Test.YtkecfadnfnnfaaaGreatDoorTabB
import Derived.Test.YtkecfadnfnnfaaaGreatDoorSyC
set_option maxRecDepth 100000
set_option linter.all false
noncomputable section
namespace Go.Proofs.YtkecfadnfnnfaaaGreatDoor.LabB
open Go Go.Ev Go.Sy
def Quw:Ty:=(.pair .str (.int .u64))
def QCi:Ty:=(.pair (.int .i64) .bool)
def QCj:Ty:=(.pair (.int .u8) (.int .u8))
def Qws:Ty:=(.pair (.lst (.int .i64)) (.int .i64))
def QFp:Ty:=(.pair .str (.lst (.int .i64)))
def QDC:Ty:=(.pair (.lst .bool) (.lst .bool))
def QCk:Ty:=(.pair (.int .i64) (.pair (.int .i64) (.pair .bool (.int .u8))))
def QDD:Ty:=(.pair .str (.lst QFp))
def QlL:Ty:=(.pair (.lst .bool) (.pair (.lst .bool) (.pair (.int .i64) (.int .i64))))
def QFq:Ty:=(.pair (.int .i64) (.pair .bool (.pair .bool (.pair .bool (.pair .bool (.pair .bool (.pair .bool (.pair .bool .bool))))))))
def QzL:Ty:=(.pair (.int .i64) (.pair (.int .i64) (.pair (.lst (.int .i64)) (.pair (.int .i64) (.pair (.int .i64) (.pair (.int .i64) (.pair (.lst (.int .i64)) (.pair .bool (.pair (.lst Qws) (.int .i64))))))))))
def Qtx:Ty:=(.pair .str (.pair (.int .i64) (.pair (.int .i64) (.pair (.lst QCi) (.pair (.lst QzL) QCi)))))
def QCl:Ty:=(.pair Qtx (.pair (.lst (.int .i64)) .bool))
def Qfc:Ty:=(.pair (.lst QDD) (.lst Qtx))
def Qhy:Ty:=(.pair Qtx (.pair (.lst (.int .i64)) (.pair (.lst (.int .i64)) (.pair (.lst (.int .i64)) QCi))))
def QGJ:Ty:=(.pair Qfc (.pair Qtx (.pair (.lst .bool) (.lst (.int .i64)))))
def QFr:Ty:=(.pair Qfc (.pair Qtx (.pair (.lst (.int .i64)) (.pair .bool (.pair (.int .i64) (.int .i64))))))
def QzM:Ty:=(.pair Qfc (.pair Qtx (.pair (.lst .bool) QDC)))
def QCm:Ty:=(.pair Qfc (.pair Qtx (.pair (.lst (.int .i64)) (.lst QzL))))
namespace T
def v:Nat→Sy.Ex:=.v
def B:Ty:=.bool
def S:Ty:=.str
def I:Ty:=.int .i64
def L:Ty→Ty:=.lst
def F:Ty:=Qtx
def N:Ty:=QzL
def P:Ty:=Qfc
def D:Ty:=QDD
def V:Ty:=QCi
def K:Ty:=QFp
def R:Ty:=Qws
def C:Ty:=QzM
def U:Ty:=QGJ
def W:Ty:=QFr
def T:Ty:=QDC
def G:Ty:=QCl
def E:Ty:=QCm
def i (n:Nat):SV:=.ii .i64 (v n)
def b (n:Nat):SV:=.bb (v n)
def s (n:Nat):SV:=.ss (v n)
def t (T:Ty)(n:Nat):SV:=.tl T (v n)
def p (n:Nat):SV:=.ptr n (.nn 0) 0
def q (k:Nat)(T:Ty)(n:Nat):SV:=.sl k (.nn 0) (.o1 (.len T) (v n))
def f (k:Nat)(l:List Nat):SV:=.fn k (l.map p)
def c (T:Ty)(n:Nat):List SV:=cellsOf T (v n)
def r (T:Ty)(n:Nat):SB:=.rows 1 T (v n)
def g (n:Nat)(T:Ty)(l:List SV):SB:=.box n (some T) [l]
def u (T:Ty)(x:SV):SB:=g 1 T [x]
def x (k:Nat)(T:Ty)(n:Nat):SB:=u (L T) (q k T n)
def w (k:Nat)(T:Ty)(n:Nat):SB:=g k T (c T n)
def y (x:SV):SB:=.box 1 none [[x]]
def d:SB:=.dead
def nth:List Ty→Nat→Ty
 | [],_=>.unit
 | t::_,0=>t
 | _::l,n+1=>nth l n
def h (k:List Ty)(l:List Nat):List (Hk×Ty):=l.map fun i=>(.par i,nth k i)
def m (l:List Ty):List (Hk×Ty):=l.map fun t=>(.new,t)
def k (e:Sy.Ex)(T:Ty):List (Hk×Ty):=[(.con e,T)]
def aa (i:Nat)(T:Ty):List (Hk×Ty):=[(.par i,T)]
def a (n:Nat)(f:SF)(j:SH)(k:List Ty)(l:List Ty)(e:Bool:=false):Fam:=⟨0,n,0,0,f,j,k,[QzJ l],e⟩
def o (n i b m:Nat)(f:SF)(j:SH)(k:List Ty)(l:SF→SH→List Ty→List Out):Fam:=⟨n,i,b,m,f,j,k,l f j k,false⟩
def e1:Ty:=(L B)
def e2:Ty:=(L I)
def e3:Ty:=(L D)
def e4:Ty:=(L V)
def e5:Ty:=(L N)
def e6:Ty:=(L F)
def e7:Ty:=(L (.pair S B))
def e8:Ty:=(L R)
def e9:Ty:=(.pair S B)
def e10:Ty:=(L K)
def e11:Sy.Ex:=(.bl false)
def e12:Sy.Ex:=(.bl true)
def e13:List Ty:=[e1,e1,e1,e3,e6,S,I,I,e4,e5,I,B,I]
def e14:List Ty:=[e4,e5,e2,e2,e2,e4,e5,F,S,I,I,I,B,S,I,I,e4,e5,I,B,I,B,S,I,I,I,B,I]
def e15:List Ty:=[e1,e1,e1,e3,e6,S,I,I,e4,e5,I,B,e4]
def e16:List Ty:=[e2,e1,e1,I,I,P,F,N,e2,I]
def e17:List Ty:=[e1,e1,e1,e3,e6,S,I,I,e4,e5,I,B,N,e2,I,I]
def e18:List Ty:=[e1,e1,e1,e3,e6,S,I,I,e4,e5,I,B,N,e2,e2,I,I]
def e19:List Ty:=[e2,e2,e2,e2,S,I,I,e4,e5,I,B,I,B,N,e2,I]
def e20:List Ty:=[e1,e1,e1,e3,e6,S,I,I,e4,e5,I,B,e4,I,I]
def e21:List Ty:=[e2,e2,e2,e2,F,S,I,I,e4,e5,I,B,I,B,I]
def e22:SV:=(q 4 B 0)
def e23:SV:=(q 5 B 1)
def e24:SV:=(q 6 B 2)
def e25:SV:=(f 130 [0,1,3,5,6,9,14,15])
def e26:SV:=(.agg (c P 0))
def e27:SV:=(q 1 B 0)
def e28:SV:=(q 2 B 1)
def e29:SV:=(q 3 B 2)
def e30:SV:=(f 128 [0,10,3,12])
def e31:SV:=(.agg (c N 0))
def e32:SV:=(q 4 B 1)
def e33:SV:=(.agg (c F 0))
def e34:SV:=(q 1 I 0)
def e35:SV:=(q 5 B 2)
def e36:SV:=(q 2 B 0)
def e37:SV:=(q 3 B 1)
def e38:SV:=(q 0 I 0)
def e39:SV:=(q 2 V 0)
def e40:SV:=(q 3 N 1)
def e41:SV:=(f 127 [0,7])
def e42:SV:=(.agg (c F 1))
def e43:SV:=(q 2 I 1)
def e44:SV:=(q 4 B 2)
def e45:SV:=(q 5 B 0)
def e46:SV:=(q 6 B 1)
def e47:SV:=(q 7 B 2)
def e48:SV:=(f 129 [3])
def e49:SV:=(q 7 I 3)
def e50:SV:=(q 0 B 0)
def e51:SV:=(q 5 I 1)
def e52:SV:=(q 6 I 2)
def e53:SV:=(.agg (c K 0))
def e54:SV:=(q 3 I 2)
def e55:SV:=(q 5 I 2)
def e56:List SV:=[(t D 3),(t F 4),(s 5),(i 6),(i 7),(t V 8),(t N 9),(i 10),(b 11),e22,e23,e24]
def e57:List SV:=[(t D 3),(t F 4),(s 5),(i 6),(i 7),(t V 8),(t N 9),(i 10),(b 11),e27,e28,e29]
def e58:List SV:=[(t D 3),(t F 4),(s 5),(i 6),(i 7),(t V 8),(t N 9),(i 10),(b 11),e45,e46,e47]
def e59:List SV:=[(t D 3),(t F 4),(s 5),(i 6),(i 7),(t V 8),(t N 9),(i 10),(b 11),e36,e37,e44]
def e60:List SV:=[(t D 4),(t F 5),(s 6),(i 7),(i 8),(t V 9),(t N 10),(i 11),(b 12),e27,e28,e29]
def e61:List SV:=[e32,e35,(i 3),(i 4)]
def e62:List SV:=[(s 4),(i 5),(i 6),(t V 7),(t N 8),(i 9),(b 10),e51,e52,e49,(i 11),(b 12)]
def e63:List SV:=[(s 5),(i 6),(i 7),(t V 8),(t N 9),(i 10),(b 11),(q 2 I 0),(q 3 I 1),(q 4 I 2),(i 12),(b 13)]
def e64:List SV:=[(s 13),(i 14),(i 15),(t V 16),(t N 17),(i 18),(b 19),e55,(q 6 I 3),(q 7 I 4),(i 20),(b 21)]
def e65:List SV:=[(s 22),(i 23),(i 24),(q 9 V 5),(q 10 N 6),(i 25),(b 26)]
def e66:List SV:=[(t D 4),(t F 5),(s 6),(i 7),(i 8),(t V 9),(t N 10),(i 11),(b 12),e22,e23,e24]
def e67:List SV:=[(s 5),(i 6),(i 7),e39,e40,(i 8),(b 9)]
def e68:List SV:=[(s 3),(i 4),(i 5),(t V 6),(t N 7),(i 8),(b 9),e34,e43,e54,(i 10),(b 11)]
def e69:List SV:=[(s 8),(i 9),(i 10),e39,e40,(i 11),(b 12)]
def e70:List SV:=[(s 10),(i 11),(i 12),(q 5 V 2),(q 6 N 3),(i 13),(b 14)]
def e71:List SV:=[(s 9),(i 10),(i 11),(q 4 V 2),(q 5 N 3),(i 12),(b 13)]
def e72:List SV:=[(s 4),(i 5),(i 6),(q 1 V 0),(q 2 N 1),(i 7),(b 8)]
def e73:List SV:=[(t D 4),(t F 5),(s 6),(i 7),(i 8),(t V 9),(t N 10),(i 11),(b 12),e36,e37,e44]
def e74:List SV:=[(i 16),(i 17),(t I 18),(i 19),(i 20),(i 21),(t I 22),(b 23),(q 8 R 4),(i 24)]
def e75:List SV:=[(s 5),(i 6),(i 7),(t V 8),(t N 9),(i 10),(b 11),e51,e52,e49,(i 12),(b 13)]
def e76:List SV:=(c P 0)
def e77:List SV:=[(s 11),(i 12),(i 13),(q 5 V 2),(q 6 N 3),(i 14),(b 15)]
def e78:List SV:=[(s 10),(i 11),(i 12),(t V 13),(q 5 N 2),(i 14),(b 15)]
def e79:List SV:=[(s 9),(i 10),(i 11),(t V 12),(q 5 N 2),(i 13),(b 14)]
def e80:List SV:=(c N 0)
def e81:List SV:=[(s 6),(i 7),(i 8),e39,e40,(i 9),(b 10)]
def e82:List SV:=(c F 0)
def e83:List SV:=[e36,e37,(i 3),(i 4)]
def e84:List SV:=[(s 4),(i 5),(i 6),e39,e40,(i 7),(b 8)]
def e85:SV:=(.agg e76)
def e86:SV:=(.agg e80)
def e87:SV:=(.agg e82)
def e88:SB:=r B 0
def e89:SB:=r B 1
def e90:SB:=g 12 C e56
def e91:SB:=g 4 QlL e61
def e92:SB:=r B 2
def e93:SB:=.rows 10 N (v 1)
def e94:SB:=.rows 2 V (v 0)
def e95:SF:=[(2,(b 0))]
def e96:SB:=r I 0
def e97:SF:=[(4,(b 0))]
def e98:SB:=u e3 (t D 0)
def e99:SF:=[(0,(t D 0))]
def e100:SB:=g 12 C e57
def e101:SB:=.rows 10 N (v 3)
def e102:SF:=[(0,(t I 0)),(1,(t I 1))]
def e103:SB:=y (p 1)
def e104:SB:=.rows 2 V (v 2)
def e105:SF:=[(0,(t D 0)),(1,(i 1))]
def e106:SB:=w 10 N 12
def e107:SF:=[(0,(p 0)),(1,(i 12))]
def e108:SF:=[(0,(b 12))]
def e109:SB:=g 12 C e58
def e110:SF:=[(60,(t F 0)),(61,(i 1)),(62,(i 2)),(88,(t N 3)),(89,(i 4)),(90,(i 5))]
def e111:SB:=g 12 C e59
def e112:SF:=[(0,(t D 0)),(3,(i 1))]
def e113:SF:=[(0,(t D 0)),(3,(i 1)),(4,(i 2))]
def e114:SB:=g 12 Qhy e62
def e115:SF:=[(3,(.map 0)),(4,(.map 1)),(12,(t D 2)),(13,(i 3)),(14,(i 4))]
def e116:SB:=w 2 P 0
def e117:SF:=[(0,(b 0))]
def e118:SF:=[(6,(b 0))]
def e119:SF:=[(2,(p 0)),(3,(p 1)),(5,(i 2))]
def e120:SB:=x 1 B 0
def e121:SF:=[(0,(p 0)),(6,(p 7)),(72,(t I 13)),(73,(i 14)),(74,(i 15))]
def e122:SB:=w 10 N 7
def e123:SB:=r I 1
def e124:SF:=[(4,(i 12))]
def e125:SB:=r I 2
def e126:SB:=w 7 F 1
def e127:SB:=x 2 B 0
def e128:SF:=[(1,(p 0)),(3,e34),(4,(i 2))]
def e129:SF:=[(0,e85),(1,(.agg (c P 1)))]
def e130:SF:=[(1,(p 0)),(2,(p 1)),(4,(p 4)),(5,(p 8)),(7,(i 27))]
def e131:SF:=[(0,e85),(1,(i 1))]
def e132:SF:=[(0,(t D 2)),(3,(q 0 S 0)),(4,(q 1 S 1)),(5,(i 3))]
def e133:SF:=[(0,(s 0)),(1,(.ii .u8 (v 1))),(2,(.ii .u8 (v 2)))]
def e134:SF:=[(4,(i 0))]
def e135:SF:=[(0,(.tup []))]
def e136:SF:=[(1,(p 0)),(5,(t I 3)),(6,(t I 4)),(8,e34),(9,e43)]
def e137:SB:=r I 3
def e138:SB:=g 12 Qhy e63
def e139:SB:=g 12 Qhy e64
def e140:SF:=[(0,(t I 0)),(1,(t I 1)),(12,(i 2)),(13,(i 3))]
def e141:SB:=w 7 F 5
def e142:SF:=[(1,(p 0)),(24,(t D 1)),(25,(i 2)),(26,(i 3))]
def e143:SF:=[(1,(p 0)),(14,(t D 1)),(15,(i 2)),(16,(i 3))]
def e144:SF:=[(0,(t D 0)),(1,(t D 1)),(5,(i 2)),(6,(i 3))]
def e145:SF:=[(0,e86)]
def e146:SB:=u B (b 6)
def e147:SF:=[(5,e38),(24,(t R 1)),(25,(i 2)),(26,(i 3))]
def e148:SF:=[(0,(s 0))]
def e149:SB:=w 7 F 4
def e150:SF:=[(0,(b 1))]
def e151:SB:=.rows 10 N (v 6)
def e152:SB:=.rows 10 N (v 2)
def e153:SB:=g 4 QlL [(q 3 B 0),e32,(i 5),(i 6)]
def e154:SF:=[(0,(t D 1)),(3,e50),(4,(i 2)),(5,(i 3))]
def e155:SF:=[(0,(i 12))]
def e156:SB:=.rows 2 V (v 5)
def e157:SB:=w 7 F 2
def e158:SB:=.rows 2 R (v 3)
def e159:SB:=g 12 C e60
def e160:SF:=[(60,(t F 0)),(61,(i 1)),(62,(i 2))]
def e161:SF:=[(0,e85),(1,e42),(2,(.agg (c N 2)))]
def e162:SF:=[(0,(t D 0)),(1,(t D 1)),(5,(i 2))]
def e163:SF:=[(1,(p 0)),(3,(p 1)),(4,(q 5 I 3))]
def e164:SB:=g 4 QlL [e27,e28,(i 3),(i 4)]
def e165:SB:=w 7 F 3
def e166:SB:=w 2 P 5
def e167:SB:=w 7 F 6
def e168:SF:=[(0,(p 0)),(3,(p 7)),(7,(t I 13))]
def e169:SF:=[(0,e87)]
def e170:SB:=g 12 Qhy e68
def e171:SF:=[(0,(t D 1)),(3,(p 0)),(4,(b 2))]
def e172:SF:=[(0,(t I 0)),(1,(i 1)),(5,(i 2))]
def e173:SB:=x 16 I 0
def e174:SB:=x 17 B 1
def e175:SB:=x 18 B 2
def e176:SB:=x 19 B 3
def e177:SB:=x 20 I 4
def e178:SH:=[e90,d,d,d,e88,e89,e92,e106]
def e179:SH:=[e103,e109,d,d,d,e88,e89,e92]
def e180:SH:=[e100,e88,e89,e92]
def e181:SH:=[e91,d,d,e96,e89,e92,e166,e167,e122]
def e182:SH:=[e103,e111,e88,e89,e92]
def e183:SH:=[e141,e173,d,e174,d,e146,y e41,e175,d,y e30,e176,d,e177,d,y e25,y e48,e96,e89,e92,r B 3,r I 4,e122]
def e184:SH:=[e90,d,d,d,e88,e89,e92]
def e185:SH:=[g 7 F e72,e94,e93,g 7 F e71,e104,e101]
def e186:SH:=[w 7 F 7,g 7 F e69,e94,e93,e139,e125,e137,r I 4,g 7 F e65,e156,e151]
def e187:SH:=[e120,e88]
def e188:SH:=[e127,d,e88]
def e189:SH:=[e165,x 7 B 0,d,x 8 B 1,d,x 9 I 2,d,e88,e89,e125]
def e190:SH:=[e149,g 7 F e67,e94,e93,g 7 F e70,e104,e101]
def e191:SH:=[e159,e88,e89,e92,e137]
def e192:SH:=[e114,d,d,d,e96,e123,e125,e137,w 10 N 13]
def e193:SH:=[e157,e96,e123]
def e194:SH:=[w 10 N 1,e96]
def e195:SH:=[g 12 C e66,d,d,d,e88,e89,e92,e137]
def e196:SH:=[e157,g 4 QlL e83,e88,e89]
def f0:Fam:=a 10 e129 [] [P,P] [B]
def f1:Fam:=a 24 [] [] [] [B] true
def f2:Fam:=a 193 [(0,(s 0)),(1,(s 1))] [] [S,S] [S,S,B] true
def f3:Fam:=a 209 [(0,(s 0)),(1,(s 1))] [] [S,S] [S] true
def f4:Fam:=a 25 [(0,e85)] [] [P] [B]
def f5:Fam:=a 32 e129 [] [P,P] [B]
def f6:Fam:=o 2 25 0 0 e142 [e116] [P,e3,I,I] fun X Y Z=>[⟨.ret,e95,[],k e11 B⟩,⟨(.exit 0),[(1,(p 0))],Y,h Z [0]⟩]
def f7:Fam:=a 33 e129 [] [P,P] [B]
def f8:Fam:=a 17 [(0,e85)] [] [P] [I]
def f9:Fam:=o 2 25 2 0 [(1,(p 0)),(24,(t D 1)),(25,(i 2)),(26,(i 3)),(41,(t K 4)),(42,(i 5)),(43,(i 6))] [e116] [P,e3,I,I,e10,I,I] fun X Y Z=>[⟨.ret,e95,[],k e11 B⟩,⟨(.exit 2),e142,Y,h Z [0,1,2,3]⟩]
def f10:Fam:=o 2 25 4 0 e160 [] [e6,I,I] fun X Y Z=>[⟨.ret,e95,[],k e11 B⟩,⟨(.exit 4),[],[],[]⟩]
def f11:Fam:=o 3 89 0 0 [(0,(t D 0)),(1,(t D 1)),(2,(.fn 85 []))] [] [e3,e3] fun X Y Z=>[⟨.ret,e117,[],m [B]⟩]
def f12:Fam:=a 42 [(0,e85)] [] [P] [I]
def f13:Fam:=a 50 e99 [] [e3] [I]
def f14:Fam:=a 93 [(0,(t D 0)),(1,(t D 1))] [] [e3,e3] [B]
def f15:Fam:=o 2 17 0 0 [(1,(p 0)),(19,(i 1)),(20,(i 2))] [e116] [P,I,I] fun X Y Z=>[⟨(.exit 0),[],[],[]⟩,⟨.ret,[(2,(i 0))],[],m [I]⟩]
def f16:Fam:=o 2 25 6 0 e110 [] [e6,I,I,e5,I,I] fun X Y Z=>[⟨.ret,e95,[],k e11 B⟩,⟨(.exit 6),e160,[],h Z [0,1,2]⟩]
def f17:Fam:=o 2 89 0 0 [(1,(t D 0)),(2,(.fn 85 [])),(15,(t D 1)),(16,(i 2)),(17,(i 3))] [] [e3,e3,I,I] fun X Y Z=>[⟨(.exit 0),[],[],[]⟩,⟨.ret,e118,[],k e11 B⟩]
def f18:Fam:=a 107 e99 [] [e3] [I]
def f19:Fam:=a 112 e99 [] [e3] [B]
def f20:Fam:=o 2 33 0 0 e119 ([e116,w 2 P 1]) [P,P,I] fun X Y Z=>[⟨(.exit 0),[],[],[]⟩,⟨.ret,e97,[],k e11 B⟩]
def f21:Fam:=o 2 42 0 0 [(1,(p 0)),(4,(i 1))] [e116] [P,I] fun X Y Z=>[⟨(.exit 0),[],[],[]⟩,⟨.ret,[(2,(i 0))],[],m [I]⟩]
def f22:Fam:=a 113 e99 [] [e3] [B]
def f23:Fam:=o 2 93 0 0 e162 [] [e3,e3,I] fun X Y Z=>[⟨.ret,e97,[],k e11 B⟩,⟨(.exit 0),[],[],[]⟩]
def f24:Fam:=a 51 e131 [] [P,I] [I,I]
def f25:Fam:=o 2 25 8 0 [(60,(t F 0)),(61,(i 1)),(62,(i 2)),(88,(t N 3)),(89,(i 4)),(90,(i 5)),(111,(t R 6)),(112,(i 7)),(113,(i 8))] [] [e6,I,I,e5,I,I,e8,I,I] fun X Y Z=>[⟨.ret,e95,[],k e11 B⟩,⟨(.exit 8),e110,[],h Z [0,1,2,3,4,5]⟩]
def f26:Fam:=a 85 [(0,(.agg (c D 0))),(1,(.agg (c D 1)))] [] [D,D] [B]
def f27:Fam:=a 155 e99 [] [e3] [B]
def f28:Fam:=o 2 112 0 0 [(8,(t D 0)),(9,(i 1)),(10,(i 2))] [] [e3,I,I] fun X Y Z=>[⟨.ret,e95,[],k e12 B⟩,⟨(.exit 0),[],[],[]⟩]
def f29:Fam:=a 114 e99 [] [e3] [B]
def f30:Fam:=a 156 e99 [] [e3] [B]
def f31:Fam:=a 94 e169 [] [F] [F,I]
def f32:Fam:=a 108 e131 [] [P,I] [I,I]
def f33:Fam:=o 2 113 0 0 [(55,(t D 0)),(56,(i 1)),(57,(i 2))] [] [e3,I,I] fun X Y Z=>[⟨(.exit 0),[],[],[]⟩,⟨.ret,e95,[],k e11 B⟩]
def f34:Fam:=o 2 93 2 0 e144 [] [e3,e3,I,I] fun X Y Z=>[⟨.ret,e97,[],k e11 B⟩,⟨(.exit 2),e162,[],h Z [0,1,2]⟩]
def f35:Fam:=o 1 119 0 4 e107 e180 e13 fun X Y Z=>[⟨.ret,e155,e184,h Z [0,1,2,3,4,5,6,7,8,9,10,11]++m [I]⟩]
def f36:Fam:=o 3 86 0 0 [(0,(t K 0)),(1,(t K 1)),(2,(.fn 87 []))] [] [e10,e10] fun X Y Z=>[⟨.ret,e117,[],m [B]⟩]
def f37:Fam:=o 2 155 0 0 e112 [] [e3,I] fun X Y Z=>[⟨.ret,e95,[],k e12 B⟩,⟨(.exit 0),[],[],[]⟩]
def f38:Fam:=o 3 152 0 0 [(0,(t K 0)),(1,(.fn 164 []))] [] [e10] fun X Y Z=>[⟨.ret,e117,[],m [B]⟩]
def f39:Fam:=o 3 90 0 0 [(0,(t F 0)),(1,(t F 1)),(2,(.fn 91 []))] [] [e6,e6] fun X Y Z=>[⟨.ret,e117,[],m [B]⟩]
def f40:Fam:=o 2 50 0 0 e143 [e98] [e3,e3,I,I] fun X Y Z=>[⟨(.exit 0),[(1,(p 0))],Y,h Z [0]⟩,⟨.ret,[(2,(i 0))],[],k (.il 10) I⟩]
def f41:Fam:=a 157 e99 [] [e3] [B]
def f42:Fam:=a 95 [(0,e87),(1,e42)] [] [F,F] [B]
def f43:Fam:=o 2 114 0 0 e115 ([.map S B (v 0),.map S B (v 1)]) ([(L e9),(L e9),e3,I,I]) fun X Y Z=>[⟨.ret,e95,[],k e12 B⟩,⟨(.exit 0),[],[],[]⟩]
def f44:Fam:=o 2 156 0 0 [(0,(t D 0)),(5,(i 1))] [] [e3,I] fun X Y Z=>[⟨(.exit 0),[],[],[]⟩,⟨.ret,e95,[],k e11 B⟩]
def f45:Fam:=o 1 149 0 0 e169 [] [F] fun X Y Z=>[⟨.ret,[(0,(p 0))],[e170,e96,e123,e125],m [e2,e2,e2,S,I,I,e4,e5,I,B,I,B]⟩]
def f46:Fam:=a 160 e131 [] [P,I] [I]
def f47:Fam:=a 165 e148 [] [S] [B]
def f48:Fam:=o 2 93 4 0 [(0,(t D 2)),(1,(t D 3)),(5,(i 4)),(6,(i 5)),(7,(p 0)),(8,(p 1)),(9,(i 6))] ([w 2 K 0,w 2 K 1]) [K,K,e3,e3,I,I,I] fun X Y Z=>[⟨.ret,e97,[],k e11 B⟩,⟨(.exit 4),e144,[],h Z [2,3,4,5]⟩]
def f49:Fam:=a 170 e148 [] [S] [B]
def f50:Fam:=o 2 86 0 0 [(1,(t K 0)),(2,(.fn 87 [])),(15,(t K 1)),(16,(i 2)),(17,(i 3))] [] [e10,e10,I,I] fun X Y Z=>[⟨(.exit 0),[],[],[]⟩,⟨.ret,e118,[],k e11 B⟩]
def f51:Fam:=o 2 155 2 0 e113 [] [e3,I,I] fun X Y Z=>[⟨.ret,e95,[],k e12 B⟩,⟨(.exit 2),e112,[],h Z [0,1]⟩]
def f52:Fam:=o 3 185 0 0 [(0,(t K 0)),(1,(.fn 164 []))] [] [e10] fun X Y Z=>[⟨.ret,[(0,(i 0))],[],m [I]⟩]
def f53:Fam:=a 158 e99 [] [e3] [B]
def f54:Fam:=o 2 108 0 0 [(2,(p 0)),(7,(p 1)),(8,(p 2)),(9,e55),(10,(i 7))] ([w 2 P 3,e149,e153,e88,e89,e125]) [e1,e1,e2,P,F,I,I,I] fun X Y Z=>[⟨(.exit 0),[(2,(p 0)),(7,(p 1)),(8,(p 2)),(9,e55)],Y,h Z [0,1]++m [e2]++h Z [3,4,5,6]⟩]
def f55:Fam:=o 3 152 0 0 [(0,(t K 0)),(1,(.fn 166 []))] [] [e10] fun X Y Z=>[⟨.ret,e117,[],m [B]⟩]
def f56:Fam:=o 2 119 0 4 [(2,(p 7)),(5,(p 8)),(22,(t F 13)),(23,(i 14)),(24,(i 15))] ([e90,d,d,d,e88,e89,e92,y (p 0),w 7 F 12]) [e1,e1,e1,e3,e6,S,I,I,e4,e5,I,B,F,e6,I,I] fun X Y Z=>[⟨.ret,e124,(Y.take 7),h Z [0,1,2,3,4,5,6,7,8,9,10,11]++k (.il 8) I⟩,⟨(.exit 0),[(2,(p 7)),(5,(p 8))],Y,h Z [0,1,2,3,4,5,6,7,8,9,10,11,12]⟩]
def f57:Fam:=o 2 90 0 0 [(1,(t F 0)),(2,(.fn 91 [])),(15,(t F 1)),(16,(i 2)),(17,(i 3))] [] [e6,e6,I,I] fun X Y Z=>[⟨(.exit 0),[],[],[]⟩,⟨.ret,e118,[],k e11 B⟩]
def f58:Fam:=o 2 50 2 0 [(1,(p 0)),(14,(t D 1)),(15,(i 2)),(16,(i 3)),(21,(t K 4)),(22,(i 5)),(23,(i 6))] [e98] [e3,e3,I,I,e10,I,I] fun X Y Z=>[⟨(.exit 2),e143,Y,h Z [0,1,2,3]⟩,⟨.ret,[(2,(i 0))],[],k (.il 10) I⟩]
def f59:Fam:=o 2 157 0 0 e132 ([r S 0,r S 1]) ([(L S),(L S),e3,I]) fun X Y Z=>[⟨(.exit 0),[],[],[]⟩,⟨.ret,e95,[],k e12 B⟩]
def f60:Fam:=o 2 95 0 0 e119 ([w 7 F 0,e126]) [F,F,I] fun X Y Z=>[⟨.ret,e97,[],k e11 B⟩,⟨(.exit 0),[(2,(p 0)),(3,(p 1))],Y,h Z [0,1]⟩]
def f61:Fam:=o 2 114 2 0 [(3,(.map 0)),(4,(.map 1)),(12,(t D 2)),(13,(i 3)),(14,(i 4)),(26,(t K 5)),(27,(i 6)),(28,(i 7))] ([.map S B (v 0),.map S B (v 1)]) ([(L e9),(L e9),e3,I,I,e10,I,I]) fun X Y Z=>[⟨.ret,e95,[],k e12 B⟩,⟨(.exit 2),e115,Y,h Z [0]++m [(L e9)]++h Z [2,3,4]⟩]
def f62:Fam:=a 186 e148 [] [S] [B]
def f63:Fam:=o 2 149 0 0 [(1,(p 0)),(3,(p 1)),(4,(q 5 I 3)),(5,(i 14))] [e149,e138,e96,e123,e125,e137] e21 fun X Y Z=>[⟨(.exit 0),e163,Y,h Z [0]++m [e2]++h Z [2]++m [e2]++h Z [4,5,6,7,8,9,10,11,12,13]⟩]
def f64:Fam:=a 189 e148 [] [S] [B]
def f65:Fam:=o 2 165 0 0 [(0,(s 0)),(23,(i 1)),(24,(i 2))] [] [S,I,I] fun X Y Z=>[⟨.ret,e95,[],k e11 B⟩,⟨(.exit 0),[],[],[]⟩]
def f66:Fam:=a 194 e133 [] ([S,(.int .u8),(.int .u8)]) [B]
def f67:Fam:=a 87 [(0,e53),(1,(.agg (c K 1)))] [] [K,K] [B]
def f68:Fam:=o 2 185 0 0 [(0,(t K 0)),(1,(.fn 164 [])),(7,(i 1)),(8,(i 2))] [] [e10,I,I] fun X Y Z=>[⟨(.exit 0),[],[],[]⟩,⟨.ret,e134,[],m [I]⟩]
def f69:Fam:=a 118 e99 [] [e3] [B]
def f70:Fam:=a 159 e99 [] [e3] [B]
def f71:Fam:=o 2 156 2 0 [(0,(t D 0)),(5,(i 1)),(6,(i 2))] [] [e3,I,I] fun X Y Z=>[⟨.ret,e95,[],k e11 B⟩,⟨(.exit 2),[(0,(t D 0)),(5,(i 1))],[],h Z [0,1]⟩]
def f72:Fam:=o 2 160 0 0 [(1,(i 2)),(2,(p 0)),(5,(p 1)),(6,(i 3))] [e116,e126] [P,F,I,I] fun X Y Z=>[⟨.ret,e134,[],k (.il 8) I⟩,⟨(.exit 0),[(2,(p 0)),(5,(p 1))],Y,h Z [0,1]⟩]
def f73:Fam:=o 2 158 0 0 e112 [] [e3,I] fun X Y Z=>[⟨(.exit 0),[],[],[]⟩,⟨.ret,e95,[],k e11 B⟩]
def f74:Fam:=o 3 185 0 0 [(0,(t K 0)),(1,(.fn 166 []))] [] [e10] fun X Y Z=>[⟨.ret,[(0,(i 0))],[],m [I]⟩]
def f75:Fam:=a 91 [(0,e87),(1,e42)] [] [F,F] [B]
def f76:Fam:=o 1 115 0 1 [(0,(t I 1)),(1,(f 116 [0]))] [e98] [e3,e2] fun X Y Z=>[⟨.ret,e150,Y,h Z [0]++m [B]⟩]
def f77:Fam:=a 187 [(0,(t S 0)),(1,(s 1))] [] ([(L S),S]) [B]
def f78:Fam:=o 2 186 0 0 [(0,(s 0)),(3,(i 1))] [] [S,I] fun X Y Z=>[⟨.ret,e95,[],k e11 B⟩,⟨(.exit 0),e148,[],h Z [0]⟩]
def f79:Fam:=o 2 189 0 0 [(0,(s 0)),(3,(i 1))] [] [S,I] fun X Y Z=>[⟨(.exit 0),e148,[],h Z [0]⟩,⟨.ret,e95,[],m [B]⟩]
def f80:Fam:=a 88 e102 [] [e2,e2] [B]
def f81:Fam:=a 164 [(0,e53)] [] [K] [B]
def f82:Fam:=o 1 161 0 4 [(0,(p 0)),(1,(.agg (c P 5))),(2,(.agg (c F 6))),(3,(i 7)),(4,e54)] [e164,e88,e89,e125] [e1,e1,e2,I,I,P,F,I] fun X Y Z=>[⟨.ret,e135,[e91,d,d,e96,e89,e92],h Z [2]++m [e1,e1,I,I]⟩]
def f83:Fam:=o 1 171 0 4 e107 e180 e13 fun X Y Z=>[⟨.ret,e108,Y,h Z [0,1,2,3,4,5,6,7,8,9,10,11]++m [B]⟩]
def f84:Fam:=o 2 95 2 0 [(2,(p 0)),(3,(p 1)),(6,(i 2))] ([w 7 F 0,e126]) [F,F,I] fun X Y Z=>[⟨(.exit 2),[],[],[]⟩,⟨.ret,e97,[],k e11 B⟩]
def f85:Fam:=o 2 149 2 0 [(1,(p 0)),(3,(p 1)),(4,(q 5 I 3)),(6,(i 14))] [e149,e138,e96,e123,e125,e137] e21 fun X Y Z=>[⟨(.exit 2),e163,Y,m [e2]++h Z [1,2,3,4,5,6,7,8,9,10,11,12,13]⟩]
def f86:Fam:=o 2 157 2 0 [(0,(t D 2)),(3,(q 0 S 0)),(4,(q 1 S 1)),(5,(i 3)),(6,(i 4))] ([r S 0,r S 1]) ([(L S),(L S),e3,I,I]) fun X Y Z=>[⟨.ret,e95,[],k e12 B⟩,⟨(.exit 2),e132,Y,h Z [0]++m [(L S)]++h Z [2,3]⟩]
def f87:Fam:=o 2 118 0 0 e171 e187 [e1,e3,B] fun X Y Z=>[⟨(.exit 0),[(3,(p 0))],Y,m [e1]⟩]
def f88:Fam:=o 2 159 0 0 [(0,(t D 1)),(3,e50),(4,(i 2))] [e88] [e1,e3,I] fun X Y Z=>[⟨(.exit 0),[(3,e50)],Y,m [e1]⟩]
def f89:Fam:=o 2 158 2 0 e113 [] [e3,I,I] fun X Y Z=>[⟨(.exit 2),e112,[],h Z [0,1]⟩,⟨.ret,e95,[],k e11 B⟩]
def f90:Fam:=o 2 185 0 0 [(0,(t K 0)),(1,(.fn 166 [])),(7,(i 1)),(8,(i 2))] [] [e10,I,I] fun X Y Z=>[⟨(.exit 0),[],[],[]⟩,⟨.ret,e134,[],m [I]⟩]
def f91:Fam:=a 34 e169 [] [F] [F,I]
def f92:Fam:=o 1 167 0 1 [(0,(t I 1)),(1,(f 116 [0]))] [e98] [e3,e2] fun X Y Z=>[⟨.ret,[(0,(i 1))],Y,h Z [0]++m [I]⟩]
def f93:Fam:=o 2 187 0 0 [(0,(t S 0)),(1,(s 1)),(5,(i 2))] [] ([(L S),S,I]) fun X Y Z=>[⟨.ret,e97,[],k e12 B⟩,⟨(.exit 0),[],[],[]⟩]
def f94:Fam:=a 203 e133 [] ([S,(.int .u8),(.int .u8)]) [B]
def f95:Fam:=o 2 88 0 0 e140 [] [e2,e2,I,I] fun X Y Z=>[⟨.ret,e97,[],k e11 B⟩,⟨(.exit 0),[],[],[]⟩]
def f96:Fam:=o 2 51 0 0 [(6,(p 0)),(7,(p 1)),(61,(i 13)),(62,(i 14))] ([e165,g 12 C e73,e88,e89,e92]) [e1,e1,e1,F,e3,e6,S,I,I,e4,e5,I,B,I,I] fun X Y Z=>[⟨(.exit 0),[(6,(p 0)),(7,(p 1))],Y,h Z [0]++m [e1,e1]++h Z [3,4,5,6,7,8,9,10,11,12]⟩]
def f97:Fam:=a 190 e131 [] [P,I] [B]
def f98:Fam:=a 92 [(0,e87),(1,e42)] [] [F,F] [B]
def f99:Fam:=o 1 192 0 4 [(0,(p 0)),(1,(.agg (c P 5))),(2,(.agg (c F 6))),(3,(.agg (c N 7))),(4,e54)] [e164,e88,e89,e125] [e1,e1,e2,I,I,P,F,N] fun X Y Z=>[⟨.ret,[(0,(i 5))],[e91,d,d,e96,e89,e92],h Z [2,0]++m [e1]++h Z [3,4]++m [I]⟩]
def f100:Fam:=a 151 [(0,e86),(1,(.agg (c N 1)))] [] [N,N] [B]
def f101:Fam:=o 2 118 2 0 [(0,(t D 1)),(3,(p 0)),(4,(b 2)),(15,(i 3)),(16,(i 4))] e187 [e1,e3,B,I,I] fun X Y Z=>[⟨(.exit 2),e171,Y,m [e1]++h Z [1]++m [B]⟩]
def f102:Fam:=o 2 159 2 0 e154 [e88] [e1,e3,I,I] fun X Y Z=>[⟨(.exit 2),[(0,(t D 1)),(3,e50),(4,(i 2))],Y,m [e1]++h Z [1,2]⟩]
def f103:Fam:=o 2 158 4 0 [(0,(t D 0)),(3,(i 1)),(4,(i 2)),(5,(t I 3)),(6,(i 4))] [] [e3,I,I,e2,I] fun X Y Z=>[⟨(.exit 4),e113,[],h Z [0,1,2]⟩,⟨.ret,e95,[],k e11 B⟩]
def f104:Fam:=a 166 [(0,e53)] [] [K] [B]
def f105:Fam:=a 59 e169 [] [F] [e2,e2,B]
def f106:Fam:=o 2 167 0 1 [(0,(t I 1)),(1,(f 116 [0])),(7,(i 2)),(8,(i 3))] [e98] [e3,e2,I,I] fun X Y Z=>[⟨(.exit 0),[],Y,h Z [0]⟩,⟨.ret,[(4,(i 1))],Y,h Z [0]++m [I]⟩]
def f107:Fam:=o 2 203 0 0 [(0,(s 0)),(7,(i 1))] [] [S,I] fun X Y Z=>[⟨(.exit 0),[],[],[]⟩,⟨.ret,e118,[],k e11 B⟩]
def f108:Fam:=o 1 172 0 5 [(0,(t V 12)),(1,(f 173 [0]))] e182 e15 fun X Y Z=>[⟨.ret,e108,e179,h Z [0,1,2,3,4,5,6,7,8,9,10,11]++m [B]⟩]
def f109:Fam:=o 1 183 0 5 [(0,(p 0)),(1,(i 13)),(2,(q 4 I 3))] ([g 12 Qhy [(s 4),(i 5),(i 6),(t V 7),(t N 8),(i 9),(b 10),e34,e43,e54,(i 11),(b 12)],e96,e123,e125,e137]) [e2,e2,e2,e2,S,I,I,e4,e5,I,B,I,B,I] fun X Y Z=>[⟨.ret,e135,[e114,d,d,d,e96,e123,e125,e137],h Z [3]++m [e2,e2,e2]++h Z [4,5,6,7,8,9,10]++m [I,B]⟩]
def f110:Fam:=o 2 160 2 0 [(2,(p 0)),(5,(p 1)),(7,(i 2))] [e116,e126] [P,F,I] fun X Y Z=>[⟨.ret,e134,[],k (.il 10) I⟩,⟨(.exit 2),[(2,(p 0)),(5,(p 1))],Y,h Z [0,1]⟩]
def f111:Fam:=a 122 [(0,(t B 0)),(1,(b 1))] [] [e1,B] [B]
def f112:Fam:=o 2 159 8 0 [(3,e50),(10,(i 1))] [e88] [e1,I] fun X Y Z=>[⟨.ret,e95,[],k e11 B⟩,⟨(.exit 8),[],[],[]⟩]
def f113:Fam:=o 2 34 0 0 [(1,(p 0)),(2,(p 1)),(4,(t I 15)),(7,(p 4)),(44,(t I 16)),(45,(i 17)),(46,(i 18))] e190 [e4,e5,e4,e5,F,S,I,I,I,B,S,I,I,I,B,e2,e2,I,I] fun X Y Z=>[⟨(.exit 0),[(1,(p 0)),(2,(p 1)),(4,(t I 15)),(7,(p 4))],Y,h Z [0,1]++m [e4]++h Z [3,4,5,6,7,8,9,10,11,12,13,14,15]⟩]
def f114:Fam:=a 147 [(0,(t V 0)),(1,(t V 1))] [] [e4,e4] [B]
def f115:Fam:=a 204 e145 [] [N] [B]
def f116:Fam:=a 58 e102 [] [e2,e2] [B]
def f117:Fam:=o 1 152 0 2 [(0,(t K 1)),(1,(f 168 [0]))] e187 [e1,e10] fun X Y Z=>[⟨.ret,e150,e188,h Z [0]++m [B]⟩]
def f118:Fam:=o 2 159 4 0 [(0,(t D 1)),(3,e50),(4,(i 2)),(5,(i 3)),(6,(i 4))] [e88] [e1,e3,I,I,I] fun X Y Z=>[⟨(.exit 4),e154,Y,m [e1]++h Z [1,2,3]⟩]
def f119:Fam:=a 188 e105 [] [e3,I] [B]
def f120:Fam:=o 2 59 0 0 [(1,(p 0)),(5,(p 1)),(6,(p 3)),(7,(p 5)),(8,(p 7)),(9,(p 9)),(42,(i 6)),(43,(i 7))] ([e141,x 2 I 0,e96,x 4 I 1,e123,x 6 B 2,e92,x 8 B 3,r B 3,x 10 B 4,r B 4]) [e2,e2,e1,e1,e1,F,I,I] fun X Y Z=>[⟨(.exit 0),[(1,(p 0)),(5,(p 1)),(6,(p 3)),(7,(p 5)),(8,(p 7)),(9,(p 9))],Y,h Z [0,1,2]++m [e1,e1]++h Z [5]⟩]
def f121:Fam:=o 1 116 0 1 [(0,(i 1)),(1,(p 0))] [e98] [e3,I] fun X Y Z=>[⟨.ret,e150,Y,h Z [0]++m [B]⟩]
def f122:Fam:=a 215 [(0,(.ii .u8 (v 0)))] [] ([(.int .u8)]) [B]
def f123:Fam:=o 1 120 0 4 e107 e180 e13 fun X Y Z=>[⟨.ret,[(0,(.tup [(i 12),(i 13)]))],e184,m [e1,e1,e1]++h Z [3,4,5,6,7,8,9,10,11]++m [I,I]⟩]
def f124:Fam:=o 2 94 0 0 [(1,(p 0)),(2,(p 1)),(4,(p 4)),(5,(p 8)),(6,(i 27))] e186 e14 fun X Y Z=>[⟨(.exit 0),[(1,(p 0)),(2,(p 1)),(4,(p 4)),(5,(p 8))],Y,h Z [0,1,2,3,4]++m [e4]++h Z [6,7,8,9,10,11,12,13,14,15,16,17,18,19,20,21,22,23,24,25,26]⟩]
def f125:Fam:=o 3 148 0 0 [(0,(t N 0)),(1,(t N 1)),(2,(.fn 143 []))] [] [e5,e5] fun X Y Z=>[⟨.ret,e117,[],m [B]⟩]
def f126:Fam:=a 200 e145 [] [N] [e2]
def f127:Fam:=o 2 151 0 0 e119 ([w 10 N 0,w 10 N 1]) [N,N,I] fun X Y Z=>[⟨.ret,e97,[],k e11 B⟩,⟨(.exit 0),[],[],[]⟩]
def f128:Fam:=o 1 195 0 5 [(0,(t V 12)),(1,(f 173 [0]))] e182 e15 fun X Y Z=>[⟨.ret,e155,e179,h Z [0,1,2,3,4,5,6,7,8,9,10,11]++m [I]⟩]
def f129:Fam:=o 2 183 0 5 [(0,(p 0)),(2,(q 4 I 0)),(6,(p 8)),(7,(t I 14)),(8,(i 15))] e192 e19 fun X Y Z=>[⟨(.exit 0),[(0,(p 0)),(2,(q 4 I 0)),(6,(p 8))],Y,h Z [0,1,2,3,4,5,6,7,8,9,10,11]++m [B]++h Z [13]⟩]
def f130:Fam:=a 121 [(0,(t B 0)),(1,(b 1))] [] [e1,B] [I]
def f131:Fam:=o 2 147 0 0 [(0,(t V 0)),(1,(t V 1)),(12,(i 2)),(13,(i 3))] [] [e4,e4,I,I] fun X Y Z=>[⟨.ret,e97,[],k e11 B⟩,⟨(.exit 0),[],[],[]⟩]
def f132:Fam:=o 2 58 0 0 [(0,(t I 0)),(1,(t I 1)),(5,(i 2))] [] [e2,e2,I] fun X Y Z=>[⟨.ret,e97,[],k e11 B⟩,⟨(.exit 0),[],[],[]⟩]
def f133:Fam:=o 1 185 0 2 [(0,(t K 1)),(1,(f 168 [0]))] e187 [e1,e10] fun X Y Z=>[⟨.ret,[(0,(i 1))],e188,h Z [0]++m [I]⟩]
def f134:Fam:=o 2 159 6 0 [(0,(t D 1)),(3,e50),(4,(i 2)),(5,(i 3)),(6,(i 4)),(7,(b 5)),(8,(t I 6)),(9,(i 7))] [e88] [e1,e3,I,I,I,B,e2,I] fun X Y Z=>[⟨(.exit 6),[(0,(t D 1)),(3,e50),(4,(i 2)),(5,(i 3)),(6,(i 4)),(7,(b 5))],Y,h Z [0,1,2,3,4]++m [B]⟩]
def f135:Fam:=a 117 e105 [] [e3,I] [B]
def f136:Fam:=o 2 160 4 0 [(2,(p 0)),(5,(p 1)),(8,(i 2))] [e116,e126] [P,F,I] fun X Y Z=>[⟨(.exit 4),[],[],[]⟩,⟨.ret,e134,[],k (.il 11) I⟩]
def f137:Fam:=a 57 e169 [] [F] [e2,e2,I]
def f138:Fam:=o 2 192 0 4 [(0,(p 0)),(4,(q 3 I 0)),(6,(p 6)),(7,(p 7)),(8,(p 8)),(11,(t I 8)),(12,(i 9))] e181 e16 fun X Y Z=>[⟨(.exit 0),[(0,(p 0)),(6,(p 6)),(7,(p 7)),(8,(p 8))],Y,h Z [0,1,2,3,4,5,6,7]⟩,⟨.ret,[(10,(i 5))],(Y.take 6),h Z [0,1,2,3,4]++k (.il 9) I⟩]
def f139:Fam:=o 1 127 0 3 [(0,(i 2)),(1,(p 0)),(2,(p 1))] [e126,e127,e88] [e1,F,I] fun X Y Z=>[⟨.ret,[(0,(b 2))],Y,m [e1]++h Z [1]++m [B]⟩]
def f140:Fam:=o 1 175 0 4 [(0,(p 0)),(1,(.agg (c N 12)))] e180 [e1,e1,e1,e3,e6,S,I,I,e4,e5,I,B,N] fun X Y Z=>[⟨.ret,e155,e184,h Z [0]++m [e1]++h Z [2,3,4,5,6,7,8,9,10,11]++m [I]⟩]
def f141:Fam:=o 2 148 0 0 [(1,(t N 0)),(2,(.fn 143 [])),(15,(t N 1)),(16,(i 2)),(17,(i 3))] [] [e5,e5,I,I] fun X Y Z=>[⟨(.exit 0),[],[],[]⟩,⟨.ret,e118,[],k e11 B⟩]
def f142:Fam:=o 2 200 0 0 e128 e194 [e2,N,I] fun X Y Z=>[⟨(.exit 0),[(1,(p 0)),(3,e34)],Y,m [e2]++h Z [1]⟩]
def f143:Fam:=o 2 195 0 5 [(0,(t V 12)),(1,(f 173 [0])),(7,(i 13)),(8,(i 14))] e179 e20 fun X Y Z=>[⟨(.exit 0),[],Y,h Z [0,1,2,3,4,5,6,7,8,9,10,11]⟩,⟨.ret,e124,Y,h Z [0,1,2,3,4,5,6,7,8,9,10,11]++m [I]⟩]
def f144:Fam:=a 201 [(0,(t I 0)),(1,(i 1))] [] [e2,I] [B]
def f145:Fam:=o 2 121 0 0 [(0,(t B 0)),(1,(b 1)),(7,(i 2)),(8,(i 3))] [] [e1,B,I,I] fun X Y Z=>[⟨.ret,e134,[],m [I]⟩,⟨(.exit 0),[],[],[]⟩]
def f146:Fam:=o 2 185 0 2 [(0,(t K 1)),(1,(f 168 [0])),(7,(i 2)),(8,(i 3))] e188 [e1,e10,I,I] fun X Y Z=>[⟨(.exit 0),[],Y,h Z [0]⟩,⟨.ret,[(4,(i 1))],Y,h Z [0]++m [I]⟩]
def f147:Fam:=o 2 94 2 0 e130 e186 e14 fun X Y Z=>[⟨(.exit 2),[(2,(p 0)),(5,(p 3))],e185,h Z [0,1,5]++m [e5]++h Z [8,9,10,11,12,22,23,24,25,26]⟩]
def f148:Fam:=o 2 34 2 0 [(1,(p 0)),(2,(p 1)),(7,(p 4)),(10,(t I 15)),(13,(t I 16)),(68,(t I 17)),(69,(i 18)),(70,(i 19))] e190 [e4,e5,e4,e5,F,S,I,I,I,B,S,I,I,I,B,e2,e2,e2,I,I] fun X Y Z=>[⟨(.exit 2),[(2,(p 0)),(7,(p 3))],e185,h Z [0,1,2]++m [e5]++h Z [5,6,7,8,9,10,11,12,13,14]⟩]
def f149:Fam:=a 55 e145 [] [N] [e2]
def f150:Fam:=a 191 e105 [] [e3,I] [B]
def f151:Fam:=o 2 57 0 0 [(1,(p 0)),(5,(t I 3)),(6,(t I 4)),(8,e34),(9,e43),(33,(i 5)),(34,(i 6))] e193 [e2,e2,F,e2,e2,I,I] fun X Y Z=>[⟨(.exit 0),e136,Y,m [e2]++h Z [1,2,3,4]⟩]
def f152:Fam:=a 205 [(0,(t I 0)),(1,(i 1))] [] [e2,I] [B]
def f153:Fam:=a 196 e145 [] [N] [B]
def f154:Fam:=a 143 [(0,e86),(1,(.agg (c N 1)))] [] [N,N] [B]
def f155:Fam:=o 1 173 0 5 [(0,(.agg (c V 12))),(1,(p 0))] e182 [e1,e1,e1,e3,e6,S,I,I,e4,e5,I,B,V] fun X Y Z=>[⟨.ret,e108,Y,h Z [0,1,2,3,4,5,6,7,8,9,10,11]++m [B]⟩]
def f156:Fam:=o 2 201 0 0 e172 [] [e2,I,I] fun X Y Z=>[⟨.ret,e97,[],k e12 B⟩,⟨(.exit 0),[],[],[]⟩]
def f157:Fam:=o 1 168 0 2 [(0,(.agg (c K 1))),(1,(p 0))] e187 [e1,K] fun X Y Z=>[⟨.ret,e150,e188,h Z [0]++m [B]⟩]
def f158:Fam:=a 54 e145 [] [N] [e2]
def f159:Fam:=o 1 130 0 16 [(0,(i 7)),(1,(p 0)),(2,(p 1)),(3,(p 3)),(4,(p 5)),(5,(p 6)),(6,(p 9)),(7,(p 14)),(8,(p 15))] ([e141,x 2 I 0,e96,x 4 B 1,e89,e146,y e41,x 8 B 2,e92,y e30,x 11 B 3,r B 3,x 13 I 4,r I 4,y e25,y e48]) [e2,e1,e1,e1,e2,F,B,I] fun X Y Z=>[⟨.ret,e135,[e141,e173,d,e174,d,e146,y e41,e175,d,y e30,e176,d,e177,d,y e25,y e48,e96,e89,e92,r B 3,r I 4],m [e2,e1,e1,e1,e2]++h Z [5]++m [B]⟩]
def f160:Fam:=o 2 183 2 5 [(0,(p 0)),(2,(q 4 I 0)),(6,(p 8)),(9,(t I 14)),(10,(i 15))] e192 e19 fun X Y Z=>[⟨(.exit 2),[],(Y.take 8),h Z [0]++m [e2,e2,e2]++h Z [4,5,6,7,8,9,10]++m [I,B]⟩]
def f161:Fam:=o 2 200 2 0 [(1,(p 0)),(3,e34),(5,(i 2))] e194 [e2,N,I] fun X Y Z=>[⟨(.exit 2),[(3,e38)],[e96],m [e2]⟩]
def f162:Fam:=a 131 e145 [] [N] [e2]
def f163:Fam:=a 150 [(0,e86),(1,(t I 1)),(2,(t I 2))] [] [N,e2,e2] [N]
def f164:Fam:=a 76 e102 [] [e2,e2] [e2]
def f165:Fam:=o 2 34 4 0 [(1,(p 0)),(2,(p 1)),(7,(p 4)),(10,(t I 25)),(13,(t I 26)),(16,(p 7)),(68,(t I 27)),(69,(i 28)),(70,(i 29)),(138,(t R 30)),(139,(i 31)),(140,(i 32))] ([e141,g 7 F e81,e94,e93,g 7 F e77,e104,e101,g 10 N e74,.rows 2 R (v 4)]) [e4,e5,e4,e5,e8,F,S,I,I,I,B,S,I,I,I,B,I,I,e2,I,I,I,e2,B,I,e2,e2,e2,I,I,e8,I,I] fun X Y Z=>[⟨(.exit 4),[(1,(p 0)),(2,(p 1)),(7,(p 4)),(10,(t I 25)),(13,(t I 26)),(16,(p 7)),(68,(t I 27)),(69,(i 28)),(70,(i 29))],Y,h Z [0,1,2,3]++m [e8]++h Z [5,6,7,8,9,10,11,12,13,14,15,16,17,18,19,20,21,22,23,24,25,26,27,28,29]⟩]
def f166:Fam:=a 96 e145 [] [N] [e2]
def f167:Fam:=o 2 55 1 0 e128 e194 [e2,N,I] fun X Y Z=>[⟨(.exit 1),[(3,e38)],[e96],m [e2]⟩]
def f168:Fam:=o 2 191 0 0 [(0,(t D 0)),(1,(i 1)),(5,(i 2))] [] [e3,I,I] fun X Y Z=>[⟨.ret,e97,[],k e11 B⟩,⟨(.exit 0),[],[],[]⟩]
def f169:Fam:=o 2 205 0 0 e172 [] [e2,I,I] fun X Y Z=>[⟨.ret,e97,[],k e12 B⟩,⟨(.exit 0),[],[],[]⟩]
def f170:Fam:=a 136 [(0,(i 0))] [] [I] [QFq,B]
def f171:Fam:=a 144 e102 [] [e2,e2] [B]
def f172:Fam:=o 1 115 0 2 [(0,(t I 1)),(1,(f 169 [0]))] e187 [e1,e2] fun X Y Z=>[⟨.ret,e150,e188,h Z [0]++m [B]⟩]
def f173:Fam:=o 2 192 2 4 [(0,(p 0)),(6,(p 6)),(7,(p 7)),(8,(p 8)),(13,(t I 8)),(14,(i 9))] e181 e16 fun X Y Z=>[⟨.ret,[(10,(i 5))],(Y.take 6),h Z [0,1,2,3,4]++k (.il 2) I⟩,⟨(.exit 2),[(0,(p 0)),(6,(p 6)),(7,(p 7)),(8,(p 8)),(13,(t I 8))],Y,h Z [0,1,2,3,4,5,6,7,8]⟩]
def f174:Fam:=o 2 57 2 0 [(1,(p 0)),(5,(t I 3)),(6,(t I 4)),(8,e34),(9,e43),(42,(i 5)),(43,(i 6))] e193 [e2,e2,F,e2,e2,I,I] fun X Y Z=>[⟨(.exit 2),e136,Y,h Z [0]++m [e2]++h Z [2,3,4]⟩]
def f175:Fam:=o 2 175 0 4 [(0,(p 0)),(3,(p 7)),(18,(t I 13)),(19,(i 14)),(20,(i 15))] e178 e17 fun X Y Z=>[⟨.ret,e124,(Y.take 7),h Z [0,1,2,3,4,5,6,7,8,9,10,11]++k (.il 9) I⟩,⟨(.exit 0),[(0,(p 0)),(3,(p 7))],Y,h Z [0,1,2,3,4,5,6,7,8,9,10,11,12]⟩]
def f176:Fam:=o 2 94 2 0 e130 ([w 7 F 7,g 7 F e69,e94,e93,e139,.ro 1 I (v 2),.ro 1 I (v 3),r I 4,g 7 F e65,e156,e151]) e14 fun X Y Z=>[⟨(.exit 2),[(2,(p 0)),(5,(p 3))],e185,h Z [0,1,5]++m [e5]++h Z [8,9,10,11,12,22,23,24,25,26]⟩]
def f177:Fam:=a 78 e145 [] [N] [e2]
def f178:Fam:=o 3 145 0 0 [(0,(t R 0)),(1,(t R 1)),(2,(.fn 146 []))] [] [e8,e8] fun X Y Z=>[⟨.ret,e117,[],m [B]⟩]
def f179:Fam:=o 2 54 1 0 e128 e194 [e2,N,I] fun X Y Z=>[⟨(.exit 1),[(3,e38)],[e96],m [e2]⟩]
def f180:Fam:=o 2 130 0 16 [(1,(p 0)),(3,(p 3)),(4,(p 5)),(5,(p 6)),(6,(p 9)),(7,(p 14)),(8,(p 15)),(10,(p 21)),(26,(t I 8)),(27,(i 9)),(28,(i 10))] e183 [e2,e1,e1,e1,e2,F,B,N,e2,I,I] fun X Y Z=>[⟨.ret,[],(Y.take 21),h Z [0,1,2,3,4,5]++k e11 B⟩,⟨(.exit 0),[(4,(p 5)),(5,(p 6)),(6,(p 9)),(7,(p 14)),(8,(p 15)),(10,(p 21))],Y,h Z [0,1,2,3,4,5,6,7]⟩]
def f181:Fam:=o 2 183 4 5 [(0,(p 0)),(2,(q 4 I 0)),(6,(p 8)),(9,(t I 15)),(10,(i 16)),(11,(t I 17)),(12,(q 9 I 4)),(13,(i 18))] ([g 12 Qhy e75,d,d,d,e96,e123,e125,e137,w 10 N 14,r I 4]) [e2,e2,e2,e2,e2,S,I,I,e4,e5,I,B,I,B,N,e2,I,e2,I] fun X Y Z=>[⟨(.exit 4),[(0,(p 0)),(2,(q 4 I 0)),(6,(p 8)),(9,(t I 15)),(10,(i 16)),(12,(q 9 I 4))],Y,h Z [0,1]++m [e2]++h Z [3]++m [e2]++h Z [5,6,7,8,9,10,11]++m [I,B]++h Z [14,15,16]⟩]
def f182:Fam:=o 2 131 0 0 [(5,e38),(32,(q 1 I 1)),(33,(i 2)),(34,(i 3))] [e96,e123] [e2,e2,I,I] fun X Y Z=>[⟨(.exit 0),[(5,e38)],(Y.take 1),m [e2]⟩]
def f183:Fam:=a 184 e102 [] [e2,e2] [e2]
def f184:Fam:=o 2 150 0 0 [(1,(t I 21)),(2,(t I 22)),(3,(p 0)),(6,(p 1)),(7,(p 5)),(10,(i 23))] ([w 10 N 4,g 10 N [(i 5),(i 6),(q 2 I 0),(i 7),(i 8),(i 9),(q 3 I 1),(b 10),(q 4 R 2),(i 11)],e96,e123,.rows 2 R (v 2),g 10 N [(i 12),(i 13),(t I 14),(i 15),(i 16),(i 17),(t I 18),(b 19),(q 6 R 3),(i 20)],e158]) [e2,e2,e8,e8,N,I,I,I,I,I,B,I,I,I,e2,I,I,I,e2,B,I,e2,e2,I] fun X Y Z=>[⟨(.exit 0),[(6,(p 0)),(7,(p 4))],[g 10 N [(i 4),(i 5),e34,(i 6),(i 7),(i 8),e43,(b 9),(q 3 R 2),(i 10)],e96,e123,.rows 2 R (v 2),g 10 N [(i 11),(i 12),(t I 13),(i 14),(i 15),(i 16),(t I 17),(b 18),(q 5 R 3),(i 19)],e158],h Z [0,1,2]++m [e8]++h Z [5,6,7,8,9,10,11,12,13,14,15,16,17,18,19,20]⟩]
def f185:Fam:=o 2 76 0 0 [(0,(t I 1)),(5,e38),(8,(t I 2)),(9,(i 3)),(10,(i 4))] [e96] [e2,e2,e2,I,I] fun X Y Z=>[⟨(.exit 0),[(5,e38)],Y,m [e2]⟩]
def f186:Fam:=o 2 96 0 0 e147 [e96] [e2,e8,I,I] fun X Y Z=>[⟨(.exit 0),[(5,e38)],Y,m [e2]⟩]
def f187:Fam:=o 3 178 0 0 [] [] [] fun X Y Z=>[⟨.ret,[(0,(.agg [(i 0),(b 1),(b 2),(b 3),(b 4),(b 5),(b 6),(b 7),(b 8),(i 9),(b 10),(b 11),(b 12),(b 13),(b 14),(b 15),(b 16),(b 17),(i 18),(b 19),(b 20),(b 21),(b 22),(b 23),(b 24),(b 25),(b 26),(i 27),(b 28),(b 29),(b 30),(b 31),(b 32),(b 33),(b 34),(b 35),(i 36),(b 37),(b 38),(b 39),(b 40),(b 41),(b 42),(b 43),(b 44),(i 45),(b 46),(b 47),(b 48),(b 49),(b 50),(b 51),(b 52),(b 53),(i 54),(b 55),(b 56),(b 57),(b 58),(b 59),(b 60),(b 61),(b 62),(i 63),(b 64),(b 65),(b 66),(b 67),(b 68),(b 69),(b 70),(b 71),(i 72),(b 73),(b 74),(b 75),(b 76),(b 77),(b 78),(b 79),(b 80),(i 81),(b 82),(b 83),(b 84),(b 85),(b 86),(b 87),(b 88),(b 89)]))],[],k (.il 1) I++k e11 B++k e11 B++k e11 B++k e11 B++k e11 B++k e11 B++k e11 B++k e11 B++k (.il 0) I++k e12 B++k e11 B++k e12 B++k e11 B++k e11 B++k e11 B++k e12 B++k e11 B++k (.il 2) I++k e12 B++k e11 B++k e12 B++k e11 B++k e11 B++k e11 B++k e12 B++k e11 B++k (.il (-1)) I++k e12 B++k e12 B++k e11 B++k e11 B++k e11 B++k e11 B++k e12 B++k e11 B++k (.il 1) I++k e12 B++k e11 B++k e11 B++k e11 B++k e11 B++k e11 B++k e12 B++k e11 B++k (.il 1) I++k e11 B++k e11 B++k e11 B++k e11 B++k e11 B++k e11 B++k e12 B++k e11 B++k (.il (-1)) I++k e12 B++k e11 B++k e11 B++k e12 B++k e11 B++k e11 B++k e12 B++k e11 B++k (.il (-1)) I++k e11 B++k e11 B++k e11 B++k e12 B++k e11 B++k e11 B++k e11 B++k e11 B++k (.il (-1)) I++k e11 B++k e12 B++k e12 B++k e12 B++k e12 B++k e11 B++k e11 B++k e11 B++k (.il 1) I++k e11 B++k e11 B++k e11 B++k e11 B++k e11 B++k e12 B++k e11 B++k e12 B⟩]
def f188:Fam:=o 2 144 0 0 e140 [] [e2,e2,I,I] fun X Y Z=>[⟨.ret,e97,[],k e11 B⟩,⟨(.exit 0),[],[],[]⟩]
def f189:Fam:=o 1 167 0 2 [(0,(t I 1)),(1,(f 169 [0]))] e187 [e1,e2] fun X Y Z=>[⟨.ret,[(0,(i 1))],e188,h Z [0]++m [I]⟩]
def f190:Fam:=o 1 172 0 5 [(0,(t V 12)),(1,(f 174 [0]))] e182 e15 fun X Y Z=>[⟨.ret,e108,e179,h Z [0,1,2,3,4,5,6,7,8,9,10,11]++m [B]⟩]
def f191:Fam:=o 2 161 0 4 [(0,(p 0)),(4,(q 3 I 0)),(6,(p 6)),(7,(p 7)),(10,(p 8)),(11,(t I 8)),(12,(i 9))] e181 e16 fun X Y Z=>[⟨.ret,[],(Y.take 6),h Z [0]++m [e1]++h Z [2,3]++k (.il 3) I⟩,⟨(.exit 0),[(0,(p 0)),(4,(q 3 I 0)),(6,(p 6)),(7,(p 7)),(10,(p 8)),(11,(t I 8))],Y,h Z [0]++m [e1]++h Z [2,3,4,5,6,7,8]⟩]
def f192:Fam:=a 97 [(0,(t R 0))] [] [e8] [e8]
def f193:Fam:=o 2 78 0 0 e147 [e96] [e2,e8,I,I] fun X Y Z=>[⟨(.exit 0),[(5,e38)],Y,m [e2]⟩]
def f194:Fam:=o 2 145 0 0 [(1,(t R 0)),(2,(.fn 146 [])),(15,(t R 1)),(16,(i 2)),(17,(i 3))] [] [e8,e8,I,I] fun X Y Z=>[⟨(.exit 0),[],[],[]⟩,⟨.ret,e118,[],k e11 B⟩]
def f195:Fam:=o 1 202 0 4 e107 [e170,e96,e123,e125] [e2,e2,e2,S,I,I,e4,e5,I,B,I,B,I] fun X Y Z=>[⟨.ret,e135,Y,h Z [0]++m [e2]++h Z [2,3,4,5,6,7,8,9]++m [I,B]⟩]
def f196:Fam:=o 2 184 0 0 [(0,(t I 1)),(1,(t I 2)),(5,e38),(6,(i 3))] [e96] [e2,e2,e2,I] fun X Y Z=>[⟨(.exit 0),[(5,e38)],Y,m [e2]⟩]
def f197:Fam:=o 2 167 0 2 [(0,(t I 1)),(1,(f 169 [0])),(7,(i 2)),(8,(i 3))] e188 [e1,e2,I,I] fun X Y Z=>[⟨(.exit 0),[],Y,h Z [0]⟩,⟨.ret,[(4,(i 1))],Y,h Z [0]++m [I]⟩]
def f198:Fam:=o 2 108 2 0 [(7,(p 0)),(8,(p 1)),(11,(i 5))] e196 [e1,e1,F,I,I,I] fun X Y Z=>[⟨.ret,[(4,(i 0)),(5,(i 1))],[],m [I]++k (.il 3) I⟩,⟨(.exit 2),[(7,(p 0)),(8,(p 1))],Y,h Z [0,1,2,3,4]⟩]
def f199:Fam:=o 2 192 4 4 [(0,(p 0)),(6,(p 6)),(7,(p 7)),(8,(p 8)),(13,(t I 8)),(15,(i 9))] e181 e16 fun X Y Z=>[⟨.ret,[(10,(i 5))],(Y.take 6),h Z [0,1]++m [e1]++h Z [3,4]++k (.il 8) I⟩,⟨(.exit 4),[(6,(p 6)),(7,(p 7)),(8,(p 8))],Y,h Z [0,1]++m [e1]++h Z [3,4,5,6,7]⟩]
def f200:Fam:=o 2 57 4 0 [(1,(p 0)),(6,(t I 3)),(8,e34),(9,e43),(58,(t I 4)),(59,(i 5)),(60,(i 6))] e193 [e2,e2,F,e2,e2,I,I] fun X Y Z=>[⟨(.exit 4),[(1,(p 0)),(6,(t I 3)),(8,e34),(9,e43)],Y,m [e2]++h Z [1,2,3]⟩]
def f201:Fam:=o 2 175 2 4 [(0,(p 0)),(3,(p 7)),(7,(t I 13)),(48,(t I 14)),(49,(i 15)),(50,(i 16))] e178 e18 fun X Y Z=>[⟨.ret,e124,(Y.take 7),h Z [0,1,2,3,4,5,6,7,8,9,10,11]++k (.il 2) I⟩,⟨(.exit 2),e168,Y,h Z [0,1,2,3,4,5,6,7,8,9,10,11,12,13]⟩]
def f202:Fam:=o 2 130 2 16 [(4,(p 5)),(5,(p 6)),(6,(p 9)),(7,(p 14)),(8,(p 15)),(10,(p 21)),(50,(t I 8)),(51,(i 9)),(52,(i 10))] e183 [e2,e1,e1,e1,e2,F,B,N,e2,I,I] fun X Y Z=>[⟨.ret,[],(Y.take 21),m [e2,e1,e1,e1,e2]++h Z [5]++m [B]⟩,⟨(.exit 2),[],(Y.take 21),m [e2,e1,e1,e1,e2]++h Z [5]++m [B]⟩]
def f203:Fam:=o 1 195 0 5 [(0,(t V 12)),(1,(f 174 [0]))] e182 e15 fun X Y Z=>[⟨.ret,e155,e179,h Z [0,1,2,3,4,5,6,7,8,9,10,11]++m [I]⟩]
def f204:Fam:=o 2 97 0 0 [(3,(q 0 R 0)),(6,(t R 1)),(7,(i 2)),(8,(i 3))] ([.rows 2 R (v 0)]) [e8,e8,I,I] fun X Y Z=>[⟨(.exit 0),[(3,(q 0 R 0))],Y,m [e8]⟩]
def f205:Fam:=a 146 [(0,(.agg (c R 0))),(1,(.agg (c R 1)))] [] [R,R] [B]
def f206:Fam:=o 1 169 0 2 [(0,(i 1)),(1,(p 0))] e187 [e1,I] fun X Y Z=>[⟨.ret,e150,Y,h Z [0]++m [B]⟩]
def f207:Fam:=o 2 161 2 4 [(0,(p 0)),(4,(q 3 I 0)),(6,(p 6)),(7,(p 7)),(10,(p 8)),(11,(t I 8)),(13,(i 9))] e181 e16 fun X Y Z=>[⟨.ret,[],(Y.take 6),h Z [0]++m [e1,e1,I,I]⟩,⟨(.exit 2),[],(Y.take 6),h Z [0]++m [e1,e1,I,I]⟩]
def f208:Fam:=o 2 120 0 4 [(0,(p 0)),(1,(i 13)),(6,(p 7)),(8,(t I 14)),(37,(t I 15)),(38,(i 16)),(39,(i 17))] e178 [e1,e1,e1,e3,e6,S,I,I,e4,e5,I,B,N,I,e2,e2,I,I] fun X Y Z=>[⟨.ret,[(4,(i 12)),(5,(i 13))],(Y.take 7),m [e1]++h Z [1,2,3,4,5,6,7,8,9,10,11,13]++k (.il 3) I⟩,⟨(.exit 0),[(0,(p 0)),(6,(p 7)),(8,(t I 13))],Y,m [e1]++h Z [1,2,3,4,5,6,7,8,9,10,11,12,14]⟩]
def f209:Fam:=o 1 128 0 7 [(0,(t I 4)),(1,(p 0)),(2,(p 1)),(3,(p 3)),(4,(p 5))] ([e165,e127,e88,x 4 B 1,e89,x 6 I 2,e125]) [e1,e1,e2,F,e2] fun X Y Z=>[⟨.ret,[(0,(b 4))],e189,m [e1,e1,e2]++h Z [3]++m [B]⟩]
def f210:Fam:=o 2 195 0 5 [(0,(t V 12)),(1,(f 174 [0])),(7,(i 13)),(8,(i 14))] e179 e20 fun X Y Z=>[⟨(.exit 0),[],Y,h Z [0,1,2,3,4,5,6,7,8,9,10,11]⟩,⟨.ret,e124,Y,h Z [0,1,2,3,4,5,6,7,8,9,10,11]++m [I]⟩]
def f211:Fam:=o 2 108 4 0 [(7,(p 0)),(8,(p 1)),(12,(i 5))] e196 [e1,e1,F,I,I,I] fun X Y Z=>[⟨.ret,[(4,(i 0)),(5,(i 1))],[],k (.il (-1)) I++k (.il 3) I⟩,⟨(.exit 4),[],[],[]⟩]
def f212:Fam:=a 206 e161 [] [P,F,N] [B]
def f213:Fam:=o 2 57 6 0 [(1,(p 0)),(8,e34),(9,e43),(70,(t I 3)),(71,(i 4)),(72,(i 5))] e193 [e2,e2,F,e2,I,I] fun X Y Z=>[⟨(.exit 6),[(8,e38),(9,(q 1 I 1))],[e96,e123],h Z [0]++m [e2]⟩]
def f214:Fam:=o 2 175 4 4 [(0,(p 0)),(3,(p 7)),(7,(t I 13)),(103,(t I 14)),(104,(i 15)),(105,(i 16))] e178 e18 fun X Y Z=>[⟨.ret,e124,(Y.take 7),h Z [0]++m [e1]++h Z [2,3,4,5,6,7,8,9,10,11]++k (.il 8) I⟩,⟨(.exit 4),e168,Y,h Z [0]++m [e1]++h Z [2,3,4,5,6,7,8,9,10,11,12,13]⟩]
def f215:Fam:=o 2 128 0 7 [(1,(p 0)),(2,(p 1)),(3,(p 3)),(4,(p 5)),(9,(t I 4)),(10,(i 5)),(11,(i 6))] e189 [e1,e1,e2,F,e2,I,I] fun X Y Z=>[⟨.ret,[(6,(b 4))],Y,m [e1,e1,e2]++h Z [3]++k e11 B⟩,⟨(.exit 0),[],Y,m [e1,e1,e2]++h Z [3]⟩]
def f216:Fam:=o 1 174 0 5 [(0,(.agg (c V 12))),(1,(p 0))] e182 [e1,e1,e1,e3,e6,S,I,I,e4,e5,I,B,V] fun X Y Z=>[⟨.ret,e108,e179,h Z [0,1,2,3,4,5,6,7,8,9,10,11]++m [B]⟩]
def f217:Fam:=a 207 e161 [] [P,F,N] [B]
def f218:Fam:=o 2 120 2 4 e121 e178 e17 fun X Y Z=>[⟨(.exit 2),[],(Y.take 7),m [e1,e1,e1]++h Z [3,4,5,6,7,8,9,10,11]⟩,⟨.ret,[(4,(i 12)),(5,(i 13))],(Y.take 7),m [e1,e1,e1]++h Z [3,4,5,6,7,8,9,10,11]++m [I,I]⟩]
def f219:Fam:=a 216 [(0,e87),(1,(i 1))] [] [F,I] [I]
def f220:Fam:=a 218 [(0,e85),(1,e42),(2,(i 2)),(3,(t I 3))] [] [P,F,I,e2] [B]
def f221:Fam:=a 217 [(0,e85),(1,e42),(2,(i 2)),(3,(i 3)),(4,(t I 4)),(5,(i 5))] [] [P,F,I,I,e2,I] [B]
def f222:Fam:=a 102 e105 [] [e3,I] [B]
def f223:Fam:=o 1 197 0 4 [(0,(p 0)),(1,(.agg (c N 12)))] e180 [e1,e1,e1,e3,e6,S,I,I,e4,e5,I,B,N] fun X Y Z=>[⟨.ret,e108,e184,h Z [0,1,2,3,4,5,6,7,8,9,10,11]++m [B]⟩]
def f224:Fam:=o 2 206 1 0 [(3,(p 0)),(4,(p 1)),(5,(p 2)),(8,(i 3)),(9,(i 4))] ([e116,e126,w 10 N 2]) [P,F,N,I,I] fun X Y Z=>[⟨.ret,e118,[],k e11 B⟩,⟨(.exit 1),[],[],[]⟩]
def f225:Fam:=o 2 207 0 0 [(3,(p 0)),(4,(p 1)),(5,(p 2)),(7,(t I 3)),(8,(i 4))] ([e116,e126,w 10 N 2]) [P,F,N,e2,I] fun X Y Z=>[⟨.ret,e118,[],k e11 B⟩,⟨(.exit 0),[],[],[]⟩]
def f226:Fam:=o 2 120 4 4 [(0,(p 0)),(6,(p 7)),(12,(i 13)),(13,(t I 14)),(72,(t I 15)),(73,(i 16)),(74,(i 17)),(90,(t I 18)),(91,(i 19)),(92,(i 20))] e178 [e1,e1,e1,e3,e6,S,I,I,e4,e5,I,B,N,I,e2,e2,I,I,e2,I,I] fun X Y Z=>[⟨(.exit 4),[(0,(p 0)),(6,(p 7)),(12,(i 13)),(13,(t I 14)),(72,(t I 15)),(73,(i 16)),(74,(i 17))],Y,h Z [0,1]++m [e1]++h Z [3,4,5,6,7,8,9,10,11,12,13,14,15,16,17]⟩]
def f227:Fam:=o 2 218 0 0 [(3,(t I 2)),(5,(p 0)),(9,(p 1)),(10,(i 3))] ([w 7 F 0,e126]) [F,F,e2,I] fun X Y Z=>[⟨.ret,[(8,(b 0))],[],k e11 B⟩,⟨(.exit 0),[],[],[]⟩]
def f228:Fam:=o 2 217 0 0 [(2,(i 2)),(3,(i 3)),(4,(t I 4)),(5,(i 5)),(6,(p 0)),(7,(p 1)),(13,(i 6))] [e116,e126] [P,F,I,I,e2,I,I] fun X Y Z=>[⟨.ret,[(12,(b 0))],[],k e11 B⟩,⟨(.exit 0),[],[],[]⟩]
def f229:Fam:=a 153 e105 [] [e3,I] [e10]
def f230:Fam:=o 1 129 0 2 [(0,(t I 1)),(1,(p 0))] e187 [e1,e2] fun X Y Z=>[⟨.ret,e135,Y,m [e1]⟩]
def f231:Fam:=o 3 152 0 0 [(0,(t K 0)),(1,(.fn 154 []))] [] [e10] fun X Y Z=>[⟨.ret,e117,[],m [B]⟩]
def f232:Fam:=o 1 210 0 5 [(0,(i 12)),(1,(p 0))] e182 e13 fun X Y Z=>[⟨.ret,e155,Y,h Z [0,1,2,3,4,5,6,7,8,9,10,11]++m [I]⟩]
def f233:Fam:=o 1 212 0 5 [(0,(p 0)),(1,(t I 13)),(2,(q 4 I 3)),(3,(i 14))] e191 [e1,e1,e1,e2,e3,e6,S,I,I,e4,e5,I,B,e2,I] fun X Y Z=>[⟨.ret,[(0,(b 13))],Y,h Z [0,1,2,3,4,5,6,7,8,9,10,11,12]++m [B]⟩]
def f234:Fam:=o 1 211 0 6 [(0,(i 12)),(1,(p 0)),(2,(p 5))] ([e103,e111,e88,e89,e92,y (f 210 [0])]) e13 fun X Y Z=>[⟨.ret,e108,[e103,g 12 C [(t D 3),(t F 4),(s 5),(i 6),(i 7),(t V 8),(t N 9),(i 10),(b 11),(q 6 B 0),(q 7 B 1),(q 8 B 2)],d,d,d,y (f 210 [0]),e88,e89,e92],h Z [0,1,2,3,4,5,6,7,8,9,10,11]++m [B]⟩]
def f235:Fam:=o 1 214 0 4 [(0,(p 0)),(1,(i 12)),(2,(t I 13))] e180 [e1,e1,e1,e3,e6,S,I,I,e4,e5,I,B,I,e2] fun X Y Z=>[⟨.ret,e108,e184,h Z [0,1,2,3,4,5,6,7,8,9,10,11]++m [B]⟩]
def f236:Fam:=o 1 213 0 4 [(0,(p 0)),(1,(i 12)),(2,(i 13))] e180 [e1,e1,e1,e3,e6,S,I,I,e4,e5,I,B,I,I] fun X Y Z=>[⟨.ret,[(0,(.tup [(q 4 I 3),(b 13)]))],e191,h Z [0,1,2]++k .nl e2++h Z [3,4,5,6,7,8,9,10,11]++k e11 B⟩,⟨.ret,[(0,(.tup [(t I 12),(b 13)]))],Y,h Z [0,1,2,3,4,5,6,7,8,9,10,11]++m [e2]++k e12 B⟩]
def f237:Fam:=o 2 120 6 4 [(0,(p 0)),(6,(p 7)),(72,(t I 13)),(73,(i 14)),(74,(i 15)),(113,(t I 16)),(114,(i 17)),(115,(i 18))] e178 [e1,e1,e1,e3,e6,S,I,I,e4,e5,I,B,N,e2,I,I,e2,I,I] fun X Y Z=>[⟨(.exit 6),e121,Y,h Z [0,1]++m [e1]++h Z [3,4,5,6,7,8,9,10,11,12,13,14,15]⟩]
def f238:Fam:=o 2 129 0 2 [(1,(p 0)),(5,(t I 1)),(6,(i 2)),(7,(i 3))] e187 [e1,e2,I,I] fun X Y Z=>[⟨(.exit 0),[],Y,m [e1]⟩]
def f239:Fam:=o 3 185 0 0 [(0,(t K 0)),(1,(.fn 154 []))] [] [e10] fun X Y Z=>[⟨.ret,[(0,(i 0))],[],m [I]⟩]
def f240:Fam:=o 2 212 0 5 [(0,(p 0)),(2,(q 4 I 3)),(3,(i 13)),(16,(t I 14)),(17,(i 15)),(18,(i 16))] e191 [e1,e1,e1,e2,e3,e6,S,I,I,e4,e5,I,B,I,e2,I,I] fun X Y Z=>[⟨.ret,[(8,(b 13))],Y,h Z [0,1,2,3,4,5,6,7,8,9,10,11,12]++k e11 B⟩,⟨(.exit 0),[],Y,h Z [0,1,2,3,4,5,6,7,8,9,10,11,12]⟩]
def f241:Fam:=o 1 227 0 4 e107 e180 e13 fun X Y Z=>[⟨.ret,[(0,(.tup [e49,(b 13)]))],e195,h Z [0,1,2]++m [e2]++h Z [3,4,5,6,7,8,9,10,11]++m [B]⟩]
def f242:Fam:=o 1 212 0 4 [(0,(p 0)),(1,(t I 12)),(2,(t I 13)),(3,(i 14))] e180 [e1,e1,e1,e3,e6,S,I,I,e4,e5,I,B,e2,e2,I] fun X Y Z=>[⟨.ret,e108,Y,h Z [0,1,2,3,4,5,6,7,8,9,10,11]++m [B]⟩]
def f243:Fam:=o 2 197 1 4 [(2,(p 7)),(12,(i 12)),(259,(t R 13)),(260,(i 14)),(261,(i 15))] ([e90,d,d,d,e88,e89,e92,y (p 0)]) [e1,e1,e1,e3,e6,S,I,I,e4,e5,I,B,I,e8,I,I] fun X Y Z=>[⟨.ret,[(4,(b 12))],(Y.take 7),h Z [0,1,2,3,4,5,6,7,8,9,10,11]++k e11 B⟩,⟨(.exit 1),[],(Y.take 7),h Z [0,1,2,3,4,5,6,7,8,9,10,11]⟩]
def f244:Fam:=o 2 185 0 0 [(0,(t K 0)),(1,(.fn 154 [])),(7,(i 1)),(8,(i 2))] [] [e10,I,I] fun X Y Z=>[⟨(.exit 0),[],[],[]⟩,⟨.ret,e134,[],m [I]⟩]
def f245:Fam:=o 2 227 0 4 [(7,e49),(33,(t V 13)),(34,(i 14)),(35,(i 15))] e195 [e1,e1,e1,e2,e3,e6,S,I,I,e4,e5,I,B,e4,I,I] fun X Y Z=>[⟨(.exit 0),[(7,e49)],Y,h Z [0,1,2]++m [e2]++h Z [4,5,6,7,8,9,10,11,12]⟩]
def f246:Fam:=o 2 175 6 4 [(0,(p 0)),(3,(p 7)),(127,(t I 13)),(128,(i 14)),(129,(i 15))] e178 e17 fun X Y Z=>[⟨.ret,e124,(Y.take 7),h Z [0,1,2,3,4,5,6,7,8,9,10,11]++k (.il 11) I⟩,⟨(.exit 6),[],(Y.take 7),h Z [0,1,2,3,4,5,6,7,8,9,10,11]⟩]
def f247:Fam:=o 2 212 0 4 [(0,(p 0)),(2,(t I 12)),(3,(i 13)),(16,(t I 14)),(17,(i 15)),(18,(i 16))] e180 [e1,e1,e1,e3,e6,S,I,I,e4,e5,I,B,e2,I,e2,I,I] fun X Y Z=>[⟨.ret,[(8,(b 12))],Y,h Z [0,1,2,3,4,5,6,7,8,9,10,11]++k e11 B⟩,⟨(.exit 0),[],Y,h Z [0,1,2,3,4,5,6,7,8,9,10,11]⟩]
def f248:Fam:=a 154 [(0,e53)] [] [K] [B]
def f249:Fam:=a 11 [(0,e85)] [] [P] [B]
def f250:Fam:=o 2 11 0 0 [(1,(p 0)),(3,(p 1)),(4,(p 3)),(5,(i 5))] ([w 2 P 2,g 2 P [(t D 3),(q 2 F 0)],.rows 7 F (v 0),g 2 P [(t D 4),(q 4 F 1)],.rows 7 F (v 1)]) [e6,e6,P,e3,e3,I] fun X Y Z=>[⟨.ret,e95,[],k e11 B⟩,⟨(.exit 0),[(1,(p 0)),(3,(p 1)),(4,(p 3))],Y,m [e6,e6]++h Z [2,3,4]⟩]
def f251:Fam:=a 35 e169 [] [F] [F]
def f252:Fam:=o 2 35 0 0 [(1,(p 0)),(2,(p 1)),(3,(p 4)),(4,(i 15)),(5,(i 16))] ([e165,g 7 F e84,e94,e93,g 7 F e79,e152]) [e4,e5,e5,F,S,I,I,I,B,S,I,I,e4,I,B,I,I] fun X Y Z=>[⟨(.exit 0),[(1,(p 0)),(2,(p 1)),(3,(p 4)),(4,(i 15))],Y,h Z [0,1]++m [e5]++h Z [3,4,5,6,7,8,9,10,11,12,13,14,15]⟩]
def f253:Fam:=o 2 35 2 0 [(1,(p 0)),(2,(p 1)),(3,(p 4)),(4,(i 17)),(5,(i 18)),(6,(p 6)),(7,(q 7 R 3)),(8,(i 19))] ([e149,g 7 F e67,e94,e93,g 7 F e78,e152,w 10 N 16,e158]) [e4,e5,e5,e8,F,S,I,I,I,B,S,I,I,e4,I,B,N,I,I,I] fun X Y Z=>[⟨(.exit 2),[(1,(p 0)),(2,(p 1)),(3,(p 4)),(4,(i 17)),(5,(i 18)),(6,(p 6)),(7,(q 7 R 3))],Y,h Z [0,1,2]++m [e8]++h Z [4,5,6,7,8,9,10,11,12,13,14,15,16,17,18]⟩]
end T
open T
namespace Tfams
def n:Nat→Tr Fam→Tr Fam→Tr Fam:=.node
def l:Fam→Tr Fam:=.leaf
end Tfams
open Tfams in
def fams:Tr Fam:=
 (n 127 (n 63 (n 31 (n 15 (n 7 (n 3 (n 1 (l f0) (n 2 (l f1) (l f2))) (n 5 (n 4 (l f3) (l f4)) (n 6 (l f5) (l f6)))) (n 11 (n 9 (n 8 (l f7) (l f8)) (n 10 (l f9) (l f10))) (n 13 (n 12 (l f11) (l f12)) (n 14 (l f13) (l f14))))) (n 23 (n 19 (n 17 (n 16 (l f15) (l f16)) (n 18 (l f17) (l f18))) (n 21 (n 20 (l f19) (l f20)) (n 22 (l f21) (l f22)))) (n 27 (n 25 (n 24 (l f23) (l f24)) (n 26 (l f25) (l f26))) (n 29 (n 28 (l f27) (l f28)) (n 30 (l f29) (l f30)))))) (n 47 (n 39 (n 35 (n 33 (n 32 (l f31) (l f32)) (n 34 (l f33) (l f34))) (n 37 (n 36 (l f35) (l f36)) (n 38 (l f37) (l f38)))) (n 43 (n 41 (n 40 (l f39) (l f40)) (n 42 (l f41) (l f42))) (n 45 (n 44 (l f43) (l f44)) (n 46 (l f45) (l f46))))) (n 55 (n 51 (n 49 (n 48 (l f47) (l f48)) (n 50 (l f49) (l f50))) (n 53 (n 52 (l f51) (l f52)) (n 54 (l f53) (l f54)))) (n 59 (n 57 (n 56 (l f55) (l f56)) (n 58 (l f57) (l f58))) (n 61 (n 60 (l f59) (l f60)) (n 62 (l f61) (l f62))))))) (n 95 (n 79 (n 71 (n 67 (n 65 (n 64 (l f63) (l f64)) (n 66 (l f65) (l f66))) (n 69 (n 68 (l f67) (l f68)) (n 70 (l f69) (l f70)))) (n 75 (n 73 (n 72 (l f71) (l f72)) (n 74 (l f73) (l f74))) (n 77 (n 76 (l f75) (l f76)) (n 78 (l f77) (l f78))))) (n 87 (n 83 (n 81 (n 80 (l f79) (l f80)) (n 82 (l f81) (l f82))) (n 85 (n 84 (l f83) (l f84)) (n 86 (l f85) (l f86)))) (n 91 (n 89 (n 88 (l f87) (l f88)) (n 90 (l f89) (l f90))) (n 93 (n 92 (l f91) (l f92)) (n 94 (l f93) (l f94)))))) (n 111 (n 103 (n 99 (n 97 (n 96 (l f95) (l f96)) (n 98 (l f97) (l f98))) (n 101 (n 100 (l f99) (l f100)) (n 102 (l f101) (l f102)))) (n 107 (n 105 (n 104 (l f103) (l f104)) (n 106 (l f105) (l f106))) (n 109 (n 108 (l f107) (l f108)) (n 110 (l f109) (l f110))))) (n 119 (n 115 (n 113 (n 112 (l f111) (l f112)) (n 114 (l f113) (l f114))) (n 117 (n 116 (l f115) (l f116)) (n 118 (l f117) (l f118)))) (n 123 (n 121 (n 120 (l f119) (l f120)) (n 122 (l f121) (l f122))) (n 125 (n 124 (l f123) (l f124)) (n 126 (l f125) (l f126)))))))) (n 190 (n 158 (n 142 (n 134 (n 130 (n 128 (l f127) (n 129 (l f128) (l f129))) (n 132 (n 131 (l f130) (l f131)) (n 133 (l f132) (l f133)))) (n 138 (n 136 (n 135 (l f134) (l f135)) (n 137 (l f136) (l f137))) (n 140 (n 139 (l f138) (l f139)) (n 141 (l f140) (l f141))))) (n 150 (n 146 (n 144 (n 143 (l f142) (l f143)) (n 145 (l f144) (l f145))) (n 148 (n 147 (l f146) (l f147)) (n 149 (l f148) (l f149)))) (n 154 (n 152 (n 151 (l f150) (l f151)) (n 153 (l f152) (l f153))) (n 156 (n 155 (l f154) (l f155)) (n 157 (l f156) (l f157)))))) (n 174 (n 166 (n 162 (n 160 (n 159 (l f158) (l f159)) (n 161 (l f160) (l f161))) (n 164 (n 163 (l f162) (l f163)) (n 165 (l f164) (l f165)))) (n 170 (n 168 (n 167 (l f166) (l f167)) (n 169 (l f168) (l f169))) (n 172 (n 171 (l f170) (l f171)) (n 173 (l f172) (l f173))))) (n 182 (n 178 (n 176 (n 175 (l f174) (l f175)) (n 177 (l f176) (l f177))) (n 180 (n 179 (l f178) (l f179)) (n 181 (l f180) (l f181)))) (n 186 (n 184 (n 183 (l f182) (l f183)) (n 185 (l f184) (l f185))) (n 188 (n 187 (l f186) (l f187)) (n 189 (l f188)
 (l f189))))))) (n 222 (n 206 (n 198 (n 194 (n 192 (n 191 (l f190) (l f191)) (n 193 (l f192) (l f193))) (n 196 (n 195 (l f194) (l f195)) (n 197 (l f196) (l f197)))) (n 202 (n 200 (n 199 (l f198) (l f199)) (n 201 (l f200) (l f201))) (n 204 (n 203 (l f202) (l f203)) (n 205 (l f204) (l f205))))) (n 214 (n 210 (n 208 (n 207 (l f206) (l f207)) (n 209 (l f208) (l f209))) (n 212 (n 211 (l f210) (l f211)) (n 213 (l f212) (l f213)))) (n 218 (n 216 (n 215 (l f214) (l f215)) (n 217 (l f216) (l f217))) (n 220 (n 219 (l f218) (l f219)) (n 221 (l f220) (l f221)))))) (n 238 (n 230 (n 226 (n 224 (n 223 (l f222) (l f223)) (n 225 (l f224) (l f225))) (n 228 (n 227 (l f226) (l f227)) (n 229 (l f228) (l f229)))) (n 234 (n 232 (n 231 (l f230) (l f231)) (n 233 (l f232) (l f233))) (n 236 (n 235 (l f234) (l f235)) (n 237 (l f236) (l f237))))) (n 246 (n 242 (n 240 (n 239 (l f238) (l f239)) (n 241 (l f240) (l f241))) (n 244 (n 243 (l f242) (l f243)) (n 245 (l f244) (l f245)))) (n 250 (n 248 (n 247 (l f246) (l f247)) (n 249 (l f248) (l f249))) (n 252 (n 251 (l f250) (l f251)) (n 253 (l f252) (l f253)))))))))
namespace Tpfns
def z:Tr (Option Nat):=.leaf none
def n:Nat→Tr (Option Nat)→Tr (Option Nat)→Tr (Option Nat):=.node
def l:(Option Nat)→Tr (Option Nat):=.leaf
end Tpfns
open Tpfns in
def pfns:Tr (Option Nat):=
 (n 132 (n 66 (n 33 (n 16 (n 8 z (n 12 (n 10 z (n 11 (l (some 0)) (l (some 249)))) z)) (n 24 (n 20 (n 18 (n 17 z (l (some 8))) z) z) (n 28 (n 26 (n 25 (l (some 1)) (l (some 4))) z) (n 30 z (n 31 z (n 32 z (l (some 5)))))))) (n 49 (n 41 (n 37 (n 35 (n 34 (l (some 7)) (l (some 91))) (n 36 (l (some 251)) z)) z) (n 45 (n 43 (n 42 z (l (some 12))) z) z)) (n 57 (n 53 (n 51 (n 50 z (l (some 13))) (n 52 (l (some 24)) z)) (n 55 (n 54 z (l (some 158))) (n 56 (l (some 149)) z))) (n 61 (n 59 (n 58 (l (some 137)) (l (some 116))) (n 60 (l (some 105)) z)) z)))) (n 99 (n 82 (n 74 z (n 78 (n 76 z (n 77 (l (some 164)) z)) (n 80 (n 79 (l (some 177)) z) z))) (n 90 (n 86 (n 84 z (n 85 z (l (some 26)))) (n 88 (n 87 z (l (some 67))) (n 89 (l (some 80)) z))) (n 94 (n 92 (n 91 z (l (some 75))) (n 93 (l (some 98)) (l (some 14)))) (n 96 (n 95 (l (some 31)) (l (some 42))) (n 97 (l (some 166)) (n 98 (l (some 192)) z)))))) (n 115 (n 107 (n 103 (n 101 z (n 102 z (l (some 222)))) z) (n 111 (n 109 (n 108 (l (some 18)) (l (some 32))) z) (n 113 (n 112 z (l (some 19))) (n 114 (l (some 22)) (l (some 29)))))) (n 123 (n 119 (n 117 z (n 118 (l (some 135)) (l (some 69)))) (n 121 z (n 122 (l (some 130)) (l (some 111))))) (n 127 z (n 129 z (n 130 z (n 131 z (l (some 162)))))))))) (n 198 (n 165 (n 148 (n 140 (n 136 z (n 138 (n 137 (l (some 170)) z) z)) (n 144 (n 142 z (n 143 z (l (some 154)))) (n 146 (n 145 (l (some 171)) z) (n 147 (l (some 205)) (l (some 114)))))) (n 156 (n 152 (n 150 z (n 151 (l (some 163)) (l (some 100)))) (n 154 (n 153 z (l (some 229))) (n 155 (l (some 248)) (l (some 27))))) (n 160 (n 158 (n 157 (l (some 30)) (l (some 41))) (n 159 (l (some 53)) (l (some 70)))) (n 162 (n 161 (l (some 46)) z) (n 163 z (n 164 z (l (some 81)))))))) (n 181 (n 173 (n 169 (n 167 (n 166 (l (some 47)) (l (some 104))) z) (n 171 (n 170 z (l (some 49))) z)) (n 177 z (n 179 (n 178 z (l (some 187))) z))) (n 189 (n 185 (n 183 z (n 184 z (l (some 183)))) (n 187 (n 186 z (l (some 62))) (n 188 (l (some 77)) (l (some 119))))) (n 193 (n 191 (n 190 (l (some 64)) (l (some 97))) (n 192 (l (some 150)) z)) (n 195 (n 194 (l (some 2)) (l (some 66))) (n 196 z (n 197 (l (some 153)) z))))))) (n 231 (n 214 (n 206 (n 202 (n 200 z (n 201 (l (some 126)) (l (some 144)))) (n 204 (n 203 z (l (some 94))) (n 205 (l (some 115)) (l (some 152))))) (n 210 (n 208 (n 207 (l (some 212)) (l (some 217))) (n 209 z (l (some 3)))) z)) (n 222 (n 218 (n 216 (n 215 z (l (some 122))) (n 217 (l (some 219)) (l (some 221)))) (n 220 (n 219 (l (some 220)) z) z)) z)) z)))
namespace Tfnss
def z:Tr (List Nat):=.leaf []
def n:Nat→Tr (List Nat)→Tr (List Nat)→Tr (List Nat):=.node
def l:(List Nat)→Tr (List Nat):=.leaf
end Tfnss
open Tfnss in
def fnss:Tr (List Nat):=
 (n 132 (n 66 z (n 99 (n 82 z (n 90 (n 86 z (n 88 (n 87 (l [36]) z) (n 89 z (l [11])))) (n 94 (n 92 (n 91 (l [39]) z) z) z))) (n 115 z (n 123 (n 119 (n 117 (n 116 (l [76,172]) (l [121])) z) (n 121 (n 120 (l [35]) (l [123])) z)) (n 127 z (n 129 (n 128 (l [139]) (l [209])) (n 130 (l [230]) (n 131 (l [159]) z)))))))) (n 198 (n 165 (n 148 (n 140 z (n 144 z (n 146 (n 145 z (l [178])) z))) (n 156 (n 152 (n 150 (n 149 (l [125]) (l [45])) z) (n 154 (n 153 (l [38,55,117,231]) z) z)) (n 160 z (n 162 (n 161 z (l [82])) z)))) (n 181 (n 173 (n 169 (n 167 z (n 168 (l [92,189]) (l [157]))) (n 171 (n 170 (l [206]) z) (n 172 (l [83]) (l [108,190])))) (n 177 (n 175 (n 174 (l [155]) (l [216])) (n 176 (l [140]) z)) z)) (n 189 (n 185 (n 183 z (n 184 (l [109]) z)) (n 187 (n 186 (l [52,74,133,239]) z) z)) (n 193 (n 191 z (n 192 z (l [99]))) (n 195 z (n 196 (l [128,203]) (n 197 z (l [223])))))))) (n 231 (n 214 (n 206 (n 202 z (n 204 (n 203 (l [195]) z) z)) (n 210 z (n 212 (n 211 (l [232]) (l [234])) (n 213 (l [233,242]) (l [236]))))) (n 222 (n 218 (n 216 (n 215 (l [235]) z) z) z) (n 226 z (n 228 (n 227 z (l [241])) z)))) z)))
namespace Tloopss
def z:Tr (List (Nat×Nat)):=.leaf []
def n:Nat→Tr (List (Nat×Nat))→Tr (List (Nat×Nat))→Tr (List (Nat×Nat)):=.node
def l:(List (Nat×Nat))→Tr (List (Nat×Nat)):=.leaf
end Tloopss
open Tloopss in
def QFs:Tr (List (Nat×Nat)):=
 (n 132 (n 66 (n 33 (n 16 (n 8 z (n 12 (n 10 z (n 11 z (l [(0,250)]))) z)) (n 24 (n 20 (n 18 (n 17 z (l [(0,15)])) z) z) (n 28 (n 26 (n 25 z (l [(0,6),(2,9),(4,10),(6,16),(8,25)])) z) z))) (n 49 (n 41 (n 37 (n 35 (n 34 (l [(0,20)]) (l [(0,113),(2,148),(4,165)])) (n 36 (l [(0,252),(2,253)]) z)) z) (n 45 (n 43 (n 42 z (l [(0,21)])) z) z)) (n 57 (n 53 (n 51 (n 50 z (l [(0,40),(2,58)])) (n 52 (l [(0,96)]) z)) (n 55 (n 54 z (l [(1,179)])) (n 56 (l [(1,167)]) z))) (n 61 (n 59 (n 58 (l [(0,151),(2,174),(4,200),(6,213)]) (l [(0,132)])) (n 60 (l [(0,120)]) z)) z)))) (n 99 (n 82 (n 74 z (n 78 (n 76 z (n 77 (l [(0,185)]) z)) (n 80 (n 79 (l [(0,193)]) z) z))) (n 90 (n 86 z (n 88 (n 87 (l [(0,50)]) z) (n 89 (l [(0,95)]) (l [(0,17)])))) (n 94 (n 92 (n 91 (l [(0,57)]) z) (n 93 z (l [(0,23),(2,34),(4,48)]))) (n 96 (n 95 (l [(0,124),(2,147),(2,176)]) (l [(0,60),(2,84)])) (n 97 (l [(0,186)]) (n 98 (l [(0,204)]) z)))))) (n 115 (n 107 z (n 111 (n 109 (n 108 z (l [(0,54),(2,198),(4,211)])) z) (n 113 (n 112 z (l [(0,28)])) (n 114 (l [(0,33)]) (l [(0,43),(2,61)]))))) (n 123 (n 119 (n 117 z (n 118 z (l [(0,87),(2,101)]))) (n 121 (n 120 (l [(0,56)]) (l [(0,208),(2,218),(4,226),(6,237)])) (n 122 (l [(0,145)]) z))) (n 127 z (n 129 (n 128 z (l [(0,215)])) (n 130 (l [(0,238)]) (n 131 (l [(0,180),(2,202)]) (l [(0,182)]))))))))) (n 198 (n 165 (n 148 (n 140 z (n 144 z (n 146 (n 145 (l [(0,188)]) (l [(0,194)])) (n 147 z (l [(0,131)]))))) (n 156 (n 152 (n 150 (n 149 (l [(0,141)]) (l [(0,63),(2,85)])) (n 151 (l [(0,184)]) (l [(0,127)]))) (n 154 z (n 155 z (l [(0,37),(2,51)])))) (n 160 (n 158 (n 157 (l [(0,44),(2,71)]) (l [(0,59),(2,86)])) (n 159 (l [(0,73),(2,89),(4,103)]) (l [(0,88),(2,102),(8,112),(4,118),(6,134)]))) (n 162 (n 161 (l [(0,72),(2,110),(4,136)]) (l [(0,191),(2,207)])) z)))) (n 181 (n 173 (n 169 (n 167 (n 166 (l [(0,65)]) z) (n 168 (l [(0,106),(0,197)]) z)) z) (n 177 (n 175 z (n 176 (l [(0,175),(2,201),(4,214),(6,246)]) z)) z)) (n 189 (n 185 (n 183 z (n 184 (l [(0,129),(2,160),(4,181)]) (l [(0,196)]))) (n 187 (n 186 (l [(0,68),(0,90),(0,146),(0,244)]) (l [(0,78)])) (n 188 (l [(0,93)]) z))) (n 193 (n 191 (n 190 (l [(0,79)]) z) (n 192 (l [(0,168)]) (l [(0,138),(2,173),(4,199)]))) (n 195 z (n 196 (l [(0,143),(0,210)]) (n 197 z (l [(1,243)])))))))) (n 231 (n 214 (n 206 (n 202 (n 200 z (n 201 (l [(0,142),(2,161)]) (l [(0,156)]))) (n 204 (n 203 z (l [(0,107)])) (n 205 z (l [(0,169)])))) (n 210 (n 208 (n 207 (l [(1,224)]) (l [(0,225)])) z) (n 212 z (n 213 (l [(0,240),(0,247)]) z)))) (n 222 (n 218 (n 216 z (n 217 z (l [(0,228)]))) (n 220 (n 219 (l [(0,227)]) z) z)) (n 226 z (n 228 (n 227 z (l [(0,245)])) z)))) z)))
def QEc:List (Nat×Nat)→Nat→List Nat
 | [],_=>[]
 | (a,b)::r,k=>match Nat.beq a k with |true=>b::QEc r k |false=>QEc r k
def tb:Tab:=⟨fun i=>match Nat.blt i 254 with |true=>fams.get i |false=>default,pfns.get,fnss.get,fun f b=>QEc (QFs.get f) b⟩
end Go.Proofs.YtkecfadnfnnfaaaGreatDoor.LabB
