/- The families of functions and loops of this program: tables, nothing is claimed here. -/
import Derived.Test.YtkecfadnfnnfaaaGreatDoorTabB
import Derived.Test.YtkecfadnfnnfaaaGreatDoorSyC
set_option maxRecDepth 100000
set_option linter.all false
noncomputable section
namespace Go.Proofs.YtkecfadnfnnfaaaGreatDoor.LabB
open Go Go.Ev Go.Sy
def Qv2:Ty:=(.pair .str (.int .u64))
def QC3:Ty:=(.pair (.int .i64) .bool)
def QC4:Ty:=(.pair (.int .u8) (.int .u8))
def QxU:Ty:=(.pair (.lst (.int .i64)) (.int .i64))
def QFZ:Ty:=(.pair .str (.lst (.int .i64)))
def QEb:Ty:=(.pair (.lst .bool) (.lst .bool))
def QC5:Ty:=(.pair (.int .i64) (.pair (.int .i64) (.pair .bool (.int .u8))))
def QEc:Ty:=(.pair .str (.lst QFZ))
def QmU:Ty:=(.pair (.lst .bool) (.pair (.lst .bool) (.pair (.int .i64) (.int .i64))))
def QF0:Ty:=(.pair (.int .i64) (.pair .bool (.pair .bool (.pair .bool (.pair .bool (.pair .bool (.pair .bool (.pair .bool .bool))))))))
def QAS:Ty:=(.pair (.int .i64) (.pair (.int .i64) (.pair (.lst (.int .i64)) (.pair (.int .i64) (.pair (.int .i64) (.pair (.int .i64) (.pair (.lst (.int .i64)) (.pair .bool (.pair (.lst QxU) (.int .i64))))))))))
def Qu0:Ty:=(.pair .str (.pair (.int .i64) (.pair (.int .i64) (.pair (.lst QC3) (.pair (.lst QAS) QC3)))))
def QC6:Ty:=(.pair Qu0 (.pair (.lst (.int .i64)) .bool))
def QeZ:Ty:=(.pair (.lst QEc) (.lst Qu0))
def QF1:Ty:=(.pair Qu0 (.pair (.lst (.int .i64)) (.pair (.lst (.int .i64)) (.pair (.lst (.int .i64)) QC3))))
def QHe:Ty:=(.pair QeZ (.pair Qu0 (.pair (.lst .bool) (.lst (.int .i64)))))
def QF2:Ty:=(.pair QeZ (.pair Qu0 (.pair (.lst (.int .i64)) (.pair .bool (.pair (.int .i64) (.int .i64))))))
def QAT:Ty:=(.pair QeZ (.pair Qu0 (.pair (.lst .bool) QEb)))
def QC7:Ty:=(.pair QeZ (.pair Qu0 (.pair (.lst (.int .i64)) (.lst QAS))))
namespace T
def v:Nat→Sy.Ex:=.v
def B:Ty:=.bool
def S:Ty:=.str
def I:Ty:=.int .i64
def L:Ty→Ty:=.lst
def F:Ty:=Qu0
def N:Ty:=QAS
def P:Ty:=QeZ
def D:Ty:=QEc
def V:Ty:=QC3
def K:Ty:=QFZ
def R:Ty:=QxU
def C:Ty:=QAT
def U:Ty:=QHe
def W:Ty:=QF2
def T:Ty:=QEb
def G:Ty:=QC6
def E:Ty:=QC7
def i (n:Nat):SV:=.ii .i64 (v n)
def b (n:Nat):SV:=.bb (v n)
def s (n:Nat):SV:=.ss (v n)
def t (T:Ty)(n:Nat):SV:=.tl T (v n)
def p (n:Nat):SV:=.ptr n (.nn 0) 0
def q (k:Nat)(T:Ty)(n:Nat):SV:=.sl k (.nn 0) (.o1 (.len T) (v n))
def f (k:Nat)(l:List Nat):SV:=.fn k (l.map p)
def c (T:Ty)(n:Nat):List SV:=cellsOf T (v n)
def r (T:Ty)(n:Nat):SB:=.rows 1 T (v n)
def g (n:Nat)(T:Ty)(l:List SV):SB:=.box n (some T) [l]
def u (T:Ty)(x:SV):SB:=g 1 T [x]
def x (k:Nat)(T:Ty)(n:Nat):SB:=u (L T) (q k T n)
def w (k:Nat)(T:Ty)(n:Nat):SB:=g k T (c T n)
def y (x:SV):SB:=.box 1 none [[x]]
def d:SB:=.dead
def nth:List Ty→Nat→Ty
 | [],_=>.unit
 | t::_,0=>t
 | _::l,n+1=>nth l n
def h (k:List Ty)(l:List Nat):List (Hk×Ty):=l.map fun i=>(.par i,nth k i)
def m (l:List Ty):List (Hk×Ty):=l.map fun t=>(.new,t)
def k (e:Sy.Ex)(T:Ty):List (Hk×Ty):=[(.con e,T)]
def aa (i:Nat)(T:Ty):List (Hk×Ty):=[(.par i,T)]
def a (n:Nat)(f:SF)(j:SH)(k:List Ty)(l:List Ty)(e:Bool:=false):Fam:=⟨0,n,0,0,f,j,k,[QAQ l],e⟩
def o (n i b m:Nat)(f:SF)(j:SH)(k:List Ty)(l:SF→SH→List Ty→List Out):Fam:=⟨n,i,b,m,f,j,k,l f j k,false⟩
def e1:Ty:=(L B)
def e2:Ty:=(L I)
def e3:Ty:=(L D)
def e4:Ty:=(L V)
def e5:Ty:=(L F)
def e6:Ty:=(L N)
def e7:Ty:=(L (.pair S B))
def e8:Ty:=(.pair S B)
def e9:Ty:=(L K)
def e10:Ty:=(L (L I))
def e13:Sy.Ex:=(.nn 0)
def e12:Sy.Ex:=(.bl true)
def e11:Sy.Ex:=(.bl false)
def e14:List Ty:=[e1,e1,e1,e3,e5,S,I,I,e4,e6,I,B,I]
def e15:List Ty:=[e1,e1,e1,e3,e5,S,I,I,e4,e6,I,B,e4]
def e16:List Ty:=[e2,e1,e1,I,I,P,F,N,e2,I]
def e17:List Ty:=[e1,e1,e1,e3,e5,S,I,I,e4,e6,I,B,N,e2,I,I]
def e18:List Ty:=[e1,e2,e3,e5,S,I,I,e4,e6,I,B,I]
def e19:List Ty:=[e1,e1,e1,e3,e5,S,I,I,e4,e6,I,B,N,e2,e2,I,I]
def e20:List Ty:=[e1,e1,e1,e3,e5,S,I,I,e4,e6,I,B,e4,I,I]
def e21:SV:=(q 1 B 0)
def e22:SV:=(f 77 [2,3,6,10])
def e23:SV:=(.agg (c P 0))
def e24:SV:=(q 0 I 0)
def e25:SV:=(q 4 B 0)
def e26:SV:=(q 5 B 1)
def e27:SV:=(q 6 B 2)
def e28:SV:=(q 3 B 2)
def e29:SV:=(q 2 I 1)
def e30:SV:=(q 2 B 1)
def e31:SV:=(q 5 B 2)
def e32:SV:=(.agg (c F 1))
def e33:SV:=(q 4 B 2)
def e34:SV:=(q 4 B 1)
def e35:SV:=(q 2 B 0)
def e36:SV:=(q 13 B 4)
def e37:SV:=(q 14 I 5)
def e38:SV:=(q 0 B 0)
def e39:SV:=(q 5 B 0)
def e40:SV:=(.agg [(.sl 7 e13 (v 15)),(.sl 8 e13 (v 16))])
def e41:SV:=(q 3 B 1)
def e42:SV:=(.agg [(.sl 2 e13 (v 4)),(.sl 3 e13 (v 5))])
def e43:SV:=(.agg (c N 0))
def e44:SV:=(q 11 B 2)
def e45:SV:=(.sl 11 e13 (v 7))
def e46:SV:=(.sl 12 e13 (v 8))
def e47:SV:=(q 1 I 0)
def e48:SV:=(q 6 B 1)
def e49:SV:=(q 7 B 2)
def e50:SV:=(f 140 [0,4,6])
def e51:SV:=(.sl 0 e13 (v 4))
def e52:SV:=(q 12 B 3)
def e53:SV:=(f 103 [0,4])
def e54:SV:=(.agg [(q 3 B 2),(q 4 B 3)])
def e55:SV:=(.tup [])
def e56:SV:=(.sl 4 e13 (v 14))
def e57:SV:=(q 3 B 0)
def e58:SV:=(q 4 I 1)
def e59:SV:=(q 5 B 3)
def e60:SV:=(.sl 2 e13 (v 4))
def e61:SV:=(q 4 B 3)
def e62:SV:=(.agg (c N 2))
def e63:SV:=(q 5 I 2)
def e64:SV:=(q 2 I 0)
def e65:SV:=(.sl 8 e13 (v 15))
def e66:SV:=(q 6 I 3)
def e67:SV:=(.sl 7 e13 (v 15))
def e68:SV:=(.sl 8 e13 (v 16))
def e69:SV:=(.agg [e60,(.sl 3 e13 (v 5))])
def e70:List SV:=[(t D 3),(t F 4),(s 5),(i 6),(i 7),(t V 8),(t N 9),(i 10),(b 11),e25,e26,e27]
def e71:List SV:=[(t D 3),(t F 4),(s 5),(i 6),(i 7),(t V 8),(t N 9),(i 10),(b 11),e21,e30,e28]
def e72:List SV:=[(t D 3),(t F 4),(s 5),(i 6),(i 7),(t V 8),(t N 9),(i 10),(b 11),e39,e48,e49]
def e73:List SV:=[(t D 3),(t F 4),(s 5),(i 6),(i 7),(t V 8),(t N 9),(i 10),(b 11),e35,e41,e33]
def e74:List SV:=[(t D 7),(t F 8),(s 9),(i 10),(i 11),(t V 12),(t N 13),(i 14),(b 15),e36,e37]
def e75:List SV:=[(t D 4),(t F 5),(s 6),(i 7),(i 8),(t V 9),(t N 10),(i 11),(b 12),e21,e29]
def e76:List SV:=[(t D 5),(t F 6),(s 7),(i 8),(i 9),(t V 10),(t N 11),(i 12),(b 13),e21,e29]
def e77:List SV:=[(t D 2),(t F 3),(s 4),(i 5),(i 6),(t V 7),(t N 8),(i 9),(b 10),e21,e29]
def e78:List SV:=[(t D 9),(t F 10),(s 11),(i 12),(i 13),(t V 14),(t N 15),(i 16),(b 17),e36,e37]
def e79:List SV:=[(t D 4),(t F 5),(s 6),(i 7),(i 8),(t V 9),(t N 10),(i 11),(b 12),e21,e30,e28]
def e80:List SV:=[(t D 3),(t F 4),(s 5),(i 6),(i 7),(t V 8),(t N 9),(i 10),(b 11),(q 7 B 0),(q 8 I 1)]
def e81:List SV:=[(t D 2),(t F 3),(s 4),(i 5),(i 6),(t V 7),(t N 8),(i 9),(b 10),e39,(q 6 I 1)]
def e82:List SV:=[(t D 6),(t F 7),(s 8),(i 9),(i 10),(t V 11),(t N 12),(i 13),(b 14),e21,e29]
def e83:List SV:=[e34,e31,(i 3),(i 4)]
def e84:List SV:=[(t D 3),(t F 4),(s 5),(i 6),(i 7),(t V 8),(t N 9),(i 10),(b 11),e57,e58]
def e85:List SV:=[(t D 7),(t F 8),(s 9),(i 10),(i 11),(t V 12),(t N 13),(i 14),(b 15),(q 8 B 4),(q 9 I 5)]
def e86:List SV:=[(t D 4),(t F 5),(s 6),(i 7),(i 8),(t V 9),(t N 10),(i 11),(b 12),(q 9 B 0),(q 10 I 1)]
def e87:List SV:=[(t D 4),(t F 5),(s 6),(i 7),(i 8),(t V 9),(t N 10),(i 11),(b 12),e25,e26,e27]
def e88:List SV:=[(t D 6),(t F 7),(s 8),(i 9),(i 10),(t V 11),(t N 12),(i 13),(b 14),e31,e66]
def e89:List SV:=(c P 0)
def e90:List SV:=[(t D 4),(t F 5),(s 6),(i 7),(i 8),(t V 9),(t N 10),(i 11),(b 12),e35,e41,e33]
def e91:List SV:=[(t D 2),(t F 3),(s 4),(i 5),(i 6),(t V 7),(t N 8),(i 9),(b 10),e35,(q 3 I 1)]
def e92:List SV:=[e44,e52]
def e93:List SV:=(c F 1)
def e94:List SV:=[e33,e59]
def e95:List SV:=[e60,(.sl 3 e13 (v 5))]
def e96:List SV:=[e35,e41,(i 3),(i 4)]
def e97:List SV:=[e38,(q 1 B 1)]
def e98:SV:=(.agg e89)
def e99:SV:=(.agg e93)
def e100:SB:=r B 0
def e101:SB:=r B 2
def e102:SB:=r B 1
def e103:SB:=g 12 C e70
def e104:SB:=g 4 QmU e83
def e105:SB:=r I 0
def e106:SF:=[(2,(b 0))]
def e107:SB:=y (p 1)
def e108:SB:=r I 1
def e109:SB:=u e3 (t D 0)
def e110:SB:=u I (i 6)
def e111:SF:=[(0,(t D 0))]
def e112:SF:=[(0,(t D 0)),(1,(i 1))]
def e113:SB:=g 12 C e71
def e114:SF:=[(0,e98),(1,(i 1))]
def e115:SB:=w 7 F 2
def e116:SB:=w 10 N 12
def e117:SB:=r B 3
def e118:SB:=w 2 P 1
def e119:SB:=y (p 7)
def e120:SF:=[(1,(p 0)),(3,e47),(4,(i 2))]
def e121:SF:=[(2,(t I 3)),(4,e24),(5,(p 1)),(6,(p 2)),(49,(t I 4)),(50,(i 5)),(51,(i 6))]
def e122:SF:=[(0,(b 12))]
def e123:SF:=[(3,e24),(4,(p 1)),(5,(p 2)),(8,(p 3)),(29,(t R 4)),(30,(i 5)),(31,(i 6))]
def e124:SF:=[(3,e51),(4,(p 1)),(5,(p 2)),(8,(p 3)),(29,(t R 5)),(30,(i 6)),(31,(i 7))]
def e125:SB:=g 12 C e72
def e126:SF:=[(2,(t I 5)),(4,e24),(5,(p 1)),(6,(p 2)),(11,(p 3)),(12,e58),(13,(i 6))]
def e127:SF:=[(0,e98),(1,e99),(2,e62)]
def e128:SB:=g 12 C e73
def e129:SB:=w 2 P 0
def e130:SF:=[(0,(t D 0)),(3,(i 1))]
def e131:SF:=[(0,(t D 0)),(3,(i 1)),(4,(i 2))]
def e132:SB:=g 2 T [e45,e46]
def e133:SF:=[(3,(.map 0)),(4,(.map 1)),(12,(t D 2)),(13,(i 3)),(14,(i 4))]
def e134:SF:=[(0,(p 0)),(1,(i 12))]
def e135:SF:=[(0,(p 0)),(6,(p 7)),(72,(t I 13)),(73,(i 14)),(74,(i 15))]
def e136:SB:=g 11 U e75
def e137:SB:=g 11 U e74
def e138:SB:=w 10 N 3
def e139:SF:=[(4,(i 12))]
def e140:SB:=r B 4
def e141:SF:=[(0,e98),(1,(i 1)),(2,(i 2))]
def e142:SB:=g 11 U e76
def e143:SF:=[(2,(t I 4)),(4,e24),(5,(p 1)),(6,(p 2)),(11,(p 3))]
def e144:SF:=[(2,(t I 4)),(4,e47),(5,(p 2)),(6,(p 3)),(11,(p 4))]
def e145:SF:=[(0,(t D 2)),(3,(q 0 S 0)),(4,(q 1 S 1)),(5,(i 3))]
def e146:SF:=[(0,(s 0)),(1,(.ii .u8 (v 1))),(2,(.ii .u8 (v 2)))]
def e147:SF:=[(4,(i 0))]
def e148:SF:=[(0,e55)]
def e149:SF:=[(2,(t I 3)),(3,(p 0)),(4,(p 1)),(7,e64),(8,(i 4))]
def e150:SB:=g 2 T e92
def e151:SF:=[(1,(p 0)),(14,(t D 1)),(15,(i 2)),(16,(i 3))]
def e152:SF:=[(0,e43)]
def e153:SB:=r I 3
def e154:SB:=g 11 U e77
def e155:SB:=g 2 T e94
def e156:SF:=[(5,e24),(24,(t R 1)),(25,(i 2)),(26,(i 3))]
def e157:SF:=[(0,(s 0))]
def e158:SB:=w 7 F 1
def e159:SF:=[(0,(b 1))]
def e160:SB:=x 1 B 0
def e161:SF:=[(4,(b 0))]
def e162:SB:=x 2 B 0
def e163:SB:=w 10 N 7
def e164:SB:=y e22
def e165:SF:=[(0,(t D 1)),(3,e38),(4,(i 2)),(5,(i 3))]
def e166:SF:=[(0,(.agg [e67,e68]))]
def e167:SF:=[(1,(p 0)),(4,(i 1))]
def e168:SF:=[(0,(i 12))]
def e169:SF:=[(2,(p 3)),(3,(p 6))]
def e170:SB:=g 2 T [(q 7 B 4),e65]
def e171:SB:=g 12 C e79
def e172:SB:=g 11 U e78
def e173:SF:=[(0,(.agg (c K 0)))]
def e174:SB:=r I 5
def e175:SB:=g 4 QmU [e57,e34,(i 5),(i 6)]
def e176:SB:=g 4 QmU [e21,e30,(i 3),(i 4)]
def e177:SB:=w 2 P 5
def e178:SB:=w 7 F 6
def e179:SF:=[(0,(p 0)),(3,(p 7)),(7,(t I 13))]
def e180:SF:=[(0,(t D 1)),(3,(p 0)),(4,(b 2))]
def e181:SF:=[(0,(t I 0)),(1,(i 1)),(5,(i 2))]
def e182:SH:=[e100,e102,e110,e132,d,d,e119,e172,d,d,e164,e101,e117,e140,e174]
def e183:SH:=[e103,d,d,d,e100,e102,e101,e116]
def e184:SH:=[e107,e125,d,d,d,e100,e102,e101]
def e185:SH:=[e113,e100,e102,e101]
def e186:SH:=[e104,d,d,e105,e102,e101,e177,e178,e163]
def e187:SH:=[e107,e128,e100,e102,e101]
def e188:SH:=[e100,e102,e110,e150,d,d,e119,e137,d,d,e164,e101,e117,e140,e174]
def e189:SH:=[e100,e102,e110,e155,e101,e117,e119,g 11 U e85,e140,e174,e164]
def e190:SH:=[e136,e100,e108,e101,e117]
def e191:SH:=[e103,d,d,d,e100,e102,e101]
def e192:SH:=[e105,e118,e115,e138]
def e193:SH:=[g 11 U e88,d,d,e100,e102,e101,e153,e140,r B 5]
def e194:SH:=[e107,g 11 U e86,d,d,w 10 N 13,x 11 I 2,d,x 12 I 3,d,e100,e108,r I 2,e153]
def e195:SH:=[e154,e100,e108]
def e196:SH:=[e162,d,e100]
def e197:SH:=[e105]
def e198:SH:=[e160,e100]
def e199:SH:=[g 11 U e82,e100,e108,e155,e101,e117,e170,e140,r B 5]
def e200:SH:=[e107,g 11 U e80,d,d,x 9 B 2,d,y e50,e100,e108,e101]
def e201:SH:=[e171,e100,e102,e101,e153]
def e202:SH:=[e118,e115,e105]
def e203:SH:=[e105,e118,e115]
def e204:SH:=[w 10 N 1,e105]
def e205:SH:=[e100,e102,e101,e117]
def e206:SH:=[g 12 C e87,d,d,d,e100,e102,e101,e153]
def e207:SH:=[e107,g 11 U e81,d,d,y e53,e100,e108]
def e208:SH:=[e105,w 2 P 2,w 7 F 3,w 10 N 4,e108]
def e209:SH:=[e129,e158]
def e210:SH:=[e115,g 4 QmU e96,e100,e102]
def e211:SH:=[e142,e100,e108,e101,e117,r I 4]
def e212:SH:=[g 11 U e84,d,d,e100,e108,r I 2]
def f2:Fam:=a 193 [(0,(s 0)),(1,(s 1))] [] [S,S] [S,S,B] true
def f3:Fam:=a 209 [(0,(s 0)),(1,(s 1))] [] [S,S] [S] true
def f8:Fam:=a 17 [(0,e98)] [] [P] [I]
def f12:Fam:=a 42 [(0,e98)] [] [P] [I]
def f13:Fam:=a 50 e111 [] [e3] [I]
def f15:Fam:=o 2 17 0 0 [(1,(p 0)),(19,(i 1)),(20,(i 2))] [e129] [P,I,I] fun X Y Z=>[⟨(.exit 0),[],[],[]⟩,⟨.ret,[(2,(i 0))],[],m [I]⟩]
def f18:Fam:=a 107 e111 [] [e3] [I]
def f19:Fam:=a 112 e111 [] [e3] [B]
def f21:Fam:=o 2 42 0 0 e167 [e129] [P,I] fun X Y Z=>[⟨(.exit 0),[],[],[]⟩,⟨.ret,[(2,(i 0))],[],m [I]⟩]
def f22:Fam:=a 113 e111 [] [e3] [B]
def f24:Fam:=a 51 e114 [] [P,I] [I,I]
def f27:Fam:=a 155 e111 [] [e3] [B]
def f28:Fam:=o 2 112 0 0 [(8,(t D 0)),(9,(i 1)),(10,(i 2))] [] [e3,I,I] fun X Y Z=>[⟨.ret,e106,[],k e12 B⟩,⟨(.exit 0),[],[],[]⟩]
def f29:Fam:=a 114 e111 [] [e3] [B]
def f30:Fam:=a 156 e111 [] [e3] [B]
def f32:Fam:=a 108 e114 [] [P,I] [I,I]
def f33:Fam:=o 2 113 0 0 [(55,(t D 0)),(56,(i 1)),(57,(i 2))] [] [e3,I,I] fun X Y Z=>[⟨(.exit 0),[],[],[]⟩,⟨.ret,e106,[],k e11 B⟩]
def f35:Fam:=o 1 119 0 4 e134 e185 e14 fun X Y Z=>[⟨.ret,e168,e191,h Z [0,1,2,3,4,5,6,7,8,9,10,11]++m [I]⟩]
def f37:Fam:=o 2 155 0 0 e130 [] [e3,I] fun X Y Z=>[⟨.ret,e106,[],k e12 B⟩,⟨(.exit 0),[],[],[]⟩]
def f38:Fam:=o 3 152 0 0 [(0,(t K 0)),(1,(.fn 164 []))] [] [e9] fun X Y Z=>[⟨.ret,[(0,(b 0))],[],m [B]⟩]
def f40:Fam:=o 2 50 0 0 e151 [e109] [e3,e3,I,I] fun X Y Z=>[⟨(.exit 0),[(1,(p 0))],Y,h Z [0]⟩,⟨.ret,[(2,(i 0))],[],k (.il 10) I⟩]
def f41:Fam:=a 157 e111 [] [e3] [B]
def f43:Fam:=o 2 114 0 0 e133 ([.map S B (v 0),.map S B (v 1)]) ([(L e8),(L e8),e3,I,I]) fun X Y Z=>[⟨.ret,e106,[],k e12 B⟩,⟨(.exit 0),[],[],[]⟩]
def f44:Fam:=o 2 156 0 0 [(0,(t D 0)),(5,(i 1))] [] [e3,I] fun X Y Z=>[⟨(.exit 0),[],[],[]⟩,⟨.ret,e106,[],k e11 B⟩]
def f46:Fam:=a 160 e114 [] [P,I] [I]
def f47:Fam:=a 165 e157 [] [S] [B]
def f49:Fam:=a 170 e157 [] [S] [B]
def f51:Fam:=o 2 155 2 0 e131 [] [e3,I,I] fun X Y Z=>[⟨.ret,e106,[],k e12 B⟩,⟨(.exit 2),e130,[],h Z [0,1]⟩]
def f52:Fam:=o 3 185 0 0 [(0,(t K 0)),(1,(.fn 164 []))] [] [e9] fun X Y Z=>[⟨.ret,[(0,(i 0))],[],m [I]⟩]
def f53:Fam:=a 158 e111 [] [e3] [B]
def f54:Fam:=o 2 108 0 0 [(2,(p 0)),(7,(p 1)),(8,(p 2)),(9,e63),(10,(i 7))] ([w 2 P 3,w 7 F 4,e175,e100,e102,r I 2]) [e1,e1,e2,P,F,I,I,I] fun X Y Z=>[⟨(.exit 0),[(2,(p 0)),(7,(p 1)),(8,(p 2)),(9,e63)],Y,h Z [0,1]++m [e2]++h Z [3,4,5,6]⟩]
def f55:Fam:=o 3 152 0 0 [(0,(t K 0)),(1,(.fn 166 []))] [] [e9] fun X Y Z=>[⟨.ret,[(0,(b 0))],[],m [B]⟩]
def f56:Fam:=o 2 119 0 4 [(2,(p 7)),(5,(p 8)),(22,(t F 13)),(23,(i 14)),(24,(i 15))] ([e103,d,d,d,e100,e102,e101,y (p 0),w 7 F 12]) [e1,e1,e1,e3,e5,S,I,I,e4,e6,I,B,F,e5,I,I] fun X Y Z=>[⟨.ret,e139,(Y.take 7),h Z [0,1,2,3,4,5,6,7,8,9,10,11]++k (.il 8) I⟩,⟨(.exit 0),[(2,(p 7)),(5,(p 8))],Y,h Z [0,1,2,3,4,5,6,7,8,9,10,11,12]⟩]
def f58:Fam:=o 2 50 2 0 [(1,(p 0)),(14,(t D 1)),(15,(i 2)),(16,(i 3)),(21,(t K 4)),(22,(i 5)),(23,(i 6))] [e109] [e3,e3,I,I,e9,I,I] fun X Y Z=>[⟨(.exit 2),e151,Y,h Z [0,1,2,3]⟩,⟨.ret,[(2,(i 0))],[],k (.il 10) I⟩]
def f59:Fam:=o 2 157 0 0 e145 ([r S 0,r S 1]) ([(L S),(L S),e3,I]) fun X Y Z=>[⟨(.exit 0),[],[],[]⟩,⟨.ret,e106,[],k e12 B⟩]
def f61:Fam:=o 2 114 2 0 [(3,(.map 0)),(4,(.map 1)),(12,(t D 2)),(13,(i 3)),(14,(i 4)),(26,(t K 5)),(27,(i 6)),(28,(i 7))] ([.map S B (v 0),.map S B (v 1)]) ([(L e8),(L e8),e3,I,I,e9,I,I]) fun X Y Z=>[⟨.ret,e106,[],k e12 B⟩,⟨(.exit 2),e133,Y,h Z [0]++m [(L e8)]++h Z [2,3,4]⟩]
def f62:Fam:=a 186 e157 [] [S] [B]
def f64:Fam:=a 189 e157 [] [S] [B]
def f65:Fam:=o 2 165 0 0 [(0,(s 0)),(23,(i 1)),(24,(i 2))] [] [S,I,I] fun X Y Z=>[⟨.ret,e106,[],k e11 B⟩,⟨(.exit 0),[],[],[]⟩]
def f66:Fam:=a 194 e146 [] ([S,(.int .u8),(.int .u8)]) [B]
def f68:Fam:=o 2 185 0 0 [(0,(t K 0)),(1,(.fn 164 [])),(7,(i 1)),(8,(i 2))] [] [e9,I,I] fun X Y Z=>[⟨(.exit 0),[],[],[]⟩,⟨.ret,e147,[],m [I]⟩]
def f69:Fam:=a 118 e111 [] [e3] [B]
def f70:Fam:=a 159 e111 [] [e3] [B]
def f71:Fam:=o 2 156 2 0 [(0,(t D 0)),(5,(i 1)),(6,(i 2))] [] [e3,I,I] fun X Y Z=>[⟨.ret,e106,[],k e11 B⟩,⟨(.exit 2),[(0,(t D 0)),(5,(i 1))],[],h Z [0,1]⟩]
def f72:Fam:=o 2 160 0 0 [(1,(i 2)),(2,(p 0)),(5,(p 1)),(6,(i 3))] e209 [P,F,I,I] fun X Y Z=>[⟨.ret,e147,[],k (.il 8) I⟩,⟨(.exit 0),[(2,(p 0)),(5,(p 1))],Y,h Z [0,1]⟩]
def f73:Fam:=o 2 158 0 0 e130 [] [e3,I] fun X Y Z=>[⟨(.exit 0),[],[],[]⟩,⟨.ret,e106,[],k e11 B⟩]
def f74:Fam:=o 3 185 0 0 [(0,(t K 0)),(1,(.fn 166 []))] [] [e9] fun X Y Z=>[⟨.ret,[(0,(i 0))],[],m [I]⟩]
def f76:Fam:=o 1 115 0 1 [(0,(t I 1)),(1,(f 116 [0]))] [e109] [e3,e2] fun X Y Z=>[⟨.ret,e159,Y,h Z [0]++m [B]⟩]
def f77:Fam:=a 187 [(0,(t S 0)),(1,(s 1))] [] ([(L S),S]) [B]
def f78:Fam:=o 2 186 0 0 [(0,(s 0)),(3,(i 1))] [] [S,I] fun X Y Z=>[⟨.ret,e106,[],k e11 B⟩,⟨(.exit 0),e157,[],h Z [0]⟩]
def f79:Fam:=o 2 189 0 0 [(0,(s 0)),(3,(i 1))] [] [S,I] fun X Y Z=>[⟨(.exit 0),e157,[],h Z [0]⟩,⟨.ret,e106,[],m [B]⟩]
def f81:Fam:=a 164 e173 [] [K] [B]
def f82:Fam:=o 1 161 0 4 [(0,(p 0)),(1,(.agg (c P 5))),(2,(.agg (c F 6))),(3,(i 7)),(4,(q 3 I 2))] ([e176,e100,e102,r I 2]) [e1,e1,e2,I,I,P,F,I] fun X Y Z=>[⟨.ret,e148,[e104,d,d,e105,e102,e101],h Z [2]++m [e1,e1,I,I]⟩]
def f83:Fam:=o 1 171 0 4 e134 e185 e14 fun X Y Z=>[⟨.ret,e122,Y,h Z [0,1,2,3,4,5,6,7,8,9,10,11]++m [B]⟩]
def f86:Fam:=o 2 157 2 0 [(0,(t D 2)),(3,(q 0 S 0)),(4,(q 1 S 1)),(5,(i 3)),(6,(i 4))] ([r S 0,r S 1]) ([(L S),(L S),e3,I,I]) fun X Y Z=>[⟨.ret,e106,[],k e12 B⟩,⟨(.exit 2),e145,Y,h Z [0]++m [(L S)]++h Z [2,3]⟩]
def f87:Fam:=o 2 118 0 0 e180 e198 [e1,e3,B] fun X Y Z=>[⟨(.exit 0),[(3,(p 0))],Y,m [e1]⟩]
def f88:Fam:=o 2 159 0 0 [(0,(t D 1)),(3,e38),(4,(i 2))] [e100] [e1,e3,I] fun X Y Z=>[⟨(.exit 0),[(3,e38)],Y,m [e1]⟩]
def f89:Fam:=o 2 158 2 0 e131 [] [e3,I,I] fun X Y Z=>[⟨(.exit 2),e130,[],h Z [0,1]⟩,⟨.ret,e106,[],k e11 B⟩]
def f90:Fam:=o 2 185 0 0 [(0,(t K 0)),(1,(.fn 166 [])),(7,(i 1)),(8,(i 2))] [] [e9,I,I] fun X Y Z=>[⟨(.exit 0),[],[],[]⟩,⟨.ret,e147,[],m [I]⟩]
def f92:Fam:=o 1 167 0 1 [(0,(t I 1)),(1,(f 116 [0]))] [e109] [e3,e2] fun X Y Z=>[⟨.ret,[(0,(i 1))],Y,h Z [0]++m [I]⟩]
def f93:Fam:=o 2 187 0 0 [(0,(t S 0)),(1,(s 1)),(5,(i 2))] [] ([(L S),S,I]) fun X Y Z=>[⟨.ret,e161,[],k e12 B⟩,⟨(.exit 0),[],[],[]⟩]
def f94:Fam:=a 203 e146 [] ([S,(.int .u8),(.int .u8)]) [B]
def f96:Fam:=o 2 51 0 0 [(6,(p 0)),(7,(p 1)),(61,(i 13)),(62,(i 14))] ([w 7 F 3,g 12 C e90,e100,e102,e101]) [e1,e1,e1,F,e3,e5,S,I,I,e4,e6,I,B,I,I] fun X Y Z=>[⟨(.exit 0),[(6,(p 0)),(7,(p 1))],Y,h Z [0]++m [e1,e1]++h Z [3,4,5,6,7,8,9,10,11,12]⟩]
def f97:Fam:=a 190 e114 [] [P,I] [B]
def f99:Fam:=o 1 192 0 4 [(0,(p 0)),(1,(.agg (c P 5))),(2,(.agg (c F 6))),(3,(.agg (c N 7))),(4,(q 3 I 2))] ([e176,e100,e102,r I 2]) [e1,e1,e2,I,I,P,F,N] fun X Y Z=>[⟨.ret,[(0,(i 5))],[e104,d,d,e105,e102,e101],h Z [2,0]++m [e1]++h Z [3,4]++m [I]⟩]
def f101:Fam:=o 2 118 2 0 [(0,(t D 1)),(3,(p 0)),(4,(b 2)),(15,(i 3)),(16,(i 4))] e198 [e1,e3,B,I,I] fun X Y Z=>[⟨(.exit 2),e180,Y,m [e1]++h Z [1]++m [B]⟩]
def f102:Fam:=o 2 159 2 0 e165 [e100] [e1,e3,I,I] fun X Y Z=>[⟨(.exit 2),[(0,(t D 1)),(3,e38),(4,(i 2))],Y,m [e1]++h Z [1,2]⟩]
def f103:Fam:=o 2 158 4 0 [(0,(t D 0)),(3,(i 1)),(4,(i 2)),(5,(t I 3)),(6,(i 4))] [] [e3,I,I,e2,I] fun X Y Z=>[⟨(.exit 4),e131,[],h Z [0,1,2]⟩,⟨.ret,e106,[],k e11 B⟩]
def f104:Fam:=a 166 e173 [] [K] [B]
def f106:Fam:=o 2 167 0 1 [(0,(t I 1)),(1,(f 116 [0])),(7,(i 2)),(8,(i 3))] [e109] [e3,e2,I,I] fun X Y Z=>[⟨(.exit 0),[],Y,h Z [0]⟩,⟨.ret,[(4,(i 1))],Y,h Z [0]++m [I]⟩]
def f107:Fam:=o 2 203 0 0 [(0,(s 0)),(7,(i 1))] [] [S,I] fun X Y Z=>[⟨(.exit 0),[],[],[]⟩,⟨.ret,[(6,(b 0))],[],k e11 B⟩]
def f108:Fam:=o 1 172 0 5 [(0,(t V 12)),(1,(f 173 [0]))] e187 e15 fun X Y Z=>[⟨.ret,e122,e184,h Z [0,1,2,3,4,5,6,7,8,9,10,11]++m [B]⟩]
def f110:Fam:=o 2 160 2 0 [(2,(p 0)),(5,(p 1)),(7,(i 2))] e209 [P,F,I] fun X Y Z=>[⟨.ret,e147,[],k (.il 10) I⟩,⟨(.exit 2),[(2,(p 0)),(5,(p 1))],Y,h Z [0,1]⟩]
def f111:Fam:=a 122 [(0,(t B 0)),(1,(b 1))] [] [e1,B] [B]
def f112:Fam:=o 2 159 8 0 [(3,e38),(10,(i 1))] [e100] [e1,I] fun X Y Z=>[⟨.ret,e106,[],k e11 B⟩,⟨(.exit 8),[],[],[]⟩]
def f115:Fam:=a 204 e152 [] [N] [B]
def f117:Fam:=o 1 152 0 2 [(0,(t K 1)),(1,(f 168 [0]))] e198 [e1,e9] fun X Y Z=>[⟨.ret,e159,e196,h Z [0]++m [B]⟩]
def f118:Fam:=o 2 159 4 0 [(0,(t D 1)),(3,e38),(4,(i 2)),(5,(i 3)),(6,(i 4))] [e100] [e1,e3,I,I,I] fun X Y Z=>[⟨(.exit 4),e165,Y,m [e1]++h Z [1,2,3]⟩]
def f119:Fam:=a 188 e112 [] [e3,I] [B]
def f121:Fam:=o 1 116 0 1 [(0,(i 1)),(1,(p 0))] [e109] [e3,I] fun X Y Z=>[⟨.ret,e159,Y,h Z [0]++m [B]⟩]
def f122:Fam:=a 215 [(0,(.ii .u8 (v 0)))] [] ([(.int .u8)]) [B]
def f123:Fam:=o 1 120 0 4 e134 e185 e14 fun X Y Z=>[⟨.ret,[(0,(.tup [(i 12),(i 13)]))],e191,m [e1,e1,e1]++h Z [3,4,5,6,7,8,9,10,11]++m [I,I]⟩]
def f126:Fam:=a 200 e152 [] [N] [e2]
def f128:Fam:=o 1 195 0 5 [(0,(t V 12)),(1,(f 173 [0]))] e187 e15 fun X Y Z=>[⟨.ret,e168,e184,h Z [0,1,2,3,4,5,6,7,8,9,10,11]++m [I]⟩]
def f130:Fam:=a 121 [(0,(t B 0)),(1,(b 1))] [] [e1,B] [I]
def f133:Fam:=o 1 185 0 2 [(0,(t K 1)),(1,(f 168 [0]))] e198 [e1,e9] fun X Y Z=>[⟨.ret,[(0,(i 1))],e196,h Z [0]++m [I]⟩]
def f134:Fam:=o 2 159 6 0 [(0,(t D 1)),(3,e38),(4,(i 2)),(5,(i 3)),(6,(i 4)),(7,(b 5)),(8,(t I 6)),(9,(i 7))] [e100] [e1,e3,I,I,I,B,e2,I] fun X Y Z=>[⟨(.exit 6),[(0,(t D 1)),(3,e38),(4,(i 2)),(5,(i 3)),(6,(i 4)),(7,(b 5))],Y,h Z [0,1,2,3,4]++m [B]⟩]
def f135:Fam:=a 117 e112 [] [e3,I] [B]
def f136:Fam:=o 2 160 4 0 [(2,(p 0)),(5,(p 1)),(8,(i 2))] e209 [P,F,I] fun X Y Z=>[⟨(.exit 4),[],[],[]⟩,⟨.ret,e147,[],k (.il 11) I⟩]
def f138:Fam:=o 2 192 0 4 [(0,(p 0)),(4,(q 3 I 0)),(6,(p 6)),(7,(p 7)),(8,(p 8)),(11,(t I 8)),(12,(i 9))] e186 e16 fun X Y Z=>[⟨(.exit 0),[(0,(p 0)),(6,(p 6)),(7,(p 7)),(8,(p 8))],Y,h Z [0,1,2,3,4,5,6,7]⟩,⟨.ret,[(10,(i 5))],(Y.take 6),h Z [0,1,2,3,4]++k (.il 9) I⟩]
def f140:Fam:=o 1 175 0 4 [(0,(p 0)),(1,(.agg (c N 12)))] e185 [e1,e1,e1,e3,e5,S,I,I,e4,e6,I,B,N] fun X Y Z=>[⟨.ret,e168,e191,h Z [0]++m [e1]++h Z [2,3,4,5,6,7,8,9,10,11]++m [I]⟩]
def f142:Fam:=o 2 200 0 0 e120 e204 [e2,N,I] fun X Y Z=>[⟨(.exit 0),[(1,(p 0)),(3,e47)],Y,m [e2]++h Z [1]⟩]
def f143:Fam:=o 2 195 0 5 [(0,(t V 12)),(1,(f 173 [0])),(7,(i 13)),(8,(i 14))] e184 e20 fun X Y Z=>[⟨(.exit 0),[],Y,h Z [0,1,2,3,4,5,6,7,8,9,10,11]⟩,⟨.ret,e139,Y,h Z [0,1,2,3,4,5,6,7,8,9,10,11]++m [I]⟩]
def f145:Fam:=o 2 121 0 0 [(0,(t B 0)),(1,(b 1)),(7,(i 2)),(8,(i 3))] [] [e1,B,I,I] fun X Y Z=>[⟨.ret,e147,[],m [I]⟩,⟨(.exit 0),[],[],[]⟩]
def f146:Fam:=o 2 185 0 2 [(0,(t K 1)),(1,(f 168 [0])),(7,(i 2)),(8,(i 3))] e196 [e1,e9,I,I] fun X Y Z=>[⟨(.exit 0),[],Y,h Z [0]⟩,⟨.ret,[(4,(i 1))],Y,h Z [0]++m [I]⟩]
def f149:Fam:=a 55 e152 [] [N] [e2]
def f150:Fam:=a 191 e112 [] [e3,I] [B]
def f152:Fam:=a 205 [(0,(t I 0)),(1,(i 1))] [] [e2,I] [B]
def f153:Fam:=a 196 e152 [] [N] [B]
def f155:Fam:=o 1 173 0 5 [(0,(.agg (c V 12))),(1,(p 0))] e187 [e1,e1,e1,e3,e5,S,I,I,e4,e6,I,B,V] fun X Y Z=>[⟨.ret,e122,Y,h Z [0,1,2,3,4,5,6,7,8,9,10,11]++m [B]⟩]
def f157:Fam:=o 1 168 0 2 [(0,(.agg (c K 1))),(1,(p 0))] e198 [e1,K] fun X Y Z=>[⟨.ret,e159,e196,h Z [0]++m [B]⟩]
def f158:Fam:=a 54 e152 [] [N] [e2]
def f161:Fam:=o 2 200 2 0 [(1,(p 0)),(3,e47),(5,(i 2))] e204 [e2,N,I] fun X Y Z=>[⟨(.exit 2),[(3,e24)],e197,m [e2]⟩]
def f162:Fam:=a 131 e152 [] [N] [e2]
def f166:Fam:=a 96 e152 [] [N] [e2]
def f167:Fam:=o 2 55 1 0 e120 e204 [e2,N,I] fun X Y Z=>[⟨(.exit 1),[(3,e24)],e197,m [e2]⟩]
def f168:Fam:=o 2 191 0 0 [(0,(t D 0)),(1,(i 1)),(5,(i 2))] [] [e3,I,I] fun X Y Z=>[⟨.ret,e161,[],k e11 B⟩,⟨(.exit 0),[],[],[]⟩]
def f169:Fam:=o 2 205 0 0 e181 [] [e2,I,I] fun X Y Z=>[⟨.ret,e161,[],k e12 B⟩,⟨(.exit 0),[],[],[]⟩]
def f170:Fam:=a 136 [(0,(i 0))] [] [I] [QF0,B]
def f172:Fam:=o 1 115 0 2 [(0,(t I 1)),(1,(f 169 [0]))] e198 [e1,e2] fun X Y Z=>[⟨.ret,e159,e196,h Z [0]++m [B]⟩]
def f173:Fam:=o 2 192 2 4 [(0,(p 0)),(6,(p 6)),(7,(p 7)),(8,(p 8)),(13,(t I 8)),(14,(i 9))] e186 e16 fun X Y Z=>[⟨.ret,[(10,(i 5))],(Y.take 6),h Z [0,1,2,3,4]++k (.il 2) I⟩,⟨(.exit 2),[(0,(p 0)),(6,(p 6)),(7,(p 7)),(8,(p 8)),(13,(t I 8))],Y,h Z [0,1,2,3,4,5,6,7,8]⟩]
def f175:Fam:=o 2 175 0 4 [(0,(p 0)),(3,(p 7)),(18,(t I 13)),(19,(i 14)),(20,(i 15))] e183 e17 fun X Y Z=>[⟨.ret,e139,(Y.take 7),h Z [0,1,2,3,4,5,6,7,8,9,10,11]++k (.il 9) I⟩,⟨(.exit 0),[(0,(p 0)),(3,(p 7))],Y,h Z [0,1,2,3,4,5,6,7,8,9,10,11,12]⟩]
def f177:Fam:=a 78 e152 [] [N] [e2]
def f179:Fam:=o 2 54 1 0 e120 e204 [e2,N,I] fun X Y Z=>[⟨(.exit 1),[(3,e24)],e197,m [e2]⟩]
def f182:Fam:=o 2 131 0 0 [(5,e24),(32,(q 1 I 1)),(33,(i 2)),(34,(i 3))] [e105,e108] [e2,e2,I,I] fun X Y Z=>[⟨(.exit 0),[(5,e24)],(Y.take 1),m [e2]⟩]
def f186:Fam:=o 2 96 0 0 e156 e197 ([e2,(L R),I,I]) fun X Y Z=>[⟨(.exit 0),[(5,e24)],Y,m [e2]⟩]
def f187:Fam:=o 3 178 0 0 [] [] [] fun X Y Z=>[⟨.ret,[(0,(.agg [(i 0),(b 1),(b 2),(b 3),(b 4),(b 5),(b 6),(b 7),(b 8),(i 9),(b 10),(b 11),(b 12),(b 13),(b 14),(b 15),(b 16),(b 17),(i 18),(b 19),(b 20),(b 21),(b 22),(b 23),(b 24),(b 25),(b 26),(i 27),(b 28),(b 29),(b 30),(b 31),(b 32),(b 33),(b 34),(b 35),(i 36),(b 37),(b 38),(b 39),(b 40),(b 41),(b 42),(b 43),(b 44),(i 45),(b 46),(b 47),(b 48),(b 49),(b 50),(b 51),(b 52),(b 53),(i 54),(b 55),(b 56),(b 57),(b 58),(b 59),(b 60),(b 61),(b 62),(i 63),(b 64),(b 65),(b 66),(b 67),(b 68),(b 69),(b 70),(b 71),(i 72),(b 73),(b 74),(b 75),(b 76),(b 77),(b 78),(b 79),(b 80),(i 81),(b 82),(b 83),(b 84),(b 85),(b 86),(b 87),(b 88),(b 89)]))],[],k (.il 1) I++k e11 B++k e11 B++k e11 B++k e11 B++k e11 B++k e11 B++k e11 B++k e11 B++k (.il 0) I++k e12 B++k e11 B++k e12 B++k e11 B++k e11 B++k e11 B++k e12 B++k e11 B++k (.il 2) I++k e12 B++k e11 B++k e12 B++k e11 B++k e11 B++k e11 B++k e12 B++k e11 B++k (.il (-1)) I++k e12 B++k e12 B++k e11 B++k e11 B++k e11 B++k e11 B++k e12 B++k e11 B++k (.il 1) I++k e12 B++k e11 B++k e11 B++k e11 B++k e11 B++k e11 B++k e12 B++k e11 B++k (.il 1) I++k e11 B++k e11 B++k e11 B++k e11 B++k e11 B++k e11 B++k e12 B++k e11 B++k (.il (-1)) I++k e12 B++k e11 B++k e11 B++k e12 B++k e11 B++k e11 B++k e12 B++k e11 B++k (.il (-1)) I++k e11 B++k e11 B++k e11 B++k e12 B++k e11 B++k e11 B++k e11 B++k e11 B++k (.il (-1)) I++k e11 B++k e12 B++k e12 B++k e12 B++k e12 B++k e11 B++k e11 B++k e11 B++k (.il 1) I++k e11 B++k e11 B++k e11 B++k e11 B++k e11 B++k e12 B++k e11 B++k e12 B⟩]
def f189:Fam:=o 1 167 0 2 [(0,(t I 1)),(1,(f 169 [0]))] e198 [e1,e2] fun X Y Z=>[⟨.ret,[(0,(i 1))],e196,h Z [0]++m [I]⟩]
def f190:Fam:=o 1 172 0 5 [(0,(t V 12)),(1,(f 174 [0]))] e187 e15 fun X Y Z=>[⟨.ret,e122,e184,h Z [0,1,2,3,4,5,6,7,8,9,10,11]++m [B]⟩]
def f191:Fam:=o 2 161 0 4 [(0,(p 0)),(4,(q 3 I 0)),(6,(p 6)),(7,(p 7)),(10,(p 8)),(11,(t I 8)),(12,(i 9))] e186 e16 fun X Y Z=>[⟨.ret,[],(Y.take 6),h Z [0]++m [e1]++h Z [2,3]++k (.il 3) I⟩,⟨(.exit 0),[(0,(p 0)),(4,(q 3 I 0)),(6,(p 6)),(7,(p 7)),(10,(p 8)),(11,(t I 8))],Y,h Z [0]++m [e1]++h Z [2,3,4,5,6,7,8]⟩]
def f193:Fam:=o 2 78 0 0 e156 e197 ([e2,(L R),I,I]) fun X Y Z=>[⟨(.exit 0),[(5,e24)],Y,m [e2]⟩]
def f197:Fam:=o 2 167 0 2 [(0,(t I 1)),(1,(f 169 [0])),(7,(i 2)),(8,(i 3))] e196 [e1,e2,I,I] fun X Y Z=>[⟨(.exit 0),[],Y,h Z [0]⟩,⟨.ret,[(4,(i 1))],Y,h Z [0]++m [I]⟩]
def f198:Fam:=o 2 108 2 0 [(7,(p 0)),(8,(p 1)),(11,(i 5))] e210 [e1,e1,F,I,I,I] fun X Y Z=>[⟨.ret,[(4,(i 0)),(5,(i 1))],[],m [I]++k (.il 3) I⟩,⟨(.exit 2),[(7,(p 0)),(8,(p 1))],Y,h Z [0,1,2,3,4]⟩]
def f199:Fam:=o 2 192 4 4 [(0,(p 0)),(6,(p 6)),(7,(p 7)),(8,(p 8)),(13,(t I 8)),(15,(i 9))] e186 e16 fun X Y Z=>[⟨.ret,[(10,(i 5))],(Y.take 6),h Z [0,1]++m [e1]++h Z [3,4]++k (.il 8) I⟩,⟨(.exit 4),[(6,(p 6)),(7,(p 7)),(8,(p 8))],Y,h Z [0,1]++m [e1]++h Z [3,4,5,6,7]⟩]
def f201:Fam:=o 2 175 2 4 [(0,(p 0)),(3,(p 7)),(7,(t I 13)),(48,(t I 14)),(49,(i 15)),(50,(i 16))] e183 e19 fun X Y Z=>[⟨.ret,e139,(Y.take 7),h Z [0,1,2,3,4,5,6,7,8,9,10,11]++k (.il 2) I⟩,⟨(.exit 2),e179,Y,h Z [0,1,2,3,4,5,6,7,8,9,10,11,12,13]⟩]
def f203:Fam:=o 1 195 0 5 [(0,(t V 12)),(1,(f 174 [0]))] e187 e15 fun X Y Z=>[⟨.ret,e168,e184,h Z [0,1,2,3,4,5,6,7,8,9,10,11]++m [I]⟩]
def f206:Fam:=o 1 169 0 2 [(0,(i 1)),(1,(p 0))] e198 [e1,I] fun X Y Z=>[⟨.ret,e159,Y,h Z [0]++m [B]⟩]
def f207:Fam:=o 2 161 2 4 [(0,(p 0)),(4,(q 3 I 0)),(6,(p 6)),(7,(p 7)),(10,(p 8)),(11,(t I 8)),(13,(i 9))] e186 e16 fun X Y Z=>[⟨.ret,[],(Y.take 6),h Z [0]++m [e1,e1,I,I]⟩,⟨(.exit 2),[],(Y.take 6),h Z [0]++m [e1,e1,I,I]⟩]
def f208:Fam:=o 2 120 0 4 [(0,(p 0)),(1,(i 13)),(6,(p 7)),(8,(t I 14)),(37,(t I 15)),(38,(i 16)),(39,(i 17))] e183 [e1,e1,e1,e3,e5,S,I,I,e4,e6,I,B,N,I,e2,e2,I,I] fun X Y Z=>[⟨.ret,[(4,(i 12)),(5,(i 13))],(Y.take 7),m [e1]++h Z [1,2,3,4,5,6,7,8,9,10,11,13]++k (.il 3) I⟩,⟨(.exit 0),[(0,(p 0)),(6,(p 7)),(8,(t I 13))],Y,m [e1]++h Z [1,2,3,4,5,6,7,8,9,10,11,12,14]⟩]
def f210:Fam:=o 2 195 0 5 [(0,(t V 12)),(1,(f 174 [0])),(7,(i 13)),(8,(i 14))] e184 e20 fun X Y Z=>[⟨(.exit 0),[],Y,h Z [0,1,2,3,4,5,6,7,8,9,10,11]⟩,⟨.ret,e139,Y,h Z [0,1,2,3,4,5,6,7,8,9,10,11]++m [I]⟩]
def f211:Fam:=o 2 108 4 0 [(7,(p 0)),(8,(p 1)),(12,(i 5))] e210 [e1,e1,F,I,I,I] fun X Y Z=>[⟨.ret,[(4,(i 0)),(5,(i 1))],[],k (.il (-1)) I++k (.il 3) I⟩,⟨(.exit 4),[],[],[]⟩]
def f212:Fam:=a 206 e127 [] [P,F,N] [B]
def f214:Fam:=o 2 175 4 4 [(0,(p 0)),(3,(p 7)),(7,(t I 13)),(103,(t I 14)),(104,(i 15)),(105,(i 16))] e183 e19 fun X Y Z=>[⟨.ret,e139,(Y.take 7),h Z [0]++m [e1]++h Z [2,3,4,5,6,7,8,9,10,11]++k (.il 8) I⟩,⟨(.exit 4),e179,Y,h Z [0]++m [e1]++h Z [2,3,4,5,6,7,8,9,10,11,12,13]⟩]
def f216:Fam:=o 1 174 0 5 [(0,(.agg (c V 12))),(1,(p 0))] e187 [e1,e1,e1,e3,e5,S,I,I,e4,e6,I,B,V] fun X Y Z=>[⟨.ret,e122,e184,h Z [0,1,2,3,4,5,6,7,8,9,10,11]++m [B]⟩]
def f217:Fam:=a 207 e127 [] [P,F,N] [B]
def f218:Fam:=o 2 120 2 4 e135 e183 e17 fun X Y Z=>[⟨(.exit 2),[],(Y.take 7),m [e1,e1,e1]++h Z [3,4,5,6,7,8,9,10,11]⟩,⟨.ret,[(4,(i 12)),(5,(i 13))],(Y.take 7),m [e1,e1,e1]++h Z [3,4,5,6,7,8,9,10,11]++m [I,I]⟩]
def f219:Fam:=a 216 [(0,(.agg (c F 0))),(1,(i 1))] [] [F,I] [I]
def f220:Fam:=a 218 [(0,e98),(1,e99),(2,(i 2)),(3,(t I 3))] [] [P,F,I,e2] [B]
def f221:Fam:=a 217 [(0,e98),(1,e99),(2,(i 2)),(3,(i 3)),(4,(t I 4)),(5,(i 5))] [] [P,F,I,I,e2,I] [B]
def f222:Fam:=a 102 e112 [] [e3,I] [B]
def f223:Fam:=o 1 197 0 4 [(0,(p 0)),(1,(.agg (c N 12)))] e185 [e1,e1,e1,e3,e5,S,I,I,e4,e6,I,B,N] fun X Y Z=>[⟨.ret,e122,e191,h Z [0,1,2,3,4,5,6,7,8,9,10,11]++m [B]⟩]
def f224:Fam:=o 2 206 1 0 [(3,(p 0)),(4,(p 1)),(5,(p 2)),(8,(i 3)),(9,(i 4))] ([e129,e158,w 10 N 2]) [P,F,N,I,I] fun X Y Z=>[⟨.ret,[(6,(b 0))],[],k e11 B⟩,⟨(.exit 1),[],[],[]⟩]
def f225:Fam:=o 2 207 0 0 [(3,(p 0)),(4,(p 1)),(5,(p 2)),(7,(t I 3)),(8,(i 4))] ([e129,e158,w 10 N 2]) [P,F,N,e2,I] fun X Y Z=>[⟨.ret,[(6,(b 0))],[],k e11 B⟩,⟨(.exit 0),[],[],[]⟩]
def f226:Fam:=o 2 120 4 4 [(0,(p 0)),(6,(p 7)),(12,(i 13)),(13,(t I 14)),(72,(t I 15)),(73,(i 16)),(74,(i 17)),(90,(t I 18)),(91,(i 19)),(92,(i 20))] e183 [e1,e1,e1,e3,e5,S,I,I,e4,e6,I,B,N,I,e2,e2,I,I,e2,I,I] fun X Y Z=>[⟨(.exit 4),[(0,(p 0)),(6,(p 7)),(12,(i 13)),(13,(t I 14)),(72,(t I 15)),(73,(i 16)),(74,(i 17))],Y,h Z [0,1]++m [e1]++h Z [3,4,5,6,7,8,9,10,11,12,13,14,15,16,17]⟩]
def f227:Fam:=o 2 218 0 0 [(3,(t I 2)),(5,(p 0)),(9,(p 1)),(10,(i 3))] ([w 7 F 0,e158]) [F,F,e2,I] fun X Y Z=>[⟨.ret,[(8,(b 0))],[],k e11 B⟩,⟨(.exit 0),[],[],[]⟩]
def f228:Fam:=o 2 217 0 0 [(2,(i 2)),(3,(i 3)),(4,(t I 4)),(5,(i 5)),(6,(p 0)),(7,(p 1)),(13,(i 6))] e209 [P,F,I,I,e2,I,I] fun X Y Z=>[⟨.ret,[(12,(b 0))],[],k e11 B⟩,⟨(.exit 0),[],[],[]⟩]
def f229:Fam:=a 153 e112 [] [e3,I] [e9]
def f231:Fam:=o 3 152 0 0 [(0,(t K 0)),(1,(.fn 154 []))] [] [e9] fun X Y Z=>[⟨.ret,[(0,(b 0))],[],m [B]⟩]
def f232:Fam:=o 1 210 0 5 [(0,(i 12)),(1,(p 0))] e187 e14 fun X Y Z=>[⟨.ret,e168,Y,h Z [0,1,2,3,4,5,6,7,8,9,10,11]++m [I]⟩]
def f233:Fam:=o 1 212 0 5 [(0,(p 0)),(1,(t I 13)),(2,(q 4 I 3)),(3,(i 14))] e201 [e1,e1,e1,e2,e3,e5,S,I,I,e4,e6,I,B,e2,I] fun X Y Z=>[⟨.ret,[(0,(b 13))],Y,h Z [0,1,2,3,4,5,6,7,8,9,10,11,12]++m [B]⟩]
def f234:Fam:=o 1 211 0 6 [(0,(i 12)),(1,(p 0)),(2,(p 5))] ([e107,e128,e100,e102,e101,y (f 210 [0])]) e14 fun X Y Z=>[⟨.ret,e122,[e107,g 12 C [(t D 3),(t F 4),(s 5),(i 6),(i 7),(t V 8),(t N 9),(i 10),(b 11),(q 6 B 0),(q 7 B 1),(q 8 B 2)],d,d,d,y (f 210 [0]),e100,e102,e101],h Z [0,1,2,3,4,5,6,7,8,9,10,11]++m [B]⟩]
def f235:Fam:=o 1 214 0 4 [(0,(p 0)),(1,(i 12)),(2,(t I 13))] e185 [e1,e1,e1,e3,e5,S,I,I,e4,e6,I,B,I,e2] fun X Y Z=>[⟨.ret,e122,e191,h Z [0,1,2,3,4,5,6,7,8,9,10,11]++m [B]⟩]
def f236:Fam:=o 1 213 0 4 [(0,(p 0)),(1,(i 12)),(2,(i 13))] e185 [e1,e1,e1,e3,e5,S,I,I,e4,e6,I,B,I,I] fun X Y Z=>[⟨.ret,[(0,(.tup [(q 4 I 3),(b 13)]))],e201,h Z [0,1,2]++k .nl e2++h Z [3,4,5,6,7,8,9,10,11]++k e11 B⟩,⟨.ret,[(0,(.tup [(t I 12),(b 13)]))],Y,h Z [0,1,2,3,4,5,6,7,8,9,10,11]++m [e2]++k e12 B⟩]
def f237:Fam:=o 2 120 6 4 [(0,(p 0)),(6,(p 7)),(72,(t I 13)),(73,(i 14)),(74,(i 15)),(113,(t I 16)),(114,(i 17)),(115,(i 18))] e183 [e1,e1,e1,e3,e5,S,I,I,e4,e6,I,B,N,e2,I,I,e2,I,I] fun X Y Z=>[⟨(.exit 6),e135,Y,h Z [0,1]++m [e1]++h Z [3,4,5,6,7,8,9,10,11,12,13,14,15]⟩]
def f239:Fam:=o 3 185 0 0 [(0,(t K 0)),(1,(.fn 154 []))] [] [e9] fun X Y Z=>[⟨.ret,[(0,(i 0))],[],m [I]⟩]
def f240:Fam:=o 2 212 0 5 [(0,(p 0)),(2,(q 4 I 3)),(3,(i 13)),(16,(t I 14)),(17,(i 15)),(18,(i 16))] e201 [e1,e1,e1,e2,e3,e5,S,I,I,e4,e6,I,B,I,e2,I,I] fun X Y Z=>[⟨.ret,[(8,(b 13))],Y,h Z [0,1,2,3,4,5,6,7,8,9,10,11,12]++k e11 B⟩,⟨(.exit 0),[],Y,h Z [0,1,2,3,4,5,6,7,8,9,10,11,12]⟩]
def f241:Fam:=o 1 227 0 4 e134 e185 e14 fun X Y Z=>[⟨.ret,[(0,(.tup [(q 7 I 3),(b 13)]))],e206,h Z [0,1,2]++m [e2]++h Z [3,4,5,6,7,8,9,10,11]++m [B]⟩]
def f242:Fam:=o 1 212 0 4 [(0,(p 0)),(1,(t I 12)),(2,(t I 13)),(3,(i 14))] e185 [e1,e1,e1,e3,e5,S,I,I,e4,e6,I,B,e2,e2,I] fun X Y Z=>[⟨.ret,e122,Y,h Z [0,1,2,3,4,5,6,7,8,9,10,11]++m [B]⟩]
def f243:Fam:=o 2 197 1 4 [(2,(p 7)),(12,(i 12)),(259,(t R 13)),(260,(i 14)),(261,(i 15))] ([e103,d,d,d,e100,e102,e101,y (p 0)]) ([e1,e1,e1,e3,e5,S,I,I,e4,e6,I,B,I,(L R),I,I]) fun X Y Z=>[⟨.ret,[(4,(b 12))],(Y.take 7),h Z [0,1,2,3,4,5,6,7,8,9,10,11]++k e11 B⟩,⟨(.exit 1),[],(Y.take 7),h Z [0,1,2,3,4,5,6,7,8,9,10,11]⟩]
def f244:Fam:=o 2 185 0 0 [(0,(t K 0)),(1,(.fn 154 [])),(7,(i 1)),(8,(i 2))] [] [e9,I,I] fun X Y Z=>[⟨(.exit 0),[],[],[]⟩,⟨.ret,e147,[],m [I]⟩]
def f245:Fam:=o 2 227 0 4 [(7,(q 7 I 3)),(33,(t V 13)),(34,(i 14)),(35,(i 15))] e206 [e1,e1,e1,e2,e3,e5,S,I,I,e4,e6,I,B,e4,I,I] fun X Y Z=>[⟨(.exit 0),[(7,(q 7 I 3))],Y,h Z [0,1,2]++m [e2]++h Z [4,5,6,7,8,9,10,11,12]⟩]
def f246:Fam:=o 2 175 6 4 [(0,(p 0)),(3,(p 7)),(127,(t I 13)),(128,(i 14)),(129,(i 15))] e183 e17 fun X Y Z=>[⟨.ret,e139,(Y.take 7),h Z [0,1,2,3,4,5,6,7,8,9,10,11]++k (.il 11) I⟩,⟨(.exit 6),[],(Y.take 7),h Z [0,1,2,3,4,5,6,7,8,9,10,11]⟩]
def f247:Fam:=o 2 212 0 4 [(0,(p 0)),(2,(t I 12)),(3,(i 13)),(16,(t I 14)),(17,(i 15)),(18,(i 16))] e185 [e1,e1,e1,e3,e5,S,I,I,e4,e6,I,B,e2,I,e2,I,I] fun X Y Z=>[⟨.ret,[(8,(b 12))],Y,h Z [0,1,2,3,4,5,6,7,8,9,10,11]++k e11 B⟩,⟨(.exit 0),[],Y,h Z [0,1,2,3,4,5,6,7,8,9,10,11]⟩]
def f248:Fam:=a 154 e173 [] [K] [B]
def f254:Fam:=a 12 [] [] [] [B] true
def f256:Fam:=a 13 [(0,e98)] [] [P] [B]
def f258:Fam:=o 2 13 0 0 [(1,(p 0)),(3,(i 1))] [e129] [P,I] fun X Y Z=>[⟨.ret,e106,[],k e11 B⟩,⟨(.exit 0),[(1,(p 0))],Y,h Z [0]⟩]
def f260:Fam:=o 1 40 0 0 e114 [] [P,I] fun X Y Z=>[⟨.ret,[(0,(p 0))],e195,m [e1,e2,e3,e5,S,I,I,e4,e6,I,B]⟩]
def f262:Fam:=o 2 13 2 0 e167 [e129] [P,I] fun X Y Z=>[⟨.ret,e106,[],k e11 B⟩,⟨(.exit 2),[(1,(p 0))],Y,h Z [0]⟩]
def f264:Fam:=o 2 40 0 0 [(2,(p 0)),(5,(p 1)),(22,(t V 12)),(23,(i 13)),(24,(i 14))] ([w 2 P 2,y (p 2),g 11 U e84,e100,e108]) [e1,e2,P,e3,e5,S,I,I,e4,e6,I,B,e4,I,I] fun X Y Z=>[⟨(.exit 0),[(5,(p 0))],[e107,g 11 U e91,e100,e108],m [e1,e2]++h Z [3,4,5,6,7,8,9,10,11]⟩]
def f267:Fam:=o 2 13 4 0 [(1,(p 0)),(4,(i 2)),(5,(p 1)),(6,(i 3))] e209 [P,F,I,I] fun X Y Z=>[⟨.ret,e106,[],k e11 B⟩,⟨(.exit 4),e167,(Y.take 1),h Z [0,2]⟩]
def f268:Fam:=a 44 [(0,e98),(1,e99)] [] [P,F] [e2]
def f269:Fam:=o 1 103 0 5 [(0,(i 11)),(1,(p 0)),(2,(p 4))] ([e107,g 11 U e91,e100,e108,y e53]) e18 fun X Y Z=>[⟨.ret,e148,e207,h Z [0]++m [e2]++h Z [2,3,4,5,6,7,8,9,10]⟩]
def f270:Fam:=a 46 [(0,(.agg (c F 0)))] [] [F] [e2]
def f273:Fam:=o 2 44 0 0 [(2,(p 0)),(3,(p 1)),(5,e64),(6,(i 3))] e202 [e2,P,F,I] fun X Y Z=>[⟨(.exit 0),[(2,(p 0)),(3,(p 1)),(5,e64)],Y,m [e2]++h Z [1,2]⟩]
def f275:Fam:=a 45 [(0,e98),(1,e99),(2,(t I 2))] [] [P,F,e2] [e2]
def f276:Fam:=o 2 103 0 5 [(1,(p 0)),(2,(p 4)),(4,(p 7)),(26,(t I 12)),(27,(i 13)),(28,(i 14))] ([e107,g 11 U e81,d,d,y e53,e100,e108,w 10 N 11]) [e1,e2,e3,e5,S,I,I,e4,e6,I,B,N,e2,I,I] fun X Y Z=>[⟨(.exit 0),[(2,(p 4)),(4,(p 7))],Y,h Z [0]++m [e2]++h Z [2,3,4,5,6,7,8,9,10,11]⟩]
def f277:Fam:=o 2 103 2 5 [(2,(p 4)),(58,(t I 11)),(59,(i 12)),(60,(i 13))] e207 [e1,e2,e3,e5,S,I,I,e4,e6,I,B,e2,I,I] fun X Y Z=>[⟨(.exit 2),[],Y,h Z [0]++m [e2]++h Z [2,3,4,5,6,7,8,9,10]⟩]
def f278:Fam:=o 2 46 0 0 e120 [e158,e105] [e2,F,I] fun X Y Z=>[⟨(.exit 0),[(3,e24)],e197,m [e2]⟩]
def f279:Fam:=a 110 [(0,e98),(1,e99),(2,(i 2))] [] [P,F,I] [B]
def f281:Fam:=o 1 111 0 1 [(0,(.agg (c P 1))),(1,(.agg (c F 2))),(2,(i 3)),(3,e24)] e197 [e2,P,F,I] fun X Y Z=>[⟨.ret,e148,Y,m [e2]⟩]
def f282:Fam:=o 1 80 0 3 [(0,(p 0))] e195 [e1,e2,e3,e5,S,I,I,e4,e6,I,B] fun X Y Z=>[⟨.ret,[(0,(.agg [e28,e61]))],e190,h Z [0,1]++m [e1,e1]++h Z [2,3,4,5,6,7,8,9,10]⟩,⟨.ret,[(0,(.agg [e28,(.sl 4 e13 (v 13))]))],e190,h Z [0,1]++m [e1,e1]++h Z [2,3,4,5,6,7,8,9,10]++m [.nat]⟩]
def f283:Fam:=o 2 45 0 0 e149 e202 [e2,P,F,e2,I] fun X Y Z=>[⟨(.exit 0),[(7,e24)],e197,m [e2]⟩]
def f284:Fam:=a 163 e112 [] [e3,I] [B]
def f286:Fam:=o 2 111 0 1 e123 e192 ([e2,P,F,N,(L R),I,I]) fun X Y Z=>[⟨(.exit 0),[(3,e24),(4,(p 1)),(5,(p 2)),(8,(p 3))],Y,m [e2]++h Z [1,2,3]⟩]
def f287:Fam:=o 2 111 4 1 [(3,e24),(4,(p 1)),(5,(p 2)),(60,(t I 3)),(61,(i 4)),(62,(i 5))] e203 [e2,P,F,e2,I,I] fun X Y Z=>[⟨(.exit 4),[],(Y.take 1),m [e2]⟩]
def f288:Fam:=o 2 80 0 3 [(0,(p 0)),(2,(p 3)),(3,(p 6)),(24,(i 15)),(25,(i 16))] ([g 11 U e82,e100,e108,e155,e101,e117,g 2 T [(q 7 B 4),(q 8 B 5)],e140,r B 5]) [e1,e2,e1,e1,e1,e1,e3,e5,S,I,I,e4,e6,I,B,I,I] fun X Y Z=>[⟨(.exit 0),e169,Y,h Z [0,1,2,3,4,5,6,7,8,9,10,11,12,13,14]⟩,⟨(.exit 0),e169,e199,h Z [0,1,2,3,4]++m [e1]++h Z [6,7,8,9,10,11,12,13,14]++m [.nat]⟩]
def f289:Fam:=o 2 163 0 0 [(5,(t K 0)),(6,(i 1))] [] [e9,I] fun X Y Z=>[⟨.ret,e161,[],k e11 B⟩,⟨(.exit 0),[],[],[]⟩]
def f290:Fam:=a 53 e127 [] [P,F,N] [e2]
def f291:Fam:=o 2 111 2 1 [(3,e24),(4,(p 1)),(5,(p 2)),(8,(p 3)),(29,(t R 4)),(30,(i 5)),(31,(i 6)),(36,(t I 7)),(37,(i 8)),(38,(i 9))] e192 ([e2,P,F,N,(L R),I,I,e2,I,I]) fun X Y Z=>[⟨(.exit 2),e123,Y,m [e2]++h Z [1,2,3,4,5,6]⟩]
def f292:Fam:=o 1 139 0 6 [(0,(p 0)),(1,(.agg [e28,e61])),(2,(q 5 I 4))] e211 [e1,e2,e1,e1,e2,e3,e5,S,I,I,e4,e6,I,B] fun X Y Z=>[⟨.ret,e148,Y,h Z [0,1,2]++m [e1]++h Z [4,5,6,7,8,9,10,11,12,13]⟩]
def f293:Fam:=a 142 e127 [] [P,F,N] [e2]
def f294:Fam:=o 1 125 0 0 [(0,e98),(1,e99),(2,(t I 2))] [] [P,F,e2] fun X Y Z=>[⟨.ret,[(0,e24)],e197,m [e2]⟩]
def f295:Fam:=a 126 [(0,e98),(1,e99),(2,(i 2)),(3,(t I 3)),(4,(b 4))] [] [P,F,I,e2,B] [e2]
def f296:Fam:=o 2 139 0 6 [(0,(p 0)),(4,(p 6)),(8,(q 5 I 4)),(9,(i 14)),(10,(i 15))] ([e142,e100,e108,e101,e117,r I 4,g 2 T [e28,e61]]) [e1,e2,e1,e1,e2,e3,e5,S,I,I,e4,e6,I,B,I,I] fun X Y Z=>[⟨(.exit 0),[],(Y.take 6),h Z [0,1,2]++m [e1]++h Z [4,5,6,7,8,9,10,11,12,13]⟩]
def f299:Fam:=o 2 125 0 0 e149 e202 [e2,P,F,e2,I] fun X Y Z=>[⟨(.exit 0),[(7,e24)],e197,m [e2]⟩]
def f300:Fam:=o 2 126 0 0 [(2,(i 3)),(3,(t I 4)),(4,(b 5)),(5,(p 0)),(6,(p 1)),(11,e64),(12,(i 6))] e202 [e2,P,F,I,e2,B,I] fun X Y Z=>[⟨(.exit 0),[(11,e24)],e197,m [e2]⟩]
def f301:Fam:=o 1 181 0 3 [(0,(p 0)),(1,(i 11))] e195 e18 fun X Y Z=>[⟨.ret,[(0,(b 11))],Y,h Z [0,1,2,3,4,5,6,7,8,9,10]++m [B]⟩]
def f304:Fam:=o 2 111 4 1 [(3,(.sl 0 e13 (v 3))),(4,(p 1)),(5,(p 2)),(60,(t I 4)),(61,(i 5)),(62,(i 6))] e203 [e2,P,F,.nat,e2,I,I] fun X Y Z=>[⟨(.exit 4),[],(Y.take 1),m [e2]⟩]
def f305:Fam:=o 1 138 0 3 [(0,(p 0)),(1,(.agg (c N 11)))] e195 [e1,e2,e3,e5,S,I,I,e4,e6,I,B,N] fun X Y Z=>[⟨.ret,[(0,(.tup [e63,e66]))],[g 11 U [(t D 4),(t F 5),(s 6),(i 7),(i 8),(t V 9),(t N 10),(i 11),(b 12),e57,e58],d,d,e100,e108,r I 2,e153],h Z [0,1]++m [e2,e2]++h Z [2,3,4,5,6,7,8,9,10]⟩]
def f306:Fam:=a 84 [(0,(t I 0)),(1,(i 1))] [] [e2,I] [B]
def f307:Fam:=o 1 111 0 1 [(0,(.agg (c P 1))),(1,(.agg (c F 2))),(2,(i 3)),(3,e51)] e197 [e2,P,F,I,.nat] fun X Y Z=>[⟨.ret,e148,Y,m [e2]⟩]
def f308:Fam:=o 1 180 0 3 [(0,(p 0)),(1,(t I 11))] e195 [e1,e2,e3,e5,S,I,I,e4,e6,I,B,e2] fun X Y Z=>[⟨.ret,[(0,e63)],e212,h Z [0,1]++m [e2]++h Z [2,3,4,5,6,7,8,9,10]⟩]
def f309:Fam:=o 1 179 0 9 [(0,(t I 14)),(1,(p 0)),(2,(p 4)),(3,(p 5)),(4,(p 7))] ([e107,g 11 U [(t D 4),(t F 5),(s 6),(i 7),(i 8),(t V 9),(t N 10),(i 11),(b 12),e35,(q 3 I 1)],e100,e108,w 10 N 13,x 6 I 2,r I 2,x 8 I 3,e153]) [e1,e2,e2,e2,e3,e5,S,I,I,e4,e6,I,B,N,e2] fun X Y Z=>[⟨.ret,e148,e194,h Z [0,1]++m [e2,e2]++h Z [4,5,6,7,8,9,10,11,12,13]⟩]
def f311:Fam:=o 2 80 0 3 [(0,(p 0)),(2,(p 3)),(3,(p 6)),(24,(i 16)),(25,(i 17))] e199 [e1,e2,e1,e1,e1,e1,e3,e5,S,I,I,e4,e6,I,B,.nat,I,I] fun X Y Z=>[⟨(.exit 0),e169,Y,h Z [0,1,2,3,4]++m [e1]++h Z [6,7,8,9,10,11,12,13,14,15]⟩]
def f313:Fam:=o 2 84 0 0 e181 [] [e2,I,I] fun X Y Z=>[⟨.ret,e161,[],k e12 B⟩,⟨(.exit 0),[],[],[]⟩]
def f314:Fam:=o 2 111 0 1 e124 e192 ([e2,P,F,N,.nat,(L R),I,I]) fun X Y Z=>[⟨(.exit 0),[(3,e51),(4,(p 1)),(5,(p 2)),(8,(p 3))],Y,m [e2]++h Z [1,2,3,4]⟩]
def f315:Fam:=o 2 180 0 3 [(0,(p 0)),(5,e63),(8,(t I 12)),(9,(i 13)),(10,(i 14))] e212 [e1,e2,e2,e3,e5,S,I,I,e4,e6,I,B,e2,I,I] fun X Y Z=>[⟨(.exit 0),[(5,e63)],Y,h Z [0,1]++m [e2]++h Z [3,4,5,6,7,8,9,10,11]⟩]
def f316:Fam:=o 2 179 0 9 [(1,(p 0)),(2,(p 4)),(3,(p 5)),(4,(p 7)),(8,(t I 14)),(9,(i 15)),(10,(i 16))] e194 [e1,e2,e2,e2,e3,e5,S,I,I,e4,e6,I,B,N,e2,I,I] fun X Y Z=>[⟨(.exit 0),[],Y,h Z [0,1]++m [e2,e2]++h Z [4,5,6,7,8,9,10,11,12,13]⟩]
def f318:Fam:=o 1 139 0 6 [(0,(p 0)),(1,(.agg [e28,e56])),(2,(q 5 I 4))] e211 [e1,e2,e1,e1,e2,e3,e5,S,I,I,e4,e6,I,B,.nat] fun X Y Z=>[⟨.ret,e148,Y,h Z [0,1,2]++m [e1]++h Z [4,5,6,7,8,9,10,11,12,13]⟩]
def f319:Fam:=o 2 111 2 1 [(3,e51),(4,(p 1)),(5,(p 2)),(8,(p 3)),(29,(t R 5)),(30,(i 6)),(31,(i 7)),(36,(t I 8)),(37,(i 9)),(38,(i 10))] e192 ([e2,P,F,N,.nat,(L R),I,I,e2,I,I]) fun X Y Z=>[⟨(.exit 2),e124,Y,m [e2]++h Z [1,2,3,4,5,6,7]⟩]
def f324:Fam:=a 141 [(0,(t e2 0))] [] ([(L e2)]) [e2]
def f325:Fam:=o 2 139 0 6 [(0,(p 0)),(4,(p 6)),(8,(q 5 I 4)),(9,(i 15)),(10,(i 16))] ([e142,e100,e108,e101,e117,r I 4,g 2 T [e28,e56]]) [e1,e2,e1,e1,e2,e3,e5,S,I,I,e4,e6,I,B,.nat,I,I] fun X Y Z=>[⟨(.exit 0),[],(Y.take 6),h Z [0,1,2]++m [e1]++h Z [4,5,6,7,8,9,10,11,12,13]⟩]
def f328:Fam:=o 2 141 0 0 [(0,(t e2 0)),(3,(i 1)),(9,(t e2 2)),(10,(i 3)),(11,(i 4))] [] ([(L e2),I,(L e2),I,I]) fun X Y Z=>[⟨(.exit 0),[(0,(t e2 0)),(3,(i 1))],[],h Z [0]++m [I]⟩]
def f332:Fam:=o 1 182 0 0 [(0,.nils),(1,(i 0))] [] [I] fun X Y Z=>[⟨.ret,[(0,(.sl 0 e13 (v 1)))],e197,m [e2,.nat]⟩,⟨.ret,[(0,.nils)],[],[]⟩]
def f339:Fam:=o 2 141 2 0 [(6,(.sl 0 e13 (v 1))),(25,(t e2 2)),(26,(i 3)),(27,(i 4))] e197 ([e2,.nat,(L e2),I,I]) fun X Y Z=>[⟨(.exit 2),[(6,(.sl 0 e13 (v 1)))],Y,h Z [0,1]⟩,⟨(.exit 2),[(6,e24)],Y,m [e2]⟩]
def f340:Fam:=o 2 141 2 0 [(6,e24),(25,(t e2 1)),(26,(i 2)),(27,(i 3))] e197 ([e2,(L e2),I,I]) fun X Y Z=>[⟨(.exit 2),[(6,e24)],Y,m [e2]⟩]
def f343:Fam:=o 1 79 0 5 [(0,(p 0)),(1,(.agg (c N 13))),(2,(i 14)),(3,(.agg [e28,e61]))] e190 [e1,e2,e1,e1,e3,e5,S,I,I,e4,e6,I,B,N,I] fun X Y Z=>[⟨.ret,e166,e193,h Z [2,3,0,1]++m [e1,e1]++h Z [4,5,6,7,8,9,10,11,12]++m [.nat,.nat]⟩]
def f348:Fam:=o 1 137 0 2 [(0,(.agg e97))] [e100,e102] [e1,e1] fun X Y Z=>[⟨.ret,[(0,(.agg e95))],e205,h Z [0,1]++m [e1,e1,.nat,.nat]⟩]
def f354:Fam:=o 2 79 0 5 [(0,(p 0)),(2,(i 21)),(5,(p 7)),(8,(p 8)),(9,(p 11)),(22,(q 14 I 8)),(23,(i 22)),(24,(i 23))] ([g 11 U [(t D 9),(t F 10),(s 11),(i 12),(i 13),(t V 14),(t N 15),(i 16),(b 17),e31,e66],d,d,e100,e102,e101,e153,w 10 N 18,g 2 T [(q 9 B 4),(q 10 B 5)],e140,r B 5,g 2 T [(.sl 12 e13 (v 19)),(.sl 13 e13 (v 20))],r B 6,r B 7,r I 8]) [e1,e1,e1,e2,e1,e1,e1,e1,e2,e3,e5,S,I,I,e4,e6,I,B,N,.nat,.nat,I,I,I] fun X Y Z=>[⟨(.exit 0),[(0,(p 0)),(2,(i 20)),(5,(p 7)),(8,(p 8)),(9,(p 11))],[g 11 U [(t D 8),(t F 9),(s 10),(i 11),(i 12),(t V 13),(t N 14),(i 15),(b 16),e31,e66],d,d,e100,e102,e101,e153,w 10 N 17,g 2 T [(q 9 B 4),(q 10 B 5)],e140,r B 5,g 2 T [(.sl 12 e13 (v 18)),(.sl 13 e13 (v 19))],r B 6,r B 7],h Z [0,1,2,3,4,5]++m [e1]++h Z [7,9,10,11,12,13,14,15,16,17,18,19,20,21]⟩]
def f362:Fam:=o 1 139 0 5 [(0,(p 0)),(1,(.agg [(.sl 3 e13 (v 13)),e56])),(2,(t I 15))] e190 [e1,e2,e1,e1,e3,e5,S,I,I,e4,e6,I,B,.nat,.nat,e2] fun X Y Z=>[⟨.ret,e148,Y,h Z [0,1,2]++m [e1]++h Z [4,5,6,7,8,9,10,11,12]⟩]
def f363:Fam:=o 1 79 0 5 [(0,(p 0)),(1,(.agg (c N 13))),(2,(i 14)),(3,(.agg [e28,(.sl 4 e13 (v 15))]))] e190 [e1,e2,e1,e1,e3,e5,S,I,I,e4,e6,I,B,N,I,.nat] fun X Y Z=>[⟨.ret,e166,e193,h Z [2,3,0,1]++m [e1,e1]++h Z [4,5,6,7,8,9,10,11,12]++m [.nat,.nat]⟩]
def f364:Fam:=o 2 139 0 5 [(0,(p 0)),(4,(p 5)),(8,(t I 15)),(9,(i 16)),(10,(i 17))] ([e136,e100,e108,e101,e117,g 2 T [(.sl 3 e13 (v 13)),e56]]) [e1,e2,e1,e1,e3,e5,S,I,I,e4,e6,I,B,.nat,.nat,e2,I,I] fun X Y Z=>[⟨(.exit 0),[],(Y.take 5),h Z [0,1,2]++m [e1]++h Z [4,5,6,7,8,9,10,11,12]⟩]
def f365:Fam:=o 1 137 0 2 [(0,(.agg [e38,(.sl 1 e13 (v 2))]))] [e100,e102] [e1,e1,.nat] fun X Y Z=>[⟨.ret,[(0,(.agg e95))],e205,h Z [0,1]++m [e1,e1,.nat,.nat]⟩]
def f375:Fam:=o 1 79 0 5 [(0,(p 0)),(1,(.agg (c N 13))),(2,(i 14)),(3,(.agg [(.sl 3 e13 (v 15)),(.sl 4 e13 (v 16))]))] e190 [e1,e2,e1,e1,e3,e5,S,I,I,e4,e6,I,B,N,I,.nat,.nat] fun X Y Z=>[⟨.ret,e166,e193,h Z [2,3,0,1]++m [e1,e1]++h Z [4,5,6,7,8,9,10,11,12]++m [.nat,.nat]⟩]
def f376:Fam:=o 1 137 0 2 [(0,(.agg [(.sl 0 e13 (v 2)),(.sl 1 e13 (v 3))]))] [e100,e102] [e1,e1,.nat,.nat] fun X Y Z=>[⟨.ret,[(0,(.agg e95))],e205,h Z [0,1]++m [e1,e1,.nat,.nat]⟩]
def f384:Fam:=a 9 e141 [] [P,I,I] [B]
def f385:Fam:=a 27 e114 [] [P,I] [e2,I]
def f386:Fam:=a 28 e114 [] [P,I] [e2,I]
def f387:Fam:=a 29 e141 [] [P,I,I] [e2,I]
def f388:Fam:=a 30 e141 [] [P,I,I] [e2,I]
def f389:Fam:=o 1 77 0 11 [(0,(i 16)),(1,(.agg e97)),(2,(p 2)),(3,(p 3)),(4,(p 6)),(5,(p 10))] e189 [e1,e1,e1,e1,e1,e2,I,e3,e5,S,I,I,e4,e6,I,B,I] fun X Y Z=>[⟨.ret,[(0,(b 14))],[e100,e102,u I (i 4),g 2 T e97,d,d,e119,g 11 U [(t D 5),(t F 6),(s 7),(i 8),(i 9),(t V 10),(t N 11),(i 12),(b 13),e44,(q 12 I 3)],d,d,e164,e101,e153],h Z [0,1,4,5,6,7,8,9,10,11,12,13,14,15]++k e12 B⟩,⟨.ret,[(0,(b 16))],e188,h Z [0,1,2,3,4,5,6,7,8,9,10,11,12,13,14,15]++k e11 B⟩,⟨.ret,[(0,(b 18))],e182,h Z [0,1]++m [e1,e1]++h Z [4,5,6]++m [.nat,.nat]++h Z [7,8,9,10,11,12,13,14,15]++k e12 B⟩]
def f390:Fam:=o 1 77 0 11 [(0,(i 16)),(1,(.agg [e38,(.sl 1 e13 (v 17))])),(2,(p 2)),(3,(p 3)),(4,(p 6)),(5,(p 10))] e189 [e1,e1,e1,e1,e1,e2,I,e3,e5,S,I,I,e4,e6,I,B,I,.nat] fun X Y Z=>[⟨.ret,[(0,(b 15))],[e100,e102,u I (i 4),g 2 T [e38,(.sl 1 e13 (v 5))],d,d,e119,g 11 U [(t D 6),(t F 7),(s 8),(i 9),(i 10),(t V 11),(t N 12),(i 13),(b 14),e44,(q 12 I 3)],d,d,e164,e101,e153],h Z [0,1,4,5,6,17,7,8,9,10,11,12,13,14,15]++k e12 B⟩,⟨.ret,[(0,(b 16))],e188,h Z [0,1,2,3,4,5,6,7,8,9,10,11,12,13,14,15]++k e11 B⟩,⟨.ret,[(0,(b 18))],e182,h Z [0,1]++m [e1,e1]++h Z [4,5,6]++m [.nat,.nat]++h Z [7,8,9,10,11,12,13,14,15]++k e12 B⟩]
def f391:Fam:=a 31 [(0,(t I 0)),(1,(t I 1))] [] [e2,e2] [B]
def f392:Fam:=a 82 [(0,(.agg (c F 0))),(1,(i 1)),(2,(i 2)),(3,(t I 3))] [] [F,I,I,e2] [e2,B]
def f393:Fam:=o 2 77 0 11 [(0,(i 16)),(4,(p 6)),(5,(p 10)),(7,(p 15)),(23,(t I 17)),(24,(i 18)),(25,(i 19))] ([e100,e102,e110,e150,d,d,e119,e137,d,d,e164,e101,e117,e140,e174,g 2 T e97]) [e1,e1,e1,e1,e1,e2,I,e3,e5,S,I,I,e4,e6,I,B,I,e2,I,I] fun X Y Z=>[⟨(.exit 0),[],(Y.take 15),h Z [0,1,2,3,4,5,6,7,8,9,10,11,12,13,14,15]⟩,⟨.ret,[(8,(b 18))],e182,h Z [0,1]++m [e1,e1]++h Z [4,5,6]++m [.nat,.nat]++h Z [7,8,9,10,11,12,13,14,15]++k e12 B⟩]
def f394:Fam:=o 2 77 0 11 [(0,(i 17)),(4,(p 6)),(5,(p 10)),(7,(p 15)),(23,(t I 18)),(24,(i 19)),(25,(i 20))] ([e100,e102,e110,e150,d,d,e119,e137,d,d,e164,e101,e117,e140,e174,g 2 T [e38,(.sl 1 e13 (v 16))]]) [e1,e1,e1,e1,e1,e2,I,e3,e5,S,I,I,e4,e6,I,B,.nat,I,e2,I,I] fun X Y Z=>[⟨(.exit 0),[],(Y.take 15),h Z [0,1,2,3,4,5,6,7,8,9,10,11,12,13,14,15]⟩,⟨.ret,[(8,(b 18))],e182,h Z [0,1]++m [e1,e1]++h Z [4,5,6]++m [.nat,.nat]++h Z [7,8,9,10,11,12,13,14,15]++k e12 B⟩]
def f395:Fam:=o 1 81 0 3 [(0,(p 0)),(1,(i 11))] e195 e18 fun X Y Z=>[⟨.ret,[(0,e31)],[g 11 U e84,d,d,e100,e108,e101],h Z [0,1]++m [e1]++h Z [2,3,4,5,6,7,8,9,10]⟩]
def f396:Fam:=o 1 83 0 0 [(0,e98),(1,e99),(2,(t I 2)),(3,(i 3)),(4,.nils)] [] [P,F,e2,I] fun X Y Z=>[⟨.ret,[(0,e24)],e197,m [e2]⟩]
def f397:Fam:=o 2 31 0 0 [(0,(t I 0)),(1,(t I 1)),(5,(i 2))] [] [e2,e2,I] fun X Y Z=>[⟨.ret,e161,[],k e11 B⟩,⟨(.exit 0),[],[],[]⟩]
def f398:Fam:=o 2 82 0 0 [(2,(i 1)),(3,(t I 2)),(4,(p 0)),(34,(t R 3)),(35,(i 4)),(36,(i 5))] ([w 7 F 0]) ([F,I,e2,(L R),I,I]) fun X Y Z=>[⟨.ret,[(8,(t I 0)),(9,(b 1))],[],m [e2]++k e12 B⟩,⟨(.exit 0),[],[],[]⟩]
def f399:Fam:=o 2 82 2 0 [(2,(i 2)),(3,(t I 3)),(4,(p 0)),(10,(p 1)),(59,(t I 4)),(60,(i 5)),(61,(i 6))] ([w 7 F 0,w 10 N 1]) [F,N,I,e2,e2,I,I] fun X Y Z=>[⟨.ret,[(8,(t I 0)),(9,(b 1))],[],m [e2]++k e12 B⟩,⟨(.exit 2),[],[],[]⟩]
def f400:Fam:=o 1 77 0 11 [(0,(i 16)),(1,(.agg [(.sl 0 e13 (v 17)),(.sl 1 e13 (v 18))])),(2,(p 2)),(3,(p 3)),(4,(p 6)),(5,(p 10))] e189 [e1,e1,e1,e1,e1,e2,I,e3,e5,S,I,I,e4,e6,I,B,I,.nat,.nat] fun X Y Z=>[⟨.ret,[(0,(b 16))],[e100,e102,u I (i 4),g 2 T [(.sl 0 e13 (v 5)),(.sl 1 e13 (v 6))],d,d,e119,g 11 U [(t D 7),(t F 8),(s 9),(i 10),(i 11),(t V 12),(t N 13),(i 14),(b 15),e44,(q 12 I 3)],d,d,e164,e101,e153],h Z [0,1,4,5,6,17,18,7,8,9,10,11,12,13,14,15]++k e12 B⟩,⟨.ret,[(0,(b 18))],e182,h Z [0,1]++m [e1,e1]++h Z [4,5,6]++m [.nat,.nat]++h Z [7,8,9,10,11,12,13,14,15]++k e12 B⟩,⟨.ret,[(0,(b 16))],e188,h Z [0,1,2,3,4,5,6,7,8,9,10,11,12,13,14,15]++k e11 B⟩]
def f401:Fam:=o 1 140 0 7 [(0,(i 12)),(1,(p 0)),(2,(p 4)),(3,(p 6))] ([e107,g 11 U [(t D 3),(t F 4),(s 5),(i 6),(i 7),(t V 8),(t N 9),(i 10),(b 11),e35,(q 3 I 1)],e100,e108,x 5 B 2,e101,y e50]) [e1,e2,e1,e3,e5,S,I,I,e4,e6,I,B,I] fun X Y Z=>[⟨.ret,e148,e200,h Z [0,1]++m [e1]++h Z [3,4,5,6,7,8,9,10,11]⟩]
def f402:Fam:=o 2 83 0 0 e126 e208 [e2,e2,P,F,N,e2,I] fun X Y Z=>[⟨(.exit 0),e143,e192,m [e2]++h Z [2,3,4,5]⟩]
def f403:Fam:=o 2 77 0 11 [(0,(i 18)),(4,(p 6)),(5,(p 10)),(7,(p 15)),(23,(t I 19)),(24,(i 20)),(25,(i 21))] ([e100,e102,e110,e150,d,d,e119,e137,d,d,e164,e101,e117,e140,e174,g 2 T [(.sl 0 e13 (v 16)),(.sl 1 e13 (v 17))]]) [e1,e1,e1,e1,e1,e2,I,e3,e5,S,I,I,e4,e6,I,B,.nat,.nat,I,e2,I,I] fun X Y Z=>[⟨.ret,[(8,(b 18))],e182,h Z [0,1]++m [e1,e1]++h Z [4,5,6]++m [.nat,.nat]++h Z [7,8,9,10,11,12,13,14,15]++k e12 B⟩,⟨(.exit 0),[],(Y.take 15),h Z [0,1,2,3,4,5,6,7,8,9,10,11,12,13,14,15]⟩]
def f404:Fam:=o 2 140 0 7 [(1,(p 0)),(2,(p 4)),(3,(p 6)),(5,(p 10)),(29,(t I 13)),(30,(i 14)),(31,(i 15))] ([e107,g 11 U e80,d,d,x 9 B 2,d,y e50,e100,e108,e101,e116]) [e1,e2,e1,e3,e5,S,I,I,e4,e6,I,B,N,e2,I,I] fun X Y Z=>[⟨(.exit 0),[(3,(p 6)),(5,(p 10))],Y,h Z [0,1]++m [e1]++h Z [3,4,5,6,7,8,9,10,11,12]⟩]
def f405:Fam:=o 2 83 2 0 e121 e203 [e2,P,F,e2,e2,I,I] fun X Y Z=>[⟨(.exit 2),[(4,e24)],(Y.take 1),m [e2]⟩]
def f406:Fam:=o 2 140 2 7 [(3,(p 6)),(46,(t I 12)),(47,(i 13)),(48,(i 14))] e200 [e1,e2,e1,e3,e5,S,I,I,e4,e6,I,B,e2,I,I] fun X Y Z=>[⟨(.exit 2),[],Y,h Z [0,1]++m [e1]++h Z [3,4,5,6,7,8,9,10,11]⟩]
def f407:Fam:=o 1 83 0 1 [(0,(.agg (c P 1))),(1,(.agg (c F 2))),(2,(t I 3)),(3,(i 4)),(4,e24)] e197 [e2,P,F,e2,I] fun X Y Z=>[⟨.ret,[(0,e24)],Y,h Z [0]⟩,⟨.ret,[(0,e47)],[d,e105],m [e2]⟩]
def f408:Fam:=o 2 83 0 1 e126 e208 [e2,e2,P,F,N,e2,I] fun X Y Z=>[⟨(.exit 0),e143,e192,h Z [0,2,3,4,5]⟩,⟨(.exit 0),e144,[d,e105,e118,e115,e138],m [e2]++h Z [2,3,4,5]⟩]
def f409:Fam:=o 2 30 0 0 [(3,(p 0)),(8,(p 1)),(9,(t I 4)),(11,e64),(12,(q 3 I 1)),(13,(i 5))] ([w 2 P 2,w 7 F 3,e105,e108]) [e2,e2,P,F,e2,I] fun X Y Z=>[⟨(.exit 0),[(12,e24)],e197,m [e2]⟩]
def f410:Fam:=o 2 83 0 1 [(2,(t I 5)),(4,e47),(5,(p 2)),(6,(p 3)),(11,(p 4)),(12,(q 5 I 1)),(13,(i 6))] ([d,e105,w 2 P 2,w 7 F 3,w 10 N 4,e108]) [e2,e2,P,F,N,e2,I] fun X Y Z=>[⟨(.exit 0),e144,[d,e105,e118,e115,e138],m [e2]++h Z [2,3,4,5]⟩]
def f411:Fam:=o 2 83 2 1 e121 e203 [e2,P,F,e2,e2,I,I] fun X Y Z=>[⟨(.exit 2),[(4,e24)],(Y.take 1),h Z [0]⟩,⟨(.exit 2),[(4,e47)],[d,e105],m [e2]⟩]
def f412:Fam:=o 2 29 0 0 [(9,(p 0)),(11,(q 3 I 2)),(56,e61),(57,(i 4)),(58,(i 5))] ([g 2 T [e21,e30],e100,e102,r I 2,e117]) [e1,e1,e2,e1,I,I] fun X Y Z=>[⟨(.exit 0),[(11,e24)],e197,m [e2]⟩]
def f413:Fam:=o 2 29 0 0 [(9,(p 0)),(11,(q 3 I 2)),(56,e61),(57,(i 6)),(58,(i 7))] ([g 2 T [(.sl 1 e13 (v 4)),(.sl 2 e13 (v 5))],e100,e102,r I 2,e117]) [e1,e1,e2,e1,.nat,.nat,I,I] fun X Y Z=>[⟨(.exit 0),[(11,e24)],e197,m [e2]⟩]
def f414:Fam:=o 2 29 0 0 [(9,(p 0)),(11,(q 3 I 2)),(56,e61),(57,(i 5)),(58,(i 6))] ([g 2 T [e21,e60],e100,e102,r I 2,e117]) [e1,e1,e2,e1,.nat,I,I] fun X Y Z=>[⟨(.exit 0),[(11,e24)],e197,m [e2]⟩]
def f415:Fam:=o 2 83 2 1 [(2,(t I 3)),(4,e47),(5,(p 2)),(6,(p 3)),(49,(t I 4)),(50,(i 5)),(51,(i 6))] [d,e105,e118,e115] [e2,P,F,e2,e2,I,I] fun X Y Z=>[⟨(.exit 2),[(4,e47)],(Y.take 2),m [e2]⟩]
end T
open T
namespace Tfams
def n:Nat→Tr Fam→Tr Fam→Tr Fam:=.node
def l:Fam→Tr Fam:=.leaf
end Tfams
open Tfams in
def fams:Tr Fam:=
 (n 208 (n 104 (n 52 (n 26 (n 13 (n 6 (n 3 (n 1 (l f415) (n 2 (l f415) (l f2))) (n 4 (l f3) (l f415))) (n 9 (n 7 (l f415) (n 8 (l f415) (l f8))) (n 11 (l f415) (n 12 (l f415) (l f12))))) (n 19 (n 16 (n 14 (l f13) (n 15 (l f415) (l f15))) (n 17 (l f415) (n 18 (l f415) (l f18)))) (n 22 (n 20 (l f19) (n 21 (l f415) (l f21))) (n 24 (n 23 (l f22) (l f415)) (n 25 (l f24) (l f415)))))) (n 39 (n 32 (n 29 (n 27 (l f415) (n 28 (l f27) (l f28))) (n 30 (l f29) (n 31 (l f30) (l f415)))) (n 35 (n 33 (l f32) (n 34 (l f33) (l f415))) (n 37 (n 36 (l f35) (l f415)) (n 38 (l f37) (l f38))))) (n 45 (n 42 (n 40 (l f415) (n 41 (l f40) (l f41))) (n 43 (l f415) (n 44 (l f43) (l f44)))) (n 48 (n 46 (l f415) (n 47 (l f46) (l f47))) (n 50 (n 49 (l f415) (l f49)) (n 51 (l f415) (l f51))))))) (n 78 (n 65 (n 58 (n 55 (n 53 (l f52) (n 54 (l f53) (l f54))) (n 56 (l f55) (n 57 (l f56) (l f415)))) (n 61 (n 59 (l f58) (n 60 (l f59) (l f415))) (n 63 (n 62 (l f61) (l f62)) (n 64 (l f415) (l f64))))) (n 71 (n 68 (n 66 (l f65) (n 67 (l f66) (l f415))) (n 69 (l f68) (n 70 (l f69) (l f70)))) (n 74 (n 72 (l f71) (n 73 (l f72) (l f73))) (n 76 (n 75 (l f74) (l f415)) (n 77 (l f76) (l f77)))))) (n 91 (n 84 (n 81 (n 79 (l f78) (n 80 (l f79) (l f415))) (n 82 (l f81) (n 83 (l f82) (l f83)))) (n 87 (n 85 (l f415) (n 86 (l f415) (l f86))) (n 89 (n 88 (l f87) (l f88)) (n 90 (l f89) (l f90))))) (n 97 (n 94 (n 92 (l f415) (n 93 (l f92) (l f93))) (n 95 (l f94) (n 96 (l f415) (l f96)))) (n 100 (n 98 (l f97) (n 99 (l f415) (l f99))) (n 102 (n 101 (l f415) (l f101)) (n 103 (l f102) (l f103)))))))) (n 156 (n 130 (n 117 (n 110 (n 107 (n 105 (l f104) (n 106 (l f415) (l f106))) (n 108 (l f107) (n 109 (l f108) (l f415)))) (n 113 (n 111 (l f110) (n 112 (l f111) (l f112))) (n 115 (l f415) (n 116 (l f115) (l f415))))) (n 123 (n 120 (n 118 (l f117) (n 119 (l f118) (l f119))) (n 121 (l f415) (n 122 (l f121) (l f122)))) (n 126 (n 124 (l f123) (l f415)) (n 128 (n 127 (l f126) (l f415)) (n 129 (l f128) (l f415)))))) (n 143 (n 136 (n 133 (n 131 (l f130) (l f415)) (n 134 (l f133) (n 135 (l f134) (l f135)))) (n 139 (n 137 (l f136) (n 138 (l f415) (l f138))) (n 141 (n 140 (l f415) (l f140)) (n 142 (l f415) (l f142))))) (n 149 (n 146 (n 144 (l f143) (n 145 (l f415) (l f145))) (n 147 (l f146) (l f415))) (n 152 (n 150 (l f149) (n 151 (l f150) (l f415))) (n 154 (n 153 (l f152) (l f153)) (n 155 (l f415) (l f155))))))) (n 182 (n 169 (n 162 (n 159 (n 157 (l f415) (n 158 (l f157) (l f158))) (n 160 (l f415) (n 161 (l f415) (l f161)))) (n 165 (n 163 (l f162) (l f415)) (n 167 (n 166 (l f415) (l f166)) (n 168 (l f167) (l f168))))) (n 175 (n 172 (n 170 (l f169) (n 171 (l f170) (l f415))) (n 173 (l f172) (n 174 (l f173) (l f415)))) (n 178 (n 176 (l f175) (n 177 (l f415) (l f177))) (n 180 (n 179 (l f415) (l f179)) (l f415))))) (n 195 (n 188 (n 185 (n 183 (l f182) (l f415)) (n 186 (l f415) (n 187 (l f186) (l f187)))) (n 191 (n 189 (l f415) (n 190 (l f189) (l f190))) (n 193 (n 192 (l f191) (l f415)) (n 194 (l f193) (l f415)))))
 (n 201 (n 198 (n 196 (l f415) (n 197 (l f415) (l f197))) (n 199 (l f198) (n 200 (l f199) (l f415)))) (n 204 (n 202 (l f201) (n 203 (l f415) (l f203))) (n 206 (l f415) (n 207 (l f206) (l f207))))))))) (n 312 (n 260 (n 234 (n 221 (n 214 (n 211 (n 209 (l f208) (n 210 (l f415) (l f210))) (n 212 (l f211) (n 213 (l f212) (l f415)))) (n 217 (n 215 (l f214) (n 216 (l f415) (l f216))) (n 219 (n 218 (l f217) (l f218)) (n 220 (l f219) (l f220))))) (n 227 (n 224 (n 222 (l f221) (n 223 (l f222) (l f223))) (n 225 (l f224) (n 226 (l f225) (l f226)))) (n 230 (n 228 (l f227) (n 229 (l f228) (l f229))) (n 232 (n 231 (l f415) (l f231)) (n 233 (l f232) (l f233)))))) (n 247 (n 240 (n 237 (n 235 (l f234) (n 236 (l f235) (l f236))) (n 238 (l f237) (n 239 (l f415) (l f239)))) (n 243 (n 241 (l f240) (n 242 (l f241) (l f242))) (n 245 (n 244 (l f243) (l f244)) (n 246 (l f245) (l f246))))) (n 253 (n 250 (n 248 (l f247) (n 249 (l f248) (l f415))) (l f415)) (n 256 (n 254 (l f415) (n 255 (l f254) (l f415))) (n 258 (n 257 (l f256) (l f415)) (n 259 (l f258) (l f415))))))) (n 286 (n 273 (n 266 (n 263 (n 261 (l f260) (n 262 (l f415) (l f262))) (n 264 (l f415) (n 265 (l f264) (l f415)))) (n 269 (n 267 (l f415) (n 268 (l f267) (l f268))) (n 271 (n 270 (l f269) (l f270)) (l f415)))) (n 279 (n 276 (n 274 (l f273) (n 275 (l f415) (l f275))) (n 277 (l f276) (n 278 (l f277) (l f278)))) (n 282 (n 280 (l f279) (n 281 (l f415) (l f281))) (n 284 (n 283 (l f282) (l f283)) (n 285 (l f284) (l f415)))))) (n 299 (n 292 (n 289 (n 287 (l f286) (n 288 (l f287) (l f288))) (n 290 (l f289) (n 291 (l f290) (l f291)))) (n 295 (n 293 (l f292) (n 294 (l f293) (l f294))) (n 297 (n 296 (l f295) (l f296)) (l f415)))) (n 305 (n 302 (n 300 (l f299) (n 301 (l f300) (l f301))) (n 303 (l f415) (n 304 (l f415) (l f304)))) (n 308 (n 306 (l f305) (n 307 (l f306) (l f307))) (n 310 (n 309 (l f308) (l f309)) (n 311 (l f415) (l f311)))))))) (n 364 (n 338 (n 325 (n 318 (n 315 (n 313 (l f415) (n 314 (l f313) (l f314))) (n 316 (l f315) (n 317 (l f316) (l f415)))) (n 321 (n 319 (l f318) (n 320 (l f319) (l f415))) (n 323 (l f415) (n 324 (l f415) (l f324))))) (n 331 (n 328 (n 326 (l f325) (l f415)) (n 329 (l f328) (l f415))) (n 334 (n 332 (l f415) (n 333 (l f332) (l f415))) (l f415)))) (n 351 (n 344 (n 341 (n 339 (l f415) (n 340 (l f339) (l f340))) (n 342 (l f415) (n 343 (l f415) (l f343)))) (n 347 (l f415) (n 349 (n 348 (l f415) (l f348)) (l f415)))) (n 357 (n 354 (l f415) (n 355 (l f354) (l f415))) (n 360 (l f415) (n 362 (l f415) (n 363 (l f362) (l f363))))))) (n 390 (n 377 (n 370 (n 367 (n 365 (l f364) (n 366 (l f365) (l f415))) (l f415)) (n 373 (l f415) (n 375 (l f415) (n 376 (l f375) (l f376))))) (n 383 (l f415) (n 386 (n 384 (l f415) (n 385 (l f384) (l f385))) (n 388 (n 387 (l f386) (l f387)) (n 389 (l f388) (l f389)))))) (n 403 (n 396 (n 393 (n 391 (l f390) (n 392 (l f391) (l f392))) (n 394 (l f393) (n 395 (l f394) (l f395)))) (n 399 (n 397 (l f396) (n 398 (l f397) (l f398))) (n 401 (n 400 (l f399) (l f400))
 (n 402 (l f401) (l f402))))) (n 409 (n 406 (n 404 (l f403) (n 405 (l f404) (l f405))) (n 407 (l f406) (n 408 (l f407) (l f408)))) (n 412 (n 410 (l f409) (n 411 (l f410) (l f411))) (n 414 (n 413 (l f412) (l f413)) (n 415 (l f414) (l f415))))))))))
namespace Tpfns
def z:Tr (Option Nat):=.leaf none
def n:Nat→Tr (Option Nat)→Tr (Option Nat)→Tr (Option Nat):=.node
def l:(Option Nat)→Tr (Option Nat):=.leaf
end Tpfns
open Tpfns in
def pfns:Tr (Option Nat):=
 (n 132 (n 66 (n 33 (n 16 (n 8 z (n 12 (n 10 (n 9 z (l (some 384))) z) (n 14 (n 13 (l (some 254)) (l (some 256))) z))) (n 24 (n 20 (n 18 (n 17 z (l (some 8))) z) z) (n 28 (n 26 z (n 27 z (l (some 385)))) (n 30 (n 29 (l (some 386)) (l (some 387))) (n 31 (l (some 388)) (n 32 (l (some 391)) z)))))) (n 49 (n 41 z (n 45 (n 43 (n 42 z (l (some 12))) (n 44 z (l (some 268)))) (n 47 (n 46 (l (some 275)) (l (some 270))) z))) (n 57 (n 53 (n 51 (n 50 z (l (some 13))) (n 52 (l (some 24)) z)) (n 55 (n 54 (l (some 290)) (l (some 158))) (n 56 (l (some 149)) z))) z))) (n 99 (n 82 (n 74 z (n 78 z (n 80 (n 79 (l (some 177)) z) z))) (n 90 (n 86 (n 84 (n 83 (l (some 392)) z) (n 85 (l (some 306)) z)) z) (n 94 z (n 96 z (n 97 (l (some 166)) z))))) (n 115 (n 107 (n 103 (n 101 z (n 102 z (l (some 222)))) z) (n 111 (n 109 (n 108 (l (some 18)) (l (some 32))) (n 110 z (l (some 279)))) (n 113 (n 112 z (l (some 19))) (n 114 (l (some 22)) (l (some 29)))))) (n 123 (n 119 (n 117 z (n 118 (l (some 135)) (l (some 69)))) (n 121 z (n 122 (l (some 130)) (l (some 111))))) (n 127 (n 125 z (n 126 z (l (some 295)))) (n 129 z (n 130 z (n 131 z (l (some 162)))))))))) (n 198 (n 165 (n 148 (n 140 (n 136 z (n 138 (n 137 (l (some 170)) z) z)) (n 144 (n 142 (n 141 z (l (some 324))) (n 143 (l (some 293)) z)) z)) (n 156 (n 152 z (n 154 (n 153 z (l (some 229))) (n 155 (l (some 248)) (l (some 27))))) (n 160 (n 158 (n 157 (l (some 30)) (l (some 41))) (n 159 (l (some 53)) (l (some 70)))) (n 162 (n 161 (l (some 46)) z) (n 163 z (n 164 (l (some 284)) (l (some 81)))))))) (n 181 (n 173 (n 169 (n 167 (n 166 (l (some 47)) (l (some 104))) z) (n 171 (n 170 z (l (some 49))) z)) (n 177 z (n 179 (n 178 z (l (some 187))) z))) (n 189 (n 185 z (n 187 (n 186 z (l (some 62))) (n 188 (l (some 77)) (l (some 119))))) (n 193 (n 191 (n 190 (l (some 64)) (l (some 97))) (n 192 (l (some 150)) z)) (n 195 (n 194 (l (some 2)) (l (some 66))) (n 196 z (n 197 (l (some 153)) z))))))) (n 231 (n 214 (n 206 (n 202 (n 200 z (n 201 (l (some 126)) z)) (n 204 (n 203 z (l (some 94))) (n 205 (l (some 115)) (l (some 152))))) (n 210 (n 208 (n 207 (l (some 212)) (l (some 217))) (n 209 z (l (some 3)))) z)) (n 222 (n 218 (n 216 (n 215 z (l (some 122))) (n 217 (l (some 219)) (l (some 221)))) (n 220 (n 219 (l (some 220)) z) z)) z)) z)))
namespace Tfnss
def z:Tr (List Nat):=.leaf []
def n:Nat→Tr (List Nat)→Tr (List Nat)→Tr (List Nat):=.node
def l:(List Nat)→Tr (List Nat):=.leaf
end Tfnss
open Tfnss in
def fnss:Tr (List Nat):=
 (n 132 (n 66 (n 33 z (n 49 (n 41 (n 37 z (n 39 z (n 40 z (l [260])))) z) z)) (n 99 (n 82 (n 74 z (n 78 (n 76 z (n 77 z (l [389,390,400]))) (n 80 (n 79 z (l [343,363,375])) (n 81 (l [282]) (l [395]))))) (n 90 (n 86 (n 84 (n 83 z (l [396,407])) z) z) z)) (n 115 (n 107 (n 103 z (n 105 (n 104 (l [269]) z) z)) (n 111 z (n 113 (n 112 (l [281,307]) z) z))) (n 123 (n 119 (n 117 (n 116 (l [76,172]) (l [121])) z) (n 121 (n 120 (l [35]) (l [123])) z)) (n 127 (n 125 z (n 126 (l [294]) z)) z))))) (n 198 (n 165 (n 148 (n 140 (n 136 z (n 138 (n 137 z (l [348,365,376])) (n 139 (l [305]) (l [292,318,362])))) (n 144 (n 142 (n 141 (l [401]) z) z) z)) (n 156 (n 152 z (n 154 (n 153 (l [38,55,117,231]) z) z)) (n 160 z (n 162 (n 161 z (l [82])) z)))) (n 181 (n 173 (n 169 (n 167 z (n 168 (l [92,189]) (l [157]))) (n 171 (n 170 (l [206]) z) (n 172 (l [83]) (l [108,190])))) (n 177 (n 175 (n 174 (l [155]) (l [216])) (n 176 (l [140]) z)) (n 179 z (n 180 (l [309]) (l [308]))))) (n 189 (n 185 (n 183 (n 182 (l [301]) (l [332])) z) (n 187 (n 186 (l [52,74,133,239]) z) z)) (n 193 (n 191 z (n 192 z (l [99]))) (n 195 z (n 196 (l [128,203]) (n 197 z (l [223])))))))) (n 231 (n 214 (n 206 z (n 210 z (n 212 (n 211 (l [232]) (l [234])) (n 213 (l [233,242]) (l [236]))))) (n 222 (n 218 (n 216 (n 215 (l [235]) z) z) z) (n 226 z (n 228 (n 227 z (l [241])) z)))) z)))
namespace Tloopss
def z:Tr (List (Nat×Nat)):=.leaf []
def n:Nat→Tr (List (Nat×Nat))→Tr (List (Nat×Nat))→Tr (List (Nat×Nat)):=.node
def l:(List (Nat×Nat))→Tr (List (Nat×Nat)):=.leaf
end Tloopss
open Tloopss in
def QF3:Tr (List (Nat×Nat)):=
 (n 132 (n 66 (n 33 (n 16 (n 8 z (n 12 z (n 14 (n 13 z (l [(0,258),(2,262),(4,267)])) z))) (n 24 (n 20 (n 18 (n 17 z (l [(0,15)])) z) z) (n 28 z (n 30 (n 29 z (l [(0,412),(0,413),(0,414)])) (n 31 (l [(0,409)]) (n 32 (l [(0,397)]) z)))))) (n 49 (n 41 (n 37 z (n 39 z (n 40 z (l [(0,264)])))) (n 45 (n 43 (n 42 z (l [(0,21)])) (n 44 z (l [(0,273)]))) (n 47 (n 46 (l [(0,283)]) (l [(0,278)])) z))) (n 57 (n 53 (n 51 (n 50 z (l [(0,40),(2,58)])) (n 52 (l [(0,96)]) z)) (n 55 (n 54 z (l [(1,179)])) (n 56 (l [(1,167)]) z))) z))) (n 99 (n 82 (n 74 z (n 78 (n 76 z (n 77 z (l [(0,393),(0,394),(0,403)]))) (n 80 (n 79 (l [(0,193)]) (l [(0,354)])) (n 81 (l [(0,288),(0,311)]) z)))) (n 90 (n 86 (n 84 (n 83 (l [(0,398),(2,399)]) (l [(0,402),(2,405),(0,408),(0,410),(2,411),(2,415)])) (n 85 (l [(0,313)]) z)) z) (n 94 z (n 96 z (n 97 (l [(0,186)]) z))))) (n 115 (n 107 (n 103 z (n 105 (n 104 (l [(0,276),(2,277)]) z) z)) (n 111 (n 109 (n 108 z (l [(0,54),(2,198),(4,211)])) z) (n 113 (n 112 (l [(0,286),(4,287),(2,291),(4,304),(0,314),(2,319)]) (l [(0,28)])) (n 114 (l [(0,33)]) (l [(0,43),(2,61)]))))) (n 123 (n 119 (n 117 z (n 118 z (l [(0,87),(2,101)]))) (n 121 (n 120 (l [(0,56)]) (l [(0,208),(2,218),(4,226),(6,237)])) (n 122 (l [(0,145)]) z))) (n 127 (n 125 z (n 126 (l [(0,299)]) (l [(0,300)]))) (n 129 z (n 130 z (n 131 z (l [(0,182)]))))))))) (n 198 (n 165 (n 148 (n 140 (n 136 z (n 138 z (n 139 z (l [(0,296),(0,325),(0,364)])))) (n 144 (n 142 (n 141 (l [(0,404),(2,406)]) (l [(0,328),(2,339),(2,340)])) z) z)) (n 156 (n 152 z (n 154 z (n 155 z (l [(0,37),(2,51)])))) (n 160 (n 158 (n 157 (l [(0,44),(2,71)]) (l [(0,59),(2,86)])) (n 159 (l [(0,73),(2,89),(4,103)]) (l [(0,88),(2,102),(8,112),(4,118),(6,134)]))) (n 162 (n 161 (l [(0,72),(2,110),(4,136)]) (l [(0,191),(2,207)])) (n 163 z (n 164 (l [(0,289)]) z)))))) (n 181 (n 173 (n 169 (n 167 (n 166 (l [(0,65)]) z) (n 168 (l [(0,106),(0,197)]) z)) z) (n 177 (n 175 z (n 176 (l [(0,175),(2,201),(4,214),(6,246)]) z)) (n 179 z (n 180 (l [(0,316)]) (l [(0,315)]))))) (n 189 (n 185 z (n 187 (n 186 (l [(0,68),(0,90),(0,146),(0,244)]) (l [(0,78)])) (n 188 (l [(0,93)]) z))) (n 193 (n 191 (n 190 (l [(0,79)]) z) (n 192 (l [(0,168)]) (l [(0,138),(2,173),(4,199)]))) (n 195 z (n 196 (l [(0,143),(0,210)]) (n 197 z (l [(1,243)])))))))) (n 231 (n 214 (n 206 (n 202 (n 200 z (n 201 (l [(0,142),(2,161)]) z)) (n 204 (n 203 z (l [(0,107)])) (n 205 z (l [(0,169)])))) (n 210 (n 208 (n 207 (l [(1,224)]) (l [(0,225)])) z) (n 212 z (n 213 (l [(0,240),(0,247)]) z)))) (n 222 (n 218 (n 216 z (n 217 z (l [(0,228)]))) (n 220 (n 219 (l [(0,227)]) z) z)) (n 226 z (n 228 (n 227 z (l [(0,245)])) z)))) z)))
def QEI:List (Nat×Nat)→Nat→List Nat
 | [],_=>[]
 | (a,b)::r,k=>match Nat.beq a k with |true=>b::QEI r k |false=>QEI r k
def tb:Tab:=⟨fun i=>match Nat.blt i 416 with |true=>fams.get i |false=>default,pfns.get,fnss.get,fun f b=>QEI (QF3.get f) b⟩
end Go.Proofs.YtkecfadnfnnfaaaGreatDoor.LabB
