/- The families of functions and loops of this program: tables, nothing is claimed here. -/
import Derived.Test.YtkecfadnfnnfaaaGreatDoorTabB
import Derived.Test.YtkecfadnfnnfaaaGreatDoorSyC
set_option maxRecDepth 100000
set_option linter.all false
noncomputable section
namespace Go.Proofs.YtkecfadnfnnfaaaGreatDoor.LabB
open Go Go.Ev Go.Sy
def QuC:Ty:=(.pair .str (.int .u64))
def QBo:Ty:=(.pair (.int .i64) .bool)
def QBp:Ty:=(.pair (.int .u8) (.int .u8))
def Qwq:Ty:=(.pair (.lst (.int .i64)) (.int .i64))
def QEa:Ty:=(.pair .str (.lst (.int .i64)))
def QCB:Ty:=(.pair (.lst .bool) (.lst .bool))
def QBq:Ty:=(.pair (.int .i64) (.pair (.int .i64) (.pair .bool (.int .u8))))
def QCC:Ty:=(.pair .str (.lst QEa))
def QEb:Ty:=(.pair (.lst .bool) (.pair (.lst .bool) (.pair (.int .i64) (.int .i64))))
def QEc:Ty:=(.pair (.int .i64) (.pair .bool (.pair .bool (.pair .bool (.pair .bool (.pair .bool (.pair .bool (.pair .bool .bool))))))))
def Qzf:Ty:=(.pair (.int .i64) (.pair (.int .i64) (.pair (.lst (.int .i64)) (.pair (.int .i64) (.pair (.int .i64) (.pair (.int .i64) (.pair (.lst (.int .i64)) (.pair .bool (.pair (.lst Qwq) (.int .i64))))))))))
def Qtz:Ty:=(.pair .str (.pair (.int .i64) (.pair (.int .i64) (.pair (.lst QBo) (.pair (.lst Qzf) QBo)))))
def QBr:Ty:=(.pair Qtz (.pair (.lst (.int .i64)) .bool))
def Qfq:Ty:=(.pair (.lst QCC) (.lst Qtz))
def QEd:Ty:=(.pair Qtz (.pair (.lst (.int .i64)) (.pair (.lst (.int .i64)) (.pair (.lst (.int .i64)) QBo))))
def QFl:Ty:=(.pair Qfq (.pair Qtz (.pair (.lst .bool) (.lst (.int .i64)))))
def QEe:Ty:=(.pair Qfq (.pair Qtz (.pair (.lst (.int .i64)) (.pair .bool (.pair (.int .i64) (.int .i64))))))
def Qzg:Ty:=(.pair Qfq (.pair Qtz (.pair (.lst .bool) QCB)))
def QBs:Ty:=(.pair Qfq (.pair Qtz (.pair (.lst (.int .i64)) (.lst Qzf))))
namespace T
def v:Nat→Sy.Ex:=.v
def B:Ty:=.bool
def S:Ty:=.str
def I:Ty:=.int .i64
def L:Ty→Ty:=.lst
def F:Ty:=Qtz
def N:Ty:=Qzf
def P:Ty:=Qfq
def D:Ty:=QCC
def V:Ty:=QBo
def K:Ty:=QEa
def R:Ty:=Qwq
def C:Ty:=Qzg
def U:Ty:=QFl
def W:Ty:=QEe
def T:Ty:=QCB
def G:Ty:=QBr
def E:Ty:=QBs
def i (n:Nat):SV:=.ii .i64 (v n)
def b (n:Nat):SV:=.bb (v n)
def s (n:Nat):SV:=.ss (v n)
def t (T:Ty)(n:Nat):SV:=.tl T (v n)
def p (n:Nat):SV:=.ptr n (.nn 0) 0
def q (k:Nat)(T:Ty)(n:Nat):SV:=.sl k (.nn 0) (.o1 (.len T) (v n))
def f (k:Nat)(l:List Nat):SV:=.fn k (l.map p)
def c (T:Ty)(n:Nat):List SV:=cellsOf T (v n)
def r (T:Ty)(n:Nat):SB:=.rows 1 T (v n)
def g (n:Nat)(T:Ty)(l:List SV):SB:=.box n (some T) [l]
def u (T:Ty)(x:SV):SB:=g 1 T [x]
def x (k:Nat)(T:Ty)(n:Nat):SB:=u (L T) (q k T n)
def w (k:Nat)(T:Ty)(n:Nat):SB:=g k T (c T n)
def y (x:SV):SB:=.box 1 none [[x]]
def d:SB:=.dead
def nth:List Ty→Nat→Ty
 | [],_=>.unit
 | t::_,0=>t
 | _::l,n+1=>nth l n
def h (k:List Ty)(l:List Nat):List (Hk×Ty):=l.map fun i=>(.par i,nth k i)
def m (l:List Ty):List (Hk×Ty):=l.map fun t=>(.new,t)
def k (e:Sy.Ex)(T:Ty):List (Hk×Ty):=[(.con e,T)]
def aa (i:Nat)(T:Ty):List (Hk×Ty):=[(.par i,T)]
def a (n:Nat)(f:SF)(j:SH)(k:List Ty)(l:List Ty)(e:Bool:=false):Fam:=⟨0,n,0,0,f,j,k,[Qzd l],e⟩
def o (n i b m:Nat)(f:SF)(j:SH)(k:List Ty)(l:SF→SH→List Ty→List Out):Fam:=⟨n,i,b,m,f,j,k,l f j k,false⟩
def e1:Ty:=(.pair (L I) (.pair B (.pair I I)))
def e2:Ty:=(.pair B (.pair I I))
def e3:Ty:=(.pair I I)
def e4:Ty:=(.pair F (.pair (L I) (.pair B (.pair I I))))
def e5:Ty:=(.pair (L V) (.pair (L N) V))
def e6:Ty:=(.pair I (.pair (L V) (.pair (L N) V)))
def e7:Ty:=(.pair (L N) V)
def e8:Ty:=(.pair I (.pair I (.pair (L V) (.pair (L N) V))))
def e9:Ty:=(L I)
def e10:Ty:=(L B)
def e11:Ty:=(L V)
def e12:Ty:=(L N)
def e13:Ty:=(L D)
def e14:Ty:=(L F)
def e15:Ty:=(L (.pair S B))
def e16:Ty:=(.pair S B)
def e17:Ty:=(L K)
def e18:Ty:=(L (L I))
def e19:Ty:=(.pair e9 (.pair B e3))
def e20:Ty:=(.pair B e3)
def e21:Ty:=(.pair e11 (.pair e12 V))
def e22:Ty:=(.pair I (.pair e11 (.pair e12 V)))
def e23:Ty:=(.pair F (.pair e9 (.pair B e3)))
def e24:Ty:=(.pair I (.pair I (.pair e11 (.pair e12 V))))
def e25:Ty:=(.pair e12 V)
def e26:Ty:=(.pair e9 e20)
def e27:Ty:=(.pair I (.pair e11 e25))
def e28:Ty:=(.pair F (.pair e9 e20))
def e29:Ty:=(.pair e11 e25)
def e30:Ty:=(.pair I (.pair I (.pair e11 e25)))
def e31:Ty:=(.pair F e26)
def e32:Ty:=(.pair I e29)
def e33:Ty:=(.pair I (.pair I e29))
def e34:Ty:=(.pair I e32)
def e115:Sy.Ex:=(.nn 0)
def e129:Sy.Ex:=(.il 12)
def e125:Sy.Ex:=(.bl true)
def e100:Sy.Ex:=(.bl false)
def e41:Sy.Ex:=(.o1 (.snd P) (v 2))
def e59:Sy.Ex:=(.o1 (.snd P) (v 0))
def e62:Sy.Ex:=(.o1 (.snd P) (v 1))
def e113:Sy.Ex:=(.o1 (.snd P) (v 3))
def e126:Sy.Ex:=(.o1 (.snd P) (v 4))
def e87:Sy.Ex:=(.o1 (.fst e31) (v 2))
def e106:Sy.Ex:=(.o1 (.fst e31) (v 0))
def e110:Sy.Ex:=(.o1 (.fst e31) (v 1))
def e144:Sy.Ex:=(.o1 (.fst e31) (v 3))
def e179:Sy.Ex:=(.o1 (.snd F) e41)
def e200:Sy.Ex:=(.o1 (.snd F) e59)
def e203:Sy.Ex:=(.o1 (.snd F) e62)
def e235:Sy.Ex:=(.o1 (.snd F) e113)
def e246:Sy.Ex:=(.o1 (.snd F) e126)
def e163:Sy.Ex:=(.o1 (.fst e26) e41)
def e178:Sy.Ex:=(.o1 (.fst e26) e59)
def e184:Sy.Ex:=(.o1 (.fst e26) e62)
def e222:Sy.Ex:=(.o1 (.fst e26) e113)
def e236:Sy.Ex:=(.o1 (.fst e26) e126)
def e214:Sy.Ex:=(.o1 (.fst e14) e87)
def e215:Sy.Ex:=(.o1 (.snd e13) e87)
def e223:Sy.Ex:=(.o1 (.fst e14) e106)
def e224:Sy.Ex:=(.o1 (.snd e13) e106)
def e227:Sy.Ex:=(.o1 (.fst e14) e110)
def e228:Sy.Ex:=(.o1 (.snd e13) e110)
def e153:Sy.Ex:=(.o1 (.fst e14) e144)
def e154:Sy.Ex:=(.o1 (.snd e13) e144)
def e268:Sy.Ex:=(.o1 (.snd e9) e179)
def e285:Sy.Ex:=(.o1 (.snd e9) e200)
def e290:Sy.Ex:=(.o1 (.snd e9) e203)
def e315:Sy.Ex:=(.o1 (.snd e9) e235)
def e323:Sy.Ex:=(.o1 (.snd e9) e246)
def e255:Sy.Ex:=(.o1 (.snd S) e163)
def e269:Sy.Ex:=(.o1 (.snd S) e178)
def e275:Sy.Ex:=(.o1 (.snd S) e184)
def e295:Sy.Ex:=(.o1 (.fst e20) e179)
def e305:Sy.Ex:=(.o1 (.fst e20) e200)
def e308:Sy.Ex:=(.o1 (.snd S) e222)
def e307:Sy.Ex:=(.o1 (.fst e20) e203)
def e316:Sy.Ex:=(.o1 (.snd S) e236)
def e249:Sy.Ex:=(.o1 (.fst e20) e235)
def e294:Sy.Ex:=(.o1 (.fst e34) e163)
def e304:Sy.Ex:=(.o1 (.fst e34) e178)
def e306:Sy.Ex:=(.o1 (.fst e34) e184)
def e248:Sy.Ex:=(.o1 (.fst e34) e222)
def e348:Sy.Ex:=(.o1 (.snd B) e268)
def e357:Sy.Ex:=(.o1 (.snd B) e285)
def e361:Sy.Ex:=(.o1 (.snd B) e290)
def e381:Sy.Ex:=(.o1 (.snd B) e315)
def e326:Sy.Ex:=(.o1 (.snd B) e323)
def e330:Sy.Ex:=(.o1 (.snd I) e255)
def e341:Sy.Ex:=(.o1 (.snd I) e269)
def e344:Sy.Ex:=(.o1 (.snd I) e275)
def e356:Sy.Ex:=(.o1 (.fst e3) e268)
def e368:Sy.Ex:=(.o1 (.fst e3) e285)
def e371:Sy.Ex:=(.o1 (.fst e3) e290)
def e372:Sy.Ex:=(.o1 (.snd I) e308)
def e378:Sy.Ex:=(.o1 (.snd I) e316)
def e325:Sy.Ex:=(.o1 (.fst e3) e315)
def e355:Sy.Ex:=(.o1 (.fst e32) e255)
def e367:Sy.Ex:=(.o1 (.fst e32) e269)
def e370:Sy.Ex:=(.o1 (.fst e32) e275)
def e324:Sy.Ex:=(.o1 (.fst e32) e308)
def e404:Sy.Ex:=(.o1 (.fst I) e348)
def e405:Sy.Ex:=(.o1 (.snd I) e348)
def e408:Sy.Ex:=(.o1 (.fst I) e357)
def e409:Sy.Ex:=(.o1 (.snd I) e357)
def e412:Sy.Ex:=(.o1 (.fst I) e361)
def e413:Sy.Ex:=(.o1 (.snd I) e361)
def e321:Sy.Ex:=(.o1 (.fst I) e381)
def e322:Sy.Ex:=(.o1 (.snd I) e381)
def e385:Sy.Ex:=(.o1 (.snd I) e330)
def e393:Sy.Ex:=(.o1 (.snd I) e341)
def e397:Sy.Ex:=(.o1 (.snd I) e344)
def e415:Sy.Ex:=(.o1 (.snd I) e372)
def e421:Sy.Ex:=(.o1 (.snd I) e378)
def e402:Sy.Ex:=(.o1 (.fst e29) e330)
def e407:Sy.Ex:=(.o1 (.fst e29) e341)
def e410:Sy.Ex:=(.o1 (.fst e29) e344)
def e382:Sy.Ex:=(.o1 (.fst e29) e372)
def e424:Sy.Ex:=(.o1 (.snd e11) e385)
def e430:Sy.Ex:=(.o1 (.snd e11) e393)
def e433:Sy.Ex:=(.o1 (.snd e11) e397)
def e436:Sy.Ex:=(.o1 (.fst e25) e385)
def e439:Sy.Ex:=(.o1 (.fst e25) e393)
def e440:Sy.Ex:=(.o1 (.fst e25) e397)
def e442:Sy.Ex:=(.o1 (.snd e11) e415)
def e445:Sy.Ex:=(.o1 (.snd e11) e421)
def e422:Sy.Ex:=(.o1 (.fst e25) e415)
def e454:Sy.Ex:=(.o1 (.fst V) e424)
def e458:Sy.Ex:=(.o1 (.fst V) e430)
def e459:Sy.Ex:=(.o1 (.fst V) e433)
def e447:Sy.Ex:=(.o1 (.fst V) e442)
def e448:Sy.Ex:=(.o1 (.snd e12) e424)
def e451:Sy.Ex:=(.o1 (.snd e12) e430)
def e455:Sy.Ex:=(.o1 (.snd e12) e433)
def e460:Sy.Ex:=(.o1 (.snd e12) e442)
def e446:Sy.Ex:=(.o1 (.snd e12) e445)
def e463:Sy.Ex:=(.o1 (.fst B) e448)
def e464:Sy.Ex:=(.o1 (.snd I) e448)
def e465:Sy.Ex:=(.o1 (.fst B) e451)
def e466:Sy.Ex:=(.o1 (.snd I) e451)
def e467:Sy.Ex:=(.o1 (.fst B) e455)
def e468:Sy.Ex:=(.o1 (.snd I) e455)
def e461:Sy.Ex:=(.o1 (.fst B) e460)
def e462:Sy.Ex:=(.o1 (.snd I) e460)
def e124:List Ty:=[e10,e10,e10,e13,e14,S,I,I,e11,e12,I,B,I]
def e130:List Ty:=[e10,e10,e10,e13,e14,S,I,I,e11,e12,I,B,e11]
def e136:List Ty:=[e10,e10,e10,e13,e14,S,I,I,e11,e12,I,B,N,e9,I,I]
def e143:List Ty:=[e10,e10,e10,e9,e9,e9,e13,e14,S,I,I,e11,e12,I,B,N,.nat,.nat,B,I,I]
def e145:List Ty:=[e10,e10,e10,e9,e9,e9,e13,e14,S,I,I,e11,e12,I,B,N,.nat,B,I,I]
def e146:List Ty:=[e10,e10,e10,e9,e9,e9,e13,e14,S,I,I,e11,e12,I,B,N,B,I,I]
def e149:List Ty:=[e10,e10,e10,e13,e14,S,I,I,e11,e12,I,B,N,e9,e9,I,I]
def e150:List Ty:=[e10,e10,e10,e13,e14,S,I,I,e11,e12,I,B,e11,I,I]
def e151:List Ty:=[e10,e10,e10,e13,e14,S,I,I,e11,e12,I,B,N]
def e152:List Ty:=[e10,e10,e10,e13,e14,S,I,I,e11,e12,I,B,V]
def e469:SV:=(q 6 I 3)
def e470:SV:=(q 5 B 2)
def e471:SV:=(q 1 B 0)
def e472:SV:=(.ii .i64 e355)
def e473:SV:=(.ii .i64 e402)
def e474:SV:=(.ii .i64 e463)
def e475:SV:=(.ii .i64 e404)
def e476:SV:=(.ii .i64 e405)
def e477:SV:=(q 2 I 1)
def e478:SV:=(.tl D e214)
def e479:SV:=(.tl F e215)
def e480:SV:=(.tl V e436)
def e481:SV:=(.tl N e454)
def e482:SV:=(.tl I e295)
def e483:SV:=(q 4 B 0)
def e484:SV:=(q 5 B 1)
def e485:SV:=(q 6 B 2)
def e486:SV:=(q 9 I 4)
def e487:SV:=(q 10 I 5)
def e488:SV:=(q 3 B 2)
def e489:SV:=(q 1 I 0)
def e490:SV:=(f 123 [2,6,7])
def e491:SV:=(.ss e294)
def e492:SV:=(.bb e464)
def e493:SV:=(.bb e356)
def e494:SV:=(q 3 B 0)
def e495:SV:=(.sl 4 e115 (v 16))
def e496:SV:=(.agg (c P 0))
def e497:SV:=(.ii .i64 e367)
def e498:SV:=(.ii .i64 e407)
def e499:SV:=(.ii .i64 e465)
def e500:SV:=(.ii .i64 e408)
def e501:SV:=(.ii .i64 e409)
def e502:SV:=(q 0 I 0)
def e503:SV:=(q 2 B 1)
def e504:SV:=(.ii .i64 e370)
def e505:SV:=(.ii .i64 e410)
def e506:SV:=(.ii .i64 e467)
def e507:SV:=(.ii .i64 e412)
def e508:SV:=(.ii .i64 e413)
def e509:SV:=(q 4 B 2)
def e510:SV:=(.sl 3 e115 (v 16))
def e511:SV:=(.sl 4 e115 (v 17))
def e512:SV:=(.tl D e223)
def e513:SV:=(.tl F e224)
def e514:SV:=(.tl V e439)
def e515:SV:=(.tl N e458)
def e516:SV:=(.tl I e305)
def e517:SV:=(.sl 4 e115 (v 14))
def e518:SV:=(q 5 B 0)
def e519:SV:=(.tl D e227)
def e520:SV:=(.tl F e228)
def e521:SV:=(.tl V e440)
def e522:SV:=(.tl N e459)
def e523:SV:=(.tl I e307)
def e524:SV:=(.agg [(.sl 7 e115 (v 15)),(.sl 8 e115 (v 16))])
def e525:SV:=(.agg [(.sl 2 e115 (v 4)),(.sl 3 e115 (v 5))])
def e526:SV:=(q 2 B 0)
def e527:SV:=(.ss e304)
def e528:SV:=(.bb e466)
def e529:SV:=(.bb e368)
def e530:SV:=(.sl 4 e115 (v 15))
def e531:SV:=(.agg (c F 1))
def e532:SV:=(.agg [(q 3 B 2),(q 4 B 3)])
def e533:SV:=(q 8 B 2)
def e534:SV:=(.ss e306)
def e535:SV:=(.bb e468)
def e536:SV:=(.bb e371)
def e537:SV:=(q 3 B 1)
def e538:SV:=(.agg (c N 0))
def e539:SV:=(q 9 I 3)
def e540:SV:=(q 4 B 1)
def e541:SV:=(q 6 B 1)
def e542:SV:=(q 7 B 2)
def e543:SV:=(.agg (c N 13))
def e544:SV:=(.sl 0 e115 (v 4))
def e545:SV:=(f 103 [0,4])
def e546:SV:=(.tup [])
def e547:SV:=(q 8 I 4)
def e548:SV:=(q 2 I 0)
def e549:SV:=(.tup [(i 14),(i 15)])
def e550:SV:=(.agg [(q 3 B 2),(.sl 4 e115 (v 14))])
def e551:SV:=(.sl 8 e115 (v 15))
def e552:SV:=(.sl 7 e115 (v 15))
def e553:SV:=(.sl 8 e115 (v 16))
def e554:SV:=(.sl 3 e115 (v 14))
def e555:SV:=(q 4 I 1)
def e556:SV:=(q 0 B 0)
def e557:SV:=(.sl 0 e115 (v 1))
def e558:SV:=(.sl 2 e115 (v 4))
def e559:SV:=(.sl 3 e115 (v 5))
def e560:SV:=(.ii .i64 (.o1 (.fst e32) e308))
def e561:SV:=(.ii .i64 (.o1 (.fst e29) e372))
def e562:SV:=(.agg [e488,(q 4 B 3)])
def e563:SV:=(.agg [e552,e553])
def e564:SV:=(.agg [e558,e559])
def e565:List SV:=[(t D 3),(t F 4),(s 5),(i 6),(i 7),(t V 8),(t N 9),(i 10),(b 11),e483,e484,e485]
def e566:List SV:=[(t D 6),(t F 7),(s 8),(i 9),(i 10),(t V 11),(t N 12),(i 13),(b 14),e470,e469]
def e567:List SV:=[(t D 4),(t F 5),(s 6),(i 7),(i 8),(t V 9),(t N 10),(i 11),(b 12),e470,e469]
def e568:List SV:=[e478,e479,e491,e472,e473,e480,e481,e474,e492,e482,e493,e475,e476]
def e569:List SV:=[(t D 3),(t F 4),(s 5),(i 6),(i 7),(t V 8),(t N 9),(i 10),(b 11),e471,e503,e488]
def e570:List SV:=[(t D 4),(t F 5),(s 6),(i 7),(i 8),(t V 9),(t N 10),(i 11),(b 12),e471,e477]
def e571:List SV:=[(t D 4),(t F 5),(s 6),(i 7),(i 8),(t V 9),(t N 10),(i 11),(b 12),e533,e539]
def e572:List SV:=[(t D 3),(t F 4),(s 5),(i 6),(i 7),(t V 8),(t N 9),(i 10),(b 11),e518,e541,e542]
def e573:List SV:=[e512,e513,e527,e497,e498,e514,e515,e499,e528,e516,e529,e500,e501]
def e574:List SV:=[(t D 3),(t F 4),(s 5),(i 6),(i 7),(t V 8),(t N 9),(i 10),(b 11),e526,e537,e509]
def e575:List SV:=[e519,e520,e534,e504,e505,e521,e522,e506,e535,e523,e536,e507,e508]
def e576:List SV:=[(t D 5),(t F 6),(s 7),(i 8),(i 9),(t V 10),(t N 11),(i 12),(b 13),e471,e477]
def e577:List SV:=[(t D 2),(t F 3),(s 4),(i 5),(i 6),(t V 7),(t N 8),(i 9),(b 10),e471,e477]
def e578:List SV:=[(t D 4),(t F 5),(s 6),(i 7),(i 8),(t V 9),(t N 10),(i 11),(b 12),e471,e503,e488]
def e579:List SV:=[(t D 5),(t F 6),(s 7),(i 8),(i 9),(t V 10),(t N 11),(i 12),(b 13),e470,e469]
def e580:List SV:=[(.tl D (.o1 (.fst e14) e144)),(.tl F (.o1 (.snd e13) e144)),(.ss (.o1 (.fst e34) e222)),e560,e561,(.tl V (.o1 (.fst e25) e415)),(.tl N (.o1 (.fst V) e442)),(.ii .i64 (.o1 (.fst B) e460)),(.bb (.o1 (.snd I) e460)),(.tl I (.o1 (.fst e20) e235)),(.bb (.o1 (.fst e3) e315)),(.ii .i64 (.o1 (.fst I) e381)),(.ii .i64 (.o1 (.snd I) e381))]
def e581:List SV:=[(t D 2),(t F 3),(s 4),(i 5),(i 6),(t V 7),(t N 8),(i 9),(b 10),e518,(q 6 I 1)]
def e582:List SV:=[(t D 6),(t F 7),(s 8),(i 9),(i 10),(t V 11),(t N 12),(i 13),(b 14),e471,e477]
def e583:List SV:=[(t D 3),(t F 4),(s 5),(i 6),(i 7),(t V 8),(t N 9),(i 10),(b 11),e494,e555]
def e584:List SV:=[(t D 4),(t F 5),(s 6),(i 7),(i 8),(t V 9),(t N 10),(i 11),(b 12),(q 9 B 0),(q 10 I 1)]
def e585:List SV:=[(t D 4),(t F 5),(s 6),(i 7),(i 8),(t V 9),(t N 10),(i 11),(b 12),e483,e484,e485]
def e586:List SV:=[(t D 4),(t F 5),(s 6),(i 7),(i 8),(t V 9),(t N 10),(i 11),(b 12),e509,(q 5 I 3)]
def e587:List SV:=[e494,e540]
def e588:List SV:=[(t D 4),(t F 5),(s 6),(i 7),(i 8),(t V 9),(t N 10),(i 11),(b 12),e526,e537,e509]
def e589:List SV:=[(t D 2),(t F 3),(s 4),(i 5),(i 6),(t V 7),(t N 8),(i 9),(b 10),e526,(q 3 I 1)]
def e590:List SV:=(c P 0)
def e591:List SV:=[e494,e495]
def e592:List SV:=[e510,e511]
def e593:List SV:=[e488,(q 4 B 3)]
def e594:List SV:=[e509,(q 5 B 3)]
def e595:SV:=(.agg e590)
def e596:SB:=r B 0
def e597:SB:=r B 2
def e598:SB:=r B 1
def e599:SB:=.ro 1 I (v 4)
def e600:SB:=g 12 C e565
def e601:SB:=g 11 U e566
def e602:SB:=.ro 1 I (v 5)
def e603:SB:=g 13 W e568
def e604:SB:=g 11 U e567
def e605:SB:=r I 3
def e606:SB:=r I 0
def e607:SB:=r I 1
def e608:SF:=[(8,(i 13))]
def e609:SB:=w 10 N 15
def e610:SB:=y (p 1)
def e611:SF:=[(0,(p 0)),(2,e489),(3,(t I 3)),(5,(p 2)),(9,(t I 4)),(10,(t I 5))]
def e612:SF:=[(0,(p 0)),(2,e489),(3,e477),(5,(p 3)),(9,(t I 4)),(10,(t I 5))]
def e613:SB:=u e13 (t D 0)
def e614:SF:=[(0,(p 0)),(3,(b 16)),(5,(p 7)),(6,(p 8)),(9,e486),(10,e487)]
def e615:SF:=[(0,(p 0)),(3,(b 17)),(5,(p 7)),(6,(p 8)),(9,e486),(10,e487)]
def e616:SF:=[(0,(p 0)),(3,(b 18)),(5,(p 7)),(6,(p 8)),(9,e486),(10,e487)]
def e617:SB:=g 12 C e569
def e618:SB:=u B (b 13)
def e619:SB:=g 13 W e573
def e620:SB:=w 10 N 3
def e621:SF:=[(0,(p 0)),(3,(b 16)),(5,(p 7)),(6,(p 8)),(9,e486),(10,e487),(67,e486),(68,(i 17)),(69,(i 18))]
def e622:SF:=[(0,(p 0)),(3,(b 17)),(5,(p 7)),(6,(p 8)),(9,e486),(10,e487),(67,e486),(68,(i 18)),(69,(i 19))]
def e623:SF:=[(0,(p 0)),(3,(b 18)),(5,(p 7)),(6,(p 8)),(9,e486),(10,e487),(67,e486),(68,(i 19)),(69,(i 20))]
def e624:SB:=g 11 U e570
def e625:SB:=g 11 U e571
def e626:SB:=g 12 C e572
def e627:SB:=w 7 F 2
def e628:SB:=g 13 W e575
def e629:SB:=w 10 N 12
def e630:SB:=w 2 P 1
def e631:SF:=[(0,(p 0)),(2,e489),(3,(t I 3)),(5,(p 2)),(9,(t I 4)),(10,(t I 5)),(14,(i 6))]
def e632:SF:=[(0,(b 12))]
def e633:SB:=g 12 C e574
def e634:SF:=[(3,e502),(4,(p 1)),(5,(p 2)),(8,(p 3)),(29,(t R 4)),(30,(i 5)),(31,(i 6))]
def e635:SF:=[(3,e544),(4,(p 1)),(5,(p 2)),(8,(p 3)),(29,(t R 5)),(30,(i 6)),(31,(i 7))]
def e636:SF:=[(0,(p 0)),(2,e489),(3,e477),(5,(p 3)),(9,(t I 4)),(10,(t I 5)),(14,(i 6))]
def e637:SB:=g 2 T e587
def e638:SF:=[(2,(b 0))]
def e639:SF:=[(0,(t D 0)),(1,(i 1))]
def e640:SF:=[(3,(.map 0)),(4,(.map 1)),(12,(t D 2)),(13,(i 3)),(14,(i 4))]
def e641:SF:=[(0,(p 0)),(1,(i 12))]
def e642:SF:=[(0,(p 0)),(6,(p 7)),(72,(t I 13)),(73,(i 14)),(74,(i 15))]
def e643:SF:=[(0,e546)]
def e644:SB:=g 11 U e576
def e645:SB:=y (p 3)
def e646:SF:=[(4,(i 12))]
def e647:SF:=[(1,(p 0)),(3,e489),(4,(i 2))]
def e648:SB:=r B 3
def e649:SF:=[(2,(t I 3)),(3,(p 0)),(4,(p 1)),(7,e548),(8,(i 4))]
def e650:SB:=g 2 T e591
def e651:SB:=g 2 T e592
def e652:SB:=g 11 U e577
def e653:SF:=[(1,(p 0)),(14,(t D 1)),(15,(i 2)),(16,(i 3))]
def e654:SF:=[(0,e538)]
def e655:SF:=[(5,e502),(24,(t R 1)),(25,(i 2)),(26,(i 3))]
def e656:SB:=y e490
def e657:SF:=[(0,(t D 0))]
def e658:SF:=[(0,(b 1))]
def e659:SB:=x 1 B 0
def e660:SB:=x 2 B 0
def e661:SB:=g 12 C e578
def e662:SB:=w 10 N 2
def e663:SF:=[(8,(i 1))]
def e664:SF:=[(0,(t I 0)),(1,(i 1))]
def e665:SF:=[(8,(i 3))]
def e666:SF:=[(7,(i 14)),(8,(i 15))]
def e667:SB:=g 11 U e579
def e668:SB:=g 2 T [(q 7 B 4),e551]
def e669:SF:=[(0,(i 12))]
def e670:SF:=[(2,(p 3)),(3,(p 6))]
def e671:SF:=[(0,e595),(1,e531),(2,(.agg (c N 2)))]
def e672:SF:=[(0,e595),(1,(i 1))]
def e673:SF:=[(0,(.agg (c K 0)))]
def e674:SF:=[(4,(i 0))]
def e675:SB:=g 11 U e581
def e676:SB:=g 11 U e582
def e677:SF:=[(0,(p 0)),(3,(p 7)),(7,(t I 13))]
def e678:SF:=[(0,(t D 1)),(3,(p 0)),(4,(b 2))]
def e679:SH:=[e604,d,d,e596,e598,e597,e605]
def e680:SH:=[e600,d,d,d,e596,e598,e597,e629]
def e681:SH:=[e624,e596,e607,e597,e648]
def e682:SH:=[e610,e626,d,d,d,e596,e598,e597]
def e683:SH:=[e617,e596,e598,e597]
def e684:SH:=[e610,e633,e596,e598,e597]
def e685:SH:=[e600,d,d,d,e596,e598,e597]
def e686:SH:=[e601,d,d,e596,e598,e597,e605,e609,e637,e599,e602]
def e687:SH:=[e601,d,d,e596,e598,e597,e605,e609,e650,e599,e602]
def e688:SH:=[e601,d,d,e596,e598,e597,e605,e609,e651,e599,e602]
def e689:SH:=[e596,e598,e645,g 11 U e586,e597,e605,e618,e656]
def e690:SH:=[e596,e598,e645,e625,d,d,e618,e656,e597,e605]
def e691:SH:=[e603,e606,e607]
def e692:SH:=[e601,d,d,e596,e598,e597,e605,r B 4,r B 5]
def e693:SH:=[e610,g 11 U e584,d,d,w 10 N 13,x 11 I 2,d,x 12 I 3,d,e596,e607,r I 2,e605]
def e694:SH:=[e603,e606,e607,e620]
def e695:SH:=[e652,e596,e607]
def e696:SH:=[e630,e627,e606]
def e697:SH:=[e660,d,e596]
def e698:SH:=[e659,e596]
def e699:SH:=[e606,e630,e627,e620]
def e700:SH:=[e628,e606,e662]
def e701:SH:=[e676,e596,e607,g 2 T e594,e597,e648,e668,r B 4,r B 5]
def e702:SH:=[e667,d,d,e596,e598,e597,e605,g 2 T [e494,e517],e599]
def e703:SH:=[e667,d,d,e596,e598,e597,e605,g 2 T [e554,e530],e599]
def e704:SH:=[e661,e596,e598,e597,e605]
def e705:SH:=[e606]
def e706:SH:=[e667,d,d,e596,e598,e597,e605,e637,e599]
def e707:SH:=[g 12 C e585,d,d,d,e596,e598,e597,e605]
def e708:SH:=[e596,e598,e597,e648]
def e709:SH:=[e619]
def e710:SH:=[g 11 U e583,d,d,e596,e607,r I 2]
def e711:SH:=[e610,e675,d,d,y e545,e596,e607]
def e712:SH:=[e644,e596,e607,e597,e648,r I 4]
def f2:Fam:=a 193 [(0,(s 0)),(1,(s 1))] [] [S,S] [S,S,B] true
def f3:Fam:=a 209 [(0,(s 0)),(1,(s 1))] [] [S,S] [S] true
def f8:Fam:=a 17 [(0,e595)] [] [P] [I]
def f13:Fam:=a 50 e657 [] [e13] [I]
def f15:Fam:=o 2 17 0 0 [(1,(p 0)),(19,(i 1)),(20,(i 2))] ([w 2 P 0]) [P,I,I] fun X Y Z=>[⟨(.exit 0),[],[],[]⟩,⟨.ret,[(2,(i 0))],[],m [I]⟩]
def f19:Fam:=a 112 e657 [] [e13] [B]
def f22:Fam:=a 113 e657 [] [e13] [B]
def f24:Fam:=a 51 e672 [] [P,I] [I,I]
def f28:Fam:=o 2 112 0 0 [(8,(t D 0)),(9,(i 1)),(10,(i 2))] [] [e13,I,I] fun X Y Z=>[⟨.ret,e638,[],k e125 B⟩,⟨(.exit 0),[],[],[]⟩]
def f29:Fam:=a 114 e657 [] [e13] [B]
def f33:Fam:=o 2 113 0 0 [(55,(t D 0)),(56,(i 1)),(57,(i 2))] [] [e13,I,I] fun X Y Z=>[⟨(.exit 0),[],[],[]⟩,⟨.ret,e638,[],k e100 B⟩]
def f35:Fam:=o 1 119 0 4 e641 e683 e124 fun X Y Z=>[⟨.ret,e669,e685,h Z [0,1,2,3,4,5,6,7,8,9,10,11]++m [I]⟩]
def f38:Fam:=o 3 152 0 0 [(0,(t K 0)),(1,(.fn 164 []))] [] [e17] fun X Y Z=>[⟨.ret,[(0,(b 0))],[],m [B]⟩]
def f40:Fam:=o 2 50 0 0 e653 [e613] [e13,e13,I,I] fun X Y Z=>[⟨(.exit 0),[(1,(p 0))],Y,h Z [0]⟩,⟨.ret,[(2,(i 0))],[],k (.il 10) I⟩]
def f43:Fam:=o 2 114 0 0 e640 ([.map S B (v 0),.map S B (v 1)]) ([(L e16),(L e16),e13,I,I]) fun X Y Z=>[⟨.ret,e638,[],k e125 B⟩,⟨(.exit 0),[],[],[]⟩]
def f47:Fam:=a 165 [(0,(s 0))] [] [S] [B]
def f49:Fam:=a 170 [(0,(s 0))] [] [S] [B]
def f52:Fam:=o 3 185 0 0 [(0,(t K 0)),(1,(.fn 164 []))] [] [e17] fun X Y Z=>[⟨.ret,[(0,(i 0))],[],m [I]⟩]
def f55:Fam:=o 3 152 0 0 [(0,(t K 0)),(1,(.fn 166 []))] [] [e17] fun X Y Z=>[⟨.ret,[(0,(b 0))],[],m [B]⟩]
def f56:Fam:=o 2 119 0 4 [(2,(p 7)),(5,(p 8)),(22,(t F 13)),(23,(i 14)),(24,(i 15))] ([e600,d,d,d,e596,e598,e597,y (p 0),w 7 F 12]) [e10,e10,e10,e13,e14,S,I,I,e11,e12,I,B,F,e14,I,I] fun X Y Z=>[⟨.ret,e646,(Y.take 7),h Z [0,1,2,3,4,5,6,7,8,9,10,11]++k (.il 8) I⟩,⟨(.exit 0),[(2,(p 7)),(5,(p 8))],Y,h Z [0,1,2,3,4,5,6,7,8,9,10,11,12]⟩]
def f58:Fam:=o 2 50 2 0 [(1,(p 0)),(14,(t D 1)),(15,(i 2)),(16,(i 3)),(21,(t K 4)),(22,(i 5)),(23,(i 6))] [e613] [e13,e13,I,I,e17,I,I] fun X Y Z=>[⟨(.exit 2),e653,Y,h Z [0,1,2,3]⟩,⟨.ret,[(2,(i 0))],[],k (.il 10) I⟩]
def f61:Fam:=o 2 114 2 0 [(3,(.map 0)),(4,(.map 1)),(12,(t D 2)),(13,(i 3)),(14,(i 4)),(26,(t K 5)),(27,(i 6)),(28,(i 7))] ([.map S B (v 0),.map S B (v 1)]) ([(L e16),(L e16),e13,I,I,e17,I,I]) fun X Y Z=>[⟨.ret,e638,[],k e125 B⟩,⟨(.exit 2),e640,Y,h Z [0]++m [(L e16)]++h Z [2,3,4]⟩]
def f65:Fam:=o 2 165 0 0 [(0,(s 0)),(23,(i 1)),(24,(i 2))] [] [S,I,I] fun X Y Z=>[⟨.ret,e638,[],k e100 B⟩,⟨(.exit 0),[],[],[]⟩]
def f66:Fam:=a 194 [(0,(s 0)),(1,(.ii .u8 (v 1))),(2,(.ii .u8 (v 2)))] [] ([S,(.int .u8),(.int .u8)]) [B]
def f68:Fam:=o 2 185 0 0 [(0,(t K 0)),(1,(.fn 164 [])),(7,(i 1)),(8,(i 2))] [] [e17,I,I] fun X Y Z=>[⟨(.exit 0),[],[],[]⟩,⟨.ret,e674,[],m [I]⟩]
def f69:Fam:=a 118 e657 [] [e13] [B]
def f74:Fam:=o 3 185 0 0 [(0,(t K 0)),(1,(.fn 166 []))] [] [e17] fun X Y Z=>[⟨.ret,[(0,(i 0))],[],m [I]⟩]
def f76:Fam:=o 1 115 0 1 [(0,(t I 1)),(1,(f 116 [0]))] [e613] [e13,e9] fun X Y Z=>[⟨.ret,e658,Y,h Z [0]++m [B]⟩]
def f81:Fam:=a 164 e673 [] [K] [B]
def f83:Fam:=o 1 171 0 4 e641 e683 e124 fun X Y Z=>[⟨.ret,e632,Y,h Z [0,1,2,3,4,5,6,7,8,9,10,11]++m [B]⟩]
def f87:Fam:=o 2 118 0 0 e678 e698 [e10,e13,B] fun X Y Z=>[⟨(.exit 0),[(3,(p 0))],Y,m [e10]⟩]
def f90:Fam:=o 2 185 0 0 [(0,(t K 0)),(1,(.fn 166 [])),(7,(i 1)),(8,(i 2))] [] [e17,I,I] fun X Y Z=>[⟨(.exit 0),[],[],[]⟩,⟨.ret,e674,[],m [I]⟩]
def f92:Fam:=o 1 167 0 1 [(0,(t I 1)),(1,(f 116 [0]))] [e613] [e13,e9] fun X Y Z=>[⟨.ret,[(0,(i 1))],Y,h Z [0]++m [I]⟩]
def f96:Fam:=o 2 51 0 0 [(6,(p 0)),(7,(p 1)),(61,(i 13)),(62,(i 14))] ([w 7 F 3,g 12 C e588,e596,e598,e597]) [e10,e10,e10,F,e13,e14,S,I,I,e11,e12,I,B,I,I] fun X Y Z=>[⟨(.exit 0),[(6,(p 0)),(7,(p 1))],Y,h Z [0]++m [e10,e10]++h Z [3,4,5,6,7,8,9,10,11,12]⟩]
def f101:Fam:=o 2 118 2 0 [(0,(t D 1)),(3,(p 0)),(4,(b 2)),(15,(i 3)),(16,(i 4))] e698 [e10,e13,B,I,I] fun X Y Z=>[⟨(.exit 2),e678,Y,m [e10]++h Z [1]++m [B]⟩]
def f104:Fam:=a 166 e673 [] [K] [B]
def f106:Fam:=o 2 167 0 1 [(0,(t I 1)),(1,(f 116 [0])),(7,(i 2)),(8,(i 3))] [e613] [e13,e9,I,I] fun X Y Z=>[⟨(.exit 0),[],Y,h Z [0]⟩,⟨.ret,[(4,(i 1))],Y,h Z [0]++m [I]⟩]
def f108:Fam:=o 1 172 0 5 [(0,(t V 12)),(1,(f 173 [0]))] e684 e130 fun X Y Z=>[⟨.ret,e632,e682,h Z [0,1,2,3,4,5,6,7,8,9,10,11]++m [B]⟩]
def f111:Fam:=a 122 [(0,(t B 0)),(1,(b 1))] [] [e10,B] [B]
def f117:Fam:=o 1 152 0 2 [(0,(t K 1)),(1,(f 168 [0]))] e698 [e10,e17] fun X Y Z=>[⟨.ret,e658,e697,h Z [0]++m [B]⟩]
def f121:Fam:=o 1 116 0 1 [(0,(i 1)),(1,(p 0))] [e613] [e13,I] fun X Y Z=>[⟨.ret,e658,Y,h Z [0]++m [B]⟩]
def f123:Fam:=o 1 120 0 4 e641 e683 e124 fun X Y Z=>[⟨.ret,[(0,(.tup [(i 12),(i 13)]))],e685,m [e10,e10,e10]++h Z [3,4,5,6,7,8,9,10,11]++m [I,I]⟩]
def f128:Fam:=o 1 195 0 5 [(0,(t V 12)),(1,(f 173 [0]))] e684 e130 fun X Y Z=>[⟨.ret,e669,e682,h Z [0,1,2,3,4,5,6,7,8,9,10,11]++m [I]⟩]
def f130:Fam:=a 121 [(0,(t B 0)),(1,(b 1))] [] [e10,B] [I]
def f133:Fam:=o 1 185 0 2 [(0,(t K 1)),(1,(f 168 [0]))] e698 [e10,e17] fun X Y Z=>[⟨.ret,[(0,(i 1))],e697,h Z [0]++m [I]⟩]
def f135:Fam:=a 117 e639 [] [e13,I] [B]
def f140:Fam:=o 1 175 0 4 [(0,(p 0)),(1,(.agg (c N 12)))] e683 e151 fun X Y Z=>[⟨.ret,e669,e685,h Z [0]++m [e10]++h Z [2,3,4,5,6,7,8,9,10,11]++m [I]⟩]
def f143:Fam:=o 2 195 0 5 [(0,(t V 12)),(1,(f 173 [0])),(7,(i 13)),(8,(i 14))] e682 e150 fun X Y Z=>[⟨(.exit 0),[],Y,h Z [0,1,2,3,4,5,6,7,8,9,10,11]⟩,⟨.ret,e646,Y,h Z [0,1,2,3,4,5,6,7,8,9,10,11]++m [I]⟩]
def f145:Fam:=o 2 121 0 0 [(0,(t B 0)),(1,(b 1)),(7,(i 2)),(8,(i 3))] [] [e10,B,I,I] fun X Y Z=>[⟨.ret,e674,[],m [I]⟩,⟨(.exit 0),[],[],[]⟩]
def f146:Fam:=o 2 185 0 2 [(0,(t K 1)),(1,(f 168 [0])),(7,(i 2)),(8,(i 3))] e697 [e10,e17,I,I] fun X Y Z=>[⟨(.exit 0),[],Y,h Z [0]⟩,⟨.ret,[(4,(i 1))],Y,h Z [0]++m [I]⟩]
def f149:Fam:=a 55 e654 [] [N] [e9]
def f153:Fam:=a 196 e654 [] [N] [B]
def f155:Fam:=o 1 173 0 5 [(0,(.agg (c V 12))),(1,(p 0))] e684 e152 fun X Y Z=>[⟨.ret,e632,Y,h Z [0,1,2,3,4,5,6,7,8,9,10,11]++m [B]⟩]
def f157:Fam:=o 1 168 0 2 [(0,(.agg (c K 1))),(1,(p 0))] e698 [e10,K] fun X Y Z=>[⟨.ret,e658,e697,h Z [0]++m [B]⟩]
def f158:Fam:=a 54 e654 [] [N] [e9]
def f162:Fam:=a 131 e654 [] [N] [e9]
def f166:Fam:=a 96 e654 [] [N] [e9]
def f167:Fam:=o 2 55 1 0 e647 ([w 10 N 1,e606]) [e9,N,I] fun X Y Z=>[⟨(.exit 1),[(3,e502)],e705,m [e9]⟩]
def f170:Fam:=a 136 [(0,(i 0))] [] [I] [QEc,B]
def f172:Fam:=o 1 115 0 2 [(0,(t I 1)),(1,(f 169 [0]))] e698 [e10,e9] fun X Y Z=>[⟨.ret,e658,e697,h Z [0]++m [B]⟩]
def f175:Fam:=o 2 175 0 4 [(0,(p 0)),(3,(p 7)),(18,(t I 13)),(19,(i 14)),(20,(i 15))] e680 e136 fun X Y Z=>[⟨.ret,e646,(Y.take 7),h Z [0,1,2,3,4,5,6,7,8,9,10,11]++k (.il 9) I⟩,⟨(.exit 0),[(0,(p 0)),(3,(p 7))],Y,h Z [0,1,2,3,4,5,6,7,8,9,10,11,12]⟩]
def f177:Fam:=a 78 e654 [] [N] [e9]
def f179:Fam:=o 2 54 1 0 e647 ([w 10 N 1,e606]) [e9,N,I] fun X Y Z=>[⟨(.exit 1),[(3,e502)],e705,m [e9]⟩]
def f182:Fam:=o 2 131 0 0 [(5,e502),(32,(q 1 I 1)),(33,(i 2)),(34,(i 3))] [e606,e607] [e9,e9,I,I] fun X Y Z=>[⟨(.exit 0),[(5,e502)],(Y.take 1),m [e9]⟩]
def f186:Fam:=o 2 96 0 0 e655 e705 ([e9,(L R),I,I]) fun X Y Z=>[⟨(.exit 0),[(5,e502)],Y,m [e9]⟩]
def f187:Fam:=o 3 178 0 0 [] [] [] fun X Y Z=>[⟨.ret,[(0,(.agg [(i 0),(b 1),(b 2),(b 3),(b 4),(b 5),(b 6),(b 7),(b 8),(i 9),(b 10),(b 11),(b 12),(b 13),(b 14),(b 15),(b 16),(b 17),(i 18),(b 19),(b 20),(b 21),(b 22),(b 23),(b 24),(b 25),(b 26),(i 27),(b 28),(b 29),(b 30),(b 31),(b 32),(b 33),(b 34),(b 35),(i 36),(b 37),(b 38),(b 39),(b 40),(b 41),(b 42),(b 43),(b 44),(i 45),(b 46),(b 47),(b 48),(b 49),(b 50),(b 51),(b 52),(b 53),(i 54),(b 55),(b 56),(b 57),(b 58),(b 59),(b 60),(b 61),(b 62),(i 63),(b 64),(b 65),(b 66),(b 67),(b 68),(b 69),(b 70),(b 71),(i 72),(b 73),(b 74),(b 75),(b 76),(b 77),(b 78),(b 79),(b 80),(i 81),(b 82),(b 83),(b 84),(b 85),(b 86),(b 87),(b 88),(b 89)]))],[],k (.il 1) I++k e100 B++k e100 B++k e100 B++k e100 B++k e100 B++k e100 B++k e100 B++k e100 B++k (.il 0) I++k e125 B++k e100 B++k e125 B++k e100 B++k e100 B++k e100 B++k e125 B++k e100 B++k (.il 2) I++k e125 B++k e100 B++k e125 B++k e100 B++k e100 B++k e100 B++k e125 B++k e100 B++k (.il (-1)) I++k e125 B++k e125 B++k e100 B++k e100 B++k e100 B++k e100 B++k e125 B++k e100 B++k (.il 1) I++k e125 B++k e100 B++k e100 B++k e100 B++k e100 B++k e100 B++k e125 B++k e100 B++k (.il 1) I++k e100 B++k e100 B++k e100 B++k e100 B++k e100 B++k e100 B++k e125 B++k e100 B++k (.il (-1)) I++k e125 B++k e100 B++k e100 B++k e125 B++k e100 B++k e100 B++k e125 B++k e100 B++k (.il (-1)) I++k e100 B++k e100 B++k e100 B++k e125 B++k e100 B++k e100 B++k e100 B++k e100 B++k (.il (-1)) I++k e100 B++k e125 B++k e125 B++k e125 B++k e125 B++k e100 B++k e100 B++k e100 B++k (.il 1) I++k e100 B++k e100 B++k e100 B++k e100 B++k e100 B++k e125 B++k e100 B++k e125 B⟩]
def f189:Fam:=o 1 167 0 2 [(0,(t I 1)),(1,(f 169 [0]))] e698 [e10,e9] fun X Y Z=>[⟨.ret,[(0,(i 1))],e697,h Z [0]++m [I]⟩]
def f190:Fam:=o 1 172 0 5 [(0,(t V 12)),(1,(f 174 [0]))] e684 e130 fun X Y Z=>[⟨.ret,e632,e682,h Z [0,1,2,3,4,5,6,7,8,9,10,11]++m [B]⟩]
def f193:Fam:=o 2 78 0 0 e655 e705 ([e9,(L R),I,I]) fun X Y Z=>[⟨(.exit 0),[(5,e502)],Y,m [e9]⟩]
def f197:Fam:=o 2 167 0 2 [(0,(t I 1)),(1,(f 169 [0])),(7,(i 2)),(8,(i 3))] e697 [e10,e9,I,I] fun X Y Z=>[⟨(.exit 0),[],Y,h Z [0]⟩,⟨.ret,[(4,(i 1))],Y,h Z [0]++m [I]⟩]
def f201:Fam:=o 2 175 2 4 [(0,(p 0)),(3,(p 7)),(7,(t I 13)),(48,(t I 14)),(49,(i 15)),(50,(i 16))] e680 e149 fun X Y Z=>[⟨.ret,e646,(Y.take 7),h Z [0,1,2,3,4,5,6,7,8,9,10,11]++k (.il 2) I⟩,⟨(.exit 2),e677,Y,h Z [0,1,2,3,4,5,6,7,8,9,10,11,12,13]⟩]
def f203:Fam:=o 1 195 0 5 [(0,(t V 12)),(1,(f 174 [0]))] e684 e130 fun X Y Z=>[⟨.ret,e669,e682,h Z [0,1,2,3,4,5,6,7,8,9,10,11]++m [I]⟩]
def f206:Fam:=o 1 169 0 2 [(0,(i 1)),(1,(p 0))] e698 [e10,I] fun X Y Z=>[⟨.ret,e658,Y,h Z [0]++m [B]⟩]
def f208:Fam:=o 2 120 0 4 [(0,(p 0)),(1,(i 13)),(6,(p 7)),(8,(t I 14)),(37,(t I 15)),(38,(i 16)),(39,(i 17))] e680 [e10,e10,e10,e13,e14,S,I,I,e11,e12,I,B,N,I,e9,e9,I,I] fun X Y Z=>[⟨.ret,[(4,(i 12)),(5,(i 13))],(Y.take 7),m [e10]++h Z [1,2,3,4,5,6,7,8,9,10,11,13]++k (.il 3) I⟩,⟨(.exit 0),[(0,(p 0)),(6,(p 7)),(8,(t I 13))],Y,m [e10]++h Z [1,2,3,4,5,6,7,8,9,10,11,12,14]⟩]
def f210:Fam:=o 2 195 0 5 [(0,(t V 12)),(1,(f 174 [0])),(7,(i 13)),(8,(i 14))] e682 e150 fun X Y Z=>[⟨(.exit 0),[],Y,h Z [0,1,2,3,4,5,6,7,8,9,10,11]⟩,⟨.ret,e646,Y,h Z [0,1,2,3,4,5,6,7,8,9,10,11]++m [I]⟩]
def f214:Fam:=o 2 175 4 4 [(0,(p 0)),(3,(p 7)),(7,(t I 13)),(103,(t I 14)),(104,(i 15)),(105,(i 16))] e680 e149 fun X Y Z=>[⟨.ret,e646,(Y.take 7),h Z [0]++m [e10]++h Z [2,3,4,5,6,7,8,9,10,11]++k (.il 8) I⟩,⟨(.exit 4),e677,Y,h Z [0]++m [e10]++h Z [2,3,4,5,6,7,8,9,10,11,12,13]⟩]
def f216:Fam:=o 1 174 0 5 [(0,(.agg (c V 12))),(1,(p 0))] e684 e152 fun X Y Z=>[⟨.ret,e632,e682,h Z [0,1,2,3,4,5,6,7,8,9,10,11]++m [B]⟩]
def f218:Fam:=o 2 120 2 4 e642 e680 e136 fun X Y Z=>[⟨(.exit 2),[],(Y.take 7),m [e10,e10,e10]++h Z [3,4,5,6,7,8,9,10,11]⟩,⟨.ret,[(4,(i 12)),(5,(i 13))],(Y.take 7),m [e10,e10,e10]++h Z [3,4,5,6,7,8,9,10,11]++m [I,I]⟩]
def f222:Fam:=a 102 e639 [] [e13,I] [B]
def f223:Fam:=o 1 197 0 4 [(0,(p 0)),(1,(.agg (c N 12)))] e683 e151 fun X Y Z=>[⟨.ret,e632,e685,h Z [0,1,2,3,4,5,6,7,8,9,10,11]++m [B]⟩]
def f226:Fam:=o 2 120 4 4 [(0,(p 0)),(6,(p 7)),(12,(i 13)),(13,(t I 14)),(72,(t I 15)),(73,(i 16)),(74,(i 17)),(90,(t I 18)),(91,(i 19)),(92,(i 20))] e680 [e10,e10,e10,e13,e14,S,I,I,e11,e12,I,B,N,I,e9,e9,I,I,e9,I,I] fun X Y Z=>[⟨(.exit 4),[(0,(p 0)),(6,(p 7)),(12,(i 13)),(13,(t I 14)),(72,(t I 15)),(73,(i 16)),(74,(i 17))],Y,h Z [0,1]++m [e10]++h Z [3,4,5,6,7,8,9,10,11,12,13,14,15,16,17]⟩]
def f229:Fam:=a 153 e639 [] [e13,I] [e17]
def f231:Fam:=o 3 152 0 0 [(0,(t K 0)),(1,(.fn 154 []))] [] [e17] fun X Y Z=>[⟨.ret,[(0,(b 0))],[],m [B]⟩]
def f232:Fam:=o 1 210 0 5 [(0,(i 12)),(1,(p 0))] e684 e124 fun X Y Z=>[⟨.ret,e669,Y,h Z [0,1,2,3,4,5,6,7,8,9,10,11]++m [I]⟩]
def f233:Fam:=o 1 212 0 5 [(0,(p 0)),(1,(t I 13)),(2,(q 4 I 3)),(3,(i 14))] e704 [e10,e10,e10,e9,e13,e14,S,I,I,e11,e12,I,B,e9,I] fun X Y Z=>[⟨.ret,[(0,(b 13))],Y,h Z [0,1,2,3,4,5,6,7,8,9,10,11,12]++m [B]⟩]
def f234:Fam:=o 1 211 0 6 [(0,(i 12)),(1,(p 0)),(2,(p 5))] ([e610,e633,e596,e598,e597,y (f 210 [0])]) e124 fun X Y Z=>[⟨.ret,e632,[e610,g 12 C [(t D 3),(t F 4),(s 5),(i 6),(i 7),(t V 8),(t N 9),(i 10),(b 11),(q 6 B 0),(q 7 B 1),e533],d,d,d,y (f 210 [0]),e596,e598,e597],h Z [0,1,2,3,4,5,6,7,8,9,10,11]++m [B]⟩]
def f235:Fam:=o 1 214 0 4 [(0,(p 0)),(1,(i 12)),(2,(t I 13))] e683 [e10,e10,e10,e13,e14,S,I,I,e11,e12,I,B,I,e9] fun X Y Z=>[⟨.ret,e632,e685,h Z [0,1,2,3,4,5,6,7,8,9,10,11]++m [B]⟩]
def f236:Fam:=o 1 213 0 4 [(0,(p 0)),(1,(i 12)),(2,(i 13))] e683 [e10,e10,e10,e13,e14,S,I,I,e11,e12,I,B,I,I] fun X Y Z=>[⟨.ret,[(0,(.tup [(q 4 I 3),(b 13)]))],e704,h Z [0,1,2]++k .nl e9++h Z [3,4,5,6,7,8,9,10,11]++k e100 B⟩,⟨.ret,[(0,(.tup [(t I 12),(b 13)]))],Y,h Z [0,1,2,3,4,5,6,7,8,9,10,11]++m [e9]++k e125 B⟩]
def f237:Fam:=o 2 120 6 4 [(0,(p 0)),(6,(p 7)),(72,(t I 13)),(73,(i 14)),(74,(i 15)),(113,(t I 16)),(114,(i 17)),(115,(i 18))] e680 [e10,e10,e10,e13,e14,S,I,I,e11,e12,I,B,N,e9,I,I,e9,I,I] fun X Y Z=>[⟨(.exit 6),e642,Y,h Z [0,1]++m [e10]++h Z [3,4,5,6,7,8,9,10,11,12,13,14,15]⟩]
def f239:Fam:=o 3 185 0 0 [(0,(t K 0)),(1,(.fn 154 []))] [] [e17] fun X Y Z=>[⟨.ret,[(0,(i 0))],[],m [I]⟩]
def f240:Fam:=o 2 212 0 5 [(0,(p 0)),(2,(q 4 I 3)),(3,(i 13)),(16,(t I 14)),(17,(i 15)),(18,(i 16))] e704 [e10,e10,e10,e9,e13,e14,S,I,I,e11,e12,I,B,I,e9,I,I] fun X Y Z=>[⟨.ret,[(8,(b 13))],Y,h Z [0,1,2,3,4,5,6,7,8,9,10,11,12]++k e100 B⟩,⟨(.exit 0),[],Y,h Z [0,1,2,3,4,5,6,7,8,9,10,11,12]⟩]
def f241:Fam:=o 1 227 0 4 e641 e683 e124 fun X Y Z=>[⟨.ret,[(0,(.tup [(q 7 I 3),(b 13)]))],e707,h Z [0,1,2]++m [e9]++h Z [3,4,5,6,7,8,9,10,11]++m [B]⟩]
def f242:Fam:=o 1 212 0 4 [(0,(p 0)),(1,(t I 12)),(2,(t I 13)),(3,(i 14))] e683 [e10,e10,e10,e13,e14,S,I,I,e11,e12,I,B,e9,e9,I] fun X Y Z=>[⟨.ret,e632,Y,h Z [0,1,2,3,4,5,6,7,8,9,10,11]++m [B]⟩]
def f243:Fam:=o 2 197 1 4 [(2,(p 7)),(12,(i 12)),(259,(t R 13)),(260,(i 14)),(261,(i 15))] ([e600,d,d,d,e596,e598,e597,y (p 0)]) ([e10,e10,e10,e13,e14,S,I,I,e11,e12,I,B,I,(L R),I,I]) fun X Y Z=>[⟨.ret,[(4,(b 12))],(Y.take 7),h Z [0,1,2,3,4,5,6,7,8,9,10,11]++k e100 B⟩,⟨(.exit 1),[],(Y.take 7),h Z [0,1,2,3,4,5,6,7,8,9,10,11]⟩]
def f244:Fam:=o 2 185 0 0 [(0,(t K 0)),(1,(.fn 154 [])),(7,(i 1)),(8,(i 2))] [] [e17,I,I] fun X Y Z=>[⟨(.exit 0),[],[],[]⟩,⟨.ret,e674,[],m [I]⟩]
def f245:Fam:=o 2 227 0 4 [(7,(q 7 I 3)),(33,(t V 13)),(34,(i 14)),(35,(i 15))] e707 [e10,e10,e10,e9,e13,e14,S,I,I,e11,e12,I,B,e11,I,I] fun X Y Z=>[⟨(.exit 0),[(7,(q 7 I 3))],Y,h Z [0,1,2]++m [e9]++h Z [4,5,6,7,8,9,10,11,12]⟩]
def f246:Fam:=o 2 175 6 4 [(0,(p 0)),(3,(p 7)),(127,(t I 13)),(128,(i 14)),(129,(i 15))] e680 e136 fun X Y Z=>[⟨.ret,e646,(Y.take 7),h Z [0,1,2,3,4,5,6,7,8,9,10,11]++k (.il 11) I⟩,⟨(.exit 6),[],(Y.take 7),h Z [0,1,2,3,4,5,6,7,8,9,10,11]⟩]
def f247:Fam:=o 2 212 0 4 [(0,(p 0)),(2,(t I 12)),(3,(i 13)),(16,(t I 14)),(17,(i 15)),(18,(i 16))] e683 [e10,e10,e10,e13,e14,S,I,I,e11,e12,I,B,e9,I,e9,I,I] fun X Y Z=>[⟨.ret,[(8,(b 12))],Y,h Z [0,1,2,3,4,5,6,7,8,9,10,11]++k e100 B⟩,⟨(.exit 0),[],Y,h Z [0,1,2,3,4,5,6,7,8,9,10,11]⟩]
def f248:Fam:=a 154 e673 [] [K] [B]
def f254:Fam:=a 12 [] [] [] [B] true
def f256:Fam:=a 13 [(0,e595)] [] [P] [B]
def f257:Fam:=a 18 e672 [] [P,I] [I,I]
def f258:Fam:=o 2 13 0 0 [(1,(p 0)),(3,(i 1))] ([w 2 P 0]) [P,I] fun X Y Z=>[⟨.ret,e638,[],k e100 B⟩,⟨(.exit 0),[(1,(p 0))],Y,h Z [0]⟩]
def f260:Fam:=o 1 40 0 0 e672 [] [P,I] fun X Y Z=>[⟨.ret,[(0,(p 0))],e695,m [e10,e9,e13,e14,S,I,I,e11,e12,I,B]⟩]
def f262:Fam:=o 2 13 2 0 [(1,(p 0)),(4,(i 1))] ([w 2 P 0]) [P,I] fun X Y Z=>[⟨.ret,e638,[],k e100 B⟩,⟨(.exit 2),[(1,(p 0))],Y,h Z [0]⟩]
def f263:Fam:=a 43 [(0,e595),(1,(i 1)),(2,(b 2))] [] [P,I,B] [I,I]
def f264:Fam:=o 2 40 0 0 [(2,(p 0)),(5,(p 1)),(22,(t V 12)),(23,(i 13)),(24,(i 14))] ([w 2 P 2,y (p 2),g 11 U e583,e596,e607]) [e10,e9,P,e13,e14,S,I,I,e11,e12,I,B,e11,I,I] fun X Y Z=>[⟨(.exit 0),[(5,(p 0))],[e610,g 11 U e589,e596,e607],m [e10,e9]++h Z [3,4,5,6,7,8,9,10,11]⟩]
def f267:Fam:=o 2 13 4 0 [(1,(p 0)),(4,(i 2)),(5,(p 1)),(6,(i 3))] ([w 2 P 0,w 7 F 1]) [P,F,I,I] fun X Y Z=>[⟨.ret,e638,[],k e100 B⟩,⟨(.exit 4),[(1,(p 0)),(4,(i 1))],(Y.take 1),h Z [0,2]⟩]
def f268:Fam:=a 44 [(0,e595),(1,e531)] [] [P,F] [e9]
def f269:Fam:=o 1 103 0 5 [(0,(i 11)),(1,(p 0)),(2,(p 4))] ([e610,g 11 U e589,e596,e607,y e545]) [e10,e9,e13,e14,S,I,I,e11,e12,I,B,I] fun X Y Z=>[⟨.ret,e643,e711,h Z [0]++m [e9]++h Z [2,3,4,5,6,7,8,9,10]⟩]
def f270:Fam:=a 46 [(0,(.agg (c F 0)))] [] [F] [e9]
def f273:Fam:=o 2 44 0 0 [(2,(p 0)),(3,(p 1)),(5,e548),(6,(i 3))] e696 [e9,P,F,I] fun X Y Z=>[⟨(.exit 0),[(2,(p 0)),(3,(p 1)),(5,e548)],Y,m [e9]++h Z [1,2]⟩]
def f274:Fam:=o 1 52 0 3 [(0,(p 0)),(1,(b 11))] e695 [e10,e9,e13,e14,S,I,I,e11,e12,I,B,B] fun X Y Z=>[⟨.ret,[(0,(.tup [(i 11),(i 12)]))],[g 11 U [(t D 2),(t F 3),(s 4),(i 5),(i 6),(t V 7),(t N 8),(i 9),(b 10),e494,e555],d,d,e596,e607],h Z [0,1,2,3,4,5,6,7,8,9,10]++m [I,I]⟩]
def f275:Fam:=a 45 [(0,e595),(1,e531),(2,(t I 2))] [] [P,F,e9] [e9]
def f276:Fam:=o 2 103 0 5 [(1,(p 0)),(2,(p 4)),(4,(p 7)),(26,(t I 12)),(27,(i 13)),(28,(i 14))] ([e610,e675,d,d,y e545,e596,e607,w 10 N 11]) [e10,e9,e13,e14,S,I,I,e11,e12,I,B,N,e9,I,I] fun X Y Z=>[⟨(.exit 0),[(2,(p 4)),(4,(p 7))],Y,h Z [0]++m [e9]++h Z [2,3,4,5,6,7,8,9,10,11]⟩]
def f277:Fam:=o 2 103 2 5 [(2,(p 4)),(58,(t I 11)),(59,(i 12)),(60,(i 13))] e711 [e10,e9,e13,e14,S,I,I,e11,e12,I,B,e9,I,I] fun X Y Z=>[⟨(.exit 2),[],Y,h Z [0]++m [e9]++h Z [2,3,4,5,6,7,8,9,10]⟩]
def f278:Fam:=o 2 46 0 0 e647 ([w 7 F 1,e606]) [e9,F,I] fun X Y Z=>[⟨(.exit 0),[(3,e502)],e705,m [e9]⟩]
def f279:Fam:=a 110 [(0,e595),(1,e531),(2,(i 2))] [] [P,F,I] [B]
def f280:Fam:=o 1 109 0 1 [(0,(p 0)),(1,(i 1)),(2,.nils),(3,(t I 2))] e709 [W,I,e9] fun X Y Z=>[⟨.ret,e643,Y,m [W]⟩]
def f281:Fam:=o 1 111 0 1 [(0,(.agg (c P 1))),(1,(.agg (c F 2))),(2,(i 3)),(3,e502)] e705 [e9,P,F,I] fun X Y Z=>[⟨.ret,e643,Y,m [e9]⟩]
def f282:Fam:=o 1 80 0 3 [(0,(p 0))] e695 [e10,e9,e13,e14,S,I,I,e11,e12,I,B] fun X Y Z=>[⟨.ret,[(0,(.agg e593))],e681,h Z [0,1]++m [e10,e10]++h Z [2,3,4,5,6,7,8,9,10]⟩,⟨.ret,[(0,(.agg [e488,(.sl 4 e115 (v 13))]))],e681,h Z [0,1]++m [e10,e10]++h Z [2,3,4,5,6,7,8,9,10]++m [.nat]⟩]
def f283:Fam:=o 2 45 0 0 e649 e696 [e9,P,F,e9,I] fun X Y Z=>[⟨(.exit 0),[(7,e502)],e705,m [e9]⟩]
def f284:Fam:=a 163 e639 [] [e13,I] [B]
def f285:Fam:=o 1 162 0 1 [(0,(p 0)),(1,(.agg (c N 1))),(2,.nils),(3,(t I 2))] e709 [W,N,e9] fun X Y Z=>[⟨.ret,[(0,(i 1))],Y,h Z [0]++m [I]⟩]
def f286:Fam:=o 2 111 0 1 e634 e699 ([e9,P,F,N,(L R),I,I]) fun X Y Z=>[⟨(.exit 0),[(3,e502),(4,(p 1)),(5,(p 2)),(8,(p 3))],Y,m [e9]++h Z [1,2,3]⟩]
def f287:Fam:=o 2 111 4 1 [(3,e502),(4,(p 1)),(5,(p 2)),(60,(t I 3)),(61,(i 4)),(62,(i 5))] [e606,e630,e627] [e9,P,F,e9,I,I] fun X Y Z=>[⟨(.exit 4),[],(Y.take 1),m [e9]⟩]
def f288:Fam:=o 2 80 0 3 [(0,(p 0)),(2,(p 3)),(3,(p 6)),(24,(i 15)),(25,(i 16))] ([e676,e596,e607,g 2 T e594,e597,e648,g 2 T [(q 7 B 4),(q 8 B 5)],r B 4,r B 5]) [e10,e9,e10,e10,e10,e10,e13,e14,S,I,I,e11,e12,I,B,I,I] fun X Y Z=>[⟨(.exit 0),e670,Y,h Z [0,1,2,3,4,5,6,7,8,9,10,11,12,13,14]⟩,⟨(.exit 0),e670,e701,h Z [0,1,2,3,4]++m [e10]++h Z [6,7,8,9,10,11,12,13,14]++m [.nat]⟩]
def f289:Fam:=o 2 163 0 0 [(5,(t K 0)),(6,(i 1))] [] [e17,I] fun X Y Z=>[⟨.ret,[(4,(b 0))],[],k e100 B⟩,⟨(.exit 0),[],[],[]⟩]
def f290:Fam:=a 53 e671 [] [P,F,N] [e9]
def f291:Fam:=o 2 111 2 1 [(3,e502),(4,(p 1)),(5,(p 2)),(8,(p 3)),(29,(t R 4)),(30,(i 5)),(31,(i 6)),(36,(t I 7)),(37,(i 8)),(38,(i 9))] e699 ([e9,P,F,N,(L R),I,I,e9,I,I]) fun X Y Z=>[⟨(.exit 2),e634,Y,m [e9]++h Z [1,2,3,4,5,6]⟩]
def f292:Fam:=o 1 139 0 6 [(0,(p 0)),(1,(.agg e593)),(2,(q 5 I 4))] e712 [e10,e9,e10,e10,e9,e13,e14,S,I,I,e11,e12,I,B] fun X Y Z=>[⟨.ret,e643,Y,h Z [0,1,2]++m [e10]++h Z [4,5,6,7,8,9,10,11,12,13]⟩]
def f293:Fam:=a 142 e671 [] [P,F,N] [e9]
def f294:Fam:=o 1 125 0 0 [(0,e595),(1,e531),(2,(t I 2))] [] [P,F,e9] fun X Y Z=>[⟨.ret,[(0,e502)],e705,m [e9]⟩]
def f295:Fam:=a 126 [(0,e595),(1,e531),(2,(i 2)),(3,(t I 3)),(4,(b 4))] [] [P,F,I,e9,B] [e9]
def f296:Fam:=o 2 139 0 6 [(0,(p 0)),(4,(p 6)),(8,(q 5 I 4)),(9,(i 14)),(10,(i 15))] ([e644,e596,e607,e597,e648,r I 4,g 2 T e593]) [e10,e9,e10,e10,e9,e13,e14,S,I,I,e11,e12,I,B,I,I] fun X Y Z=>[⟨(.exit 0),[],(Y.take 6),h Z [0,1,2]++m [e10]++h Z [4,5,6,7,8,9,10,11,12,13]⟩]
def f297:Fam:=o 1 123 0 8 [(0,(i 14)),(1,(.agg [e556,(q 1 B 1)])),(2,(p 2)),(3,(p 6)),(4,(p 7))] e689 [e10,e10,e10,e9,e13,e14,S,I,I,e11,e12,I,B,B,I] fun X Y Z=>[⟨.ret,[(0,e549)],e690,h Z [0,1,2,3,4,5,6,7,8,9,10,11,12,13]++m [I,I]⟩]
def f298:Fam:=o 2 162 0 1 [(0,(p 0)),(2,e489),(3,(t I 3)),(5,(p 2)),(9,(t I 4)),(10,(t I 5)),(11,(i 6))] e700 [e9,W,N,e9,e9,e9,I] fun X Y Z=>[⟨.ret,e663,e709,h Z [1]++k (.il 11) I⟩,⟨(.exit 0),e611,Y,h Z [0,1,2,3,4,5]⟩]
def f299:Fam:=o 2 125 0 0 e649 e696 [e9,P,F,e9,I] fun X Y Z=>[⟨(.exit 0),[(7,e502)],e705,m [e9]⟩]
def f300:Fam:=o 2 126 0 0 [(2,(i 3)),(3,(t I 4)),(4,(b 5)),(5,(p 0)),(6,(p 1)),(11,e548),(12,(i 6))] e696 [e9,P,F,I,e9,B,I] fun X Y Z=>[⟨(.exit 0),[(11,e502)],e705,m [e9]⟩]
def f301:Fam:=o 1 181 0 3 [(0,(p 0)),(1,(i 11))] e695 [e10,e9,e13,e14,S,I,I,e11,e12,I,B,I] fun X Y Z=>[⟨.ret,[(0,(b 11))],Y,h Z [0,1,2,3,4,5,6,7,8,9,10]++m [B]⟩]
def f302:Fam:=o 1 124 0 5 [(0,(p 0)),(1,e543),(2,(.agg e593)),(3,(b 14))] e681 [e10,e9,e10,e10,e13,e14,S,I,I,e11,e12,I,B,N,B] fun X Y Z=>[⟨.ret,[(0,(i 13))],e679,h Z [2,3,0,1,4,5,6,7,8,9,10,11,12]++m [I]⟩]
def f303:Fam:=o 2 162 2 1 [(0,(p 0)),(2,e489),(3,(t I 4)),(5,(p 2)),(9,(t I 5)),(10,(t I 6)),(12,(q 3 I 1)),(13,(i 7))] [e603,e606,e620,e607] [e9,e9,W,N,e9,e9,e9,I] fun X Y Z=>[⟨(.exit 2),e611,e700,h Z [0,2,3,4,5,6]⟩,⟨.ret,e663,e709,h Z [2]++k e129 I⟩]
def f304:Fam:=o 2 111 4 1 [(3,(.sl 0 e115 (v 3))),(4,(p 1)),(5,(p 2)),(60,(t I 4)),(61,(i 5)),(62,(i 6))] [e606,e630,e627] [e9,P,F,.nat,e9,I,I] fun X Y Z=>[⟨(.exit 4),[],(Y.take 1),m [e9]⟩]
def f305:Fam:=o 1 138 0 3 [(0,(p 0)),(1,(.agg (c N 11)))] e695 [e10,e9,e13,e14,S,I,I,e11,e12,I,B,N] fun X Y Z=>[⟨.ret,[(0,(.tup [(q 5 I 2),e469]))],[g 11 U [(t D 4),(t F 5),(s 6),(i 7),(i 8),(t V 9),(t N 10),(i 11),(b 12),e494,e555],d,d,e596,e607,r I 2,e605],h Z [0,1]++m [e9,e9]++h Z [2,3,4,5,6,7,8,9,10]⟩]
def f306:Fam:=a 84 e664 [] [e9,I] [B]
def f307:Fam:=o 1 111 0 1 [(0,(.agg (c P 1))),(1,(.agg (c F 2))),(2,(i 3)),(3,e544)] e705 [e9,P,F,I,.nat] fun X Y Z=>[⟨.ret,e643,Y,m [e9]⟩]
def f308:Fam:=o 1 180 0 3 [(0,(p 0)),(1,(t I 11))] e695 [e10,e9,e13,e14,S,I,I,e11,e12,I,B,e9] fun X Y Z=>[⟨.ret,[(0,(q 5 I 2))],e710,h Z [0,1]++m [e9]++h Z [2,3,4,5,6,7,8,9,10]⟩]
def f309:Fam:=o 1 179 0 9 [(0,(t I 14)),(1,(p 0)),(2,(p 4)),(3,(p 5)),(4,(p 7))] ([e610,g 11 U [(t D 4),(t F 5),(s 6),(i 7),(i 8),(t V 9),(t N 10),(i 11),(b 12),e526,(q 3 I 1)],e596,e607,w 10 N 13,x 6 I 2,r I 2,x 8 I 3,e605]) [e10,e9,e9,e9,e13,e14,S,I,I,e11,e12,I,B,N,e9] fun X Y Z=>[⟨.ret,e643,e693,h Z [0,1]++m [e9,e9]++h Z [4,5,6,7,8,9,10,11,12,13]⟩]
def f310:Fam:=o 2 162 4 1 e631 e700 [e9,W,N,e9,e9,e9,I] fun X Y Z=>[⟨.ret,e663,e709,h Z [1]++k e129 I⟩,⟨(.exit 4),e611,Y,h Z [0,1,2,3,4,5]⟩]
def f311:Fam:=o 2 80 0 3 [(0,(p 0)),(2,(p 3)),(3,(p 6)),(24,(i 16)),(25,(i 17))] e701 [e10,e9,e10,e10,e10,e10,e13,e14,S,I,I,e11,e12,I,B,.nat,I,I] fun X Y Z=>[⟨(.exit 0),e670,Y,h Z [0,1,2,3,4]++m [e10]++h Z [6,7,8,9,10,11,12,13,14,15]⟩]
def f312:Fam:=o 2 124 0 5 [(0,(p 0)),(3,(b 16)),(5,(p 7)),(6,(p 8)),(9,e486),(10,e487),(30,e486),(31,(i 17)),(32,(i 18))] ([e601,d,d,e596,e598,e597,e605,e609,e637,r I 4,r I 5]) e146 fun X Y Z=>[⟨.ret,e608,e679,h Z [0,1,2,3,6,7,8,9,10,11,12,13,14]++k (.il 11) I⟩,⟨(.exit 0),e614,Y,h Z [0,1,2,3,4,5,6,7,8,9,10,11,12,13,14,15,16]⟩]
def f313:Fam:=o 2 84 0 0 [(0,(t I 0)),(1,(i 1)),(5,(i 2))] [] [e9,I,I] fun X Y Z=>[⟨.ret,[(4,(b 0))],[],k e125 B⟩,⟨(.exit 0),[],[],[]⟩]
def f314:Fam:=o 2 111 0 1 e635 e699 ([e9,P,F,N,.nat,(L R),I,I]) fun X Y Z=>[⟨(.exit 0),[(3,e544),(4,(p 1)),(5,(p 2)),(8,(p 3))],Y,m [e9]++h Z [1,2,3,4]⟩]
def f315:Fam:=o 2 180 0 3 [(0,(p 0)),(5,(q 5 I 2)),(8,(t I 12)),(9,(i 13)),(10,(i 14))] e710 [e10,e9,e9,e13,e14,S,I,I,e11,e12,I,B,e9,I,I] fun X Y Z=>[⟨(.exit 0),[(5,(q 5 I 2))],Y,h Z [0,1]++m [e9]++h Z [3,4,5,6,7,8,9,10,11]⟩]
def f316:Fam:=o 2 179 0 9 [(1,(p 0)),(2,(p 4)),(3,(p 5)),(4,(p 7)),(8,(t I 14)),(9,(i 15)),(10,(i 16))] e693 [e10,e9,e9,e9,e13,e14,S,I,I,e11,e12,I,B,N,e9,I,I] fun X Y Z=>[⟨(.exit 0),[],Y,h Z [0,1]++m [e9,e9]++h Z [4,5,6,7,8,9,10,11,12,13]⟩]
def f317:Fam:=o 2 162 6 1 [(0,(p 0)),(2,e489),(3,(t I 3)),(5,(p 2)),(9,(t I 4)),(10,(t I 5)),(14,(i 6)),(15,(i 7))] e700 [e9,W,N,e9,e9,e9,I,I] fun X Y Z=>[⟨.ret,e663,e709,h Z [1]++k e129 I⟩,⟨(.exit 6),e631,Y,h Z [0,1,2,3,4,5,6]⟩]
def f318:Fam:=o 1 139 0 6 [(0,(p 0)),(1,(.agg [e488,e517])),(2,(q 5 I 4))] e712 [e10,e9,e10,e10,e9,e13,e14,S,I,I,e11,e12,I,B,.nat] fun X Y Z=>[⟨.ret,e643,Y,h Z [0,1,2]++m [e10]++h Z [4,5,6,7,8,9,10,11,12,13]⟩]
def f319:Fam:=o 2 111 2 1 [(3,e544),(4,(p 1)),(5,(p 2)),(8,(p 3)),(29,(t R 5)),(30,(i 6)),(31,(i 7)),(36,(t I 8)),(37,(i 9)),(38,(i 10))] e699 ([e9,P,F,N,.nat,(L R),I,I,e9,I,I]) fun X Y Z=>[⟨(.exit 2),e635,Y,m [e9]++h Z [1,2,3,4,5,6,7]⟩]
def f320:Fam:=o 2 109 0 1 [(0,(p 0)),(3,(t I 2)),(10,e489),(64,(t R 3)),(65,(i 4)),(66,(i 5))] [e628,e606] ([e9,W,e9,(L R),I,I]) fun X Y Z=>[⟨(.exit 0),[],e709,m [W]⟩]
def f321:Fam:=o 2 109 2 1 [(0,(p 0)),(10,e489),(14,e477),(109,(t I 3)),(110,(i 4)),(111,(i 5))] e691 [e9,e9,W,e9,I,I] fun X Y Z=>[⟨(.exit 2),[],e709,m [W]⟩]
def f322:Fam:=o 2 162 8 1 [(0,(p 0)),(2,e489),(3,(t I 3)),(5,(p 2)),(9,(t I 4)),(10,(t I 5)),(16,(i 6))] e700 [e9,W,N,e9,e9,e9,I] fun X Y Z=>[⟨.ret,e663,e709,h Z [1]++k e129 I⟩,⟨(.exit 8),[(0,(p 0)),(2,e489),(3,(t I 3)),(5,(p 2)),(9,(t I 4))],Y,h Z [0,1,2,3,4]⟩]
def f323:Fam:=o 2 162 10 1 [(2,e489),(3,(t I 2)),(9,(t I 3)),(18,(i 4))] [e628,e606] [e9,W,e9,e9,I] fun X Y Z=>[⟨.ret,e663,e709,h Z [1]++k e129 I⟩,⟨(.exit 10),[],e709,h Z [1]⟩]
def f324:Fam:=a 141 [(0,(t e9 0))] [] ([(L e9)]) [e9]
def f325:Fam:=o 2 139 0 6 [(0,(p 0)),(4,(p 6)),(8,(q 5 I 4)),(9,(i 15)),(10,(i 16))] ([e644,e596,e607,e597,e648,r I 4,g 2 T [e488,e517]]) [e10,e9,e10,e10,e9,e13,e14,S,I,I,e11,e12,I,B,.nat,I,I] fun X Y Z=>[⟨(.exit 0),[],(Y.take 6),h Z [0,1,2]++m [e10]++h Z [4,5,6,7,8,9,10,11,12,13]⟩]
def f326:Fam:=o 2 124 2 5 [(0,(p 0)),(3,(b 16)),(5,(p 7)),(6,(p 8)),(9,e486),(10,e487),(49,(t I 17)),(50,(i 18)),(51,(i 19))] e686 [e10,e10,e10,e9,e9,e9,e13,e14,S,I,I,e11,e12,I,B,N,B,e9,I,I] fun X Y Z=>[⟨.ret,e608,e679,h Z [0,1,2,3,6,7,8,9,10,11,12,13,14]++k e129 I⟩,⟨(.exit 2),e614,Y,h Z [0,1,2,3,4,5,6,7,8,9,10,11,12,13,14,15,16]⟩]
def f327:Fam:=o 1 109 0 3 [(0,(p 0)),(1,(i 3)),(2,e489),(3,e477)] e691 [e9,e9,W,I] fun X Y Z=>[⟨.ret,e643,Y,h Z [0,1]++m [W]⟩]
def f328:Fam:=o 2 141 0 0 [(0,(t e9 0)),(3,(i 1)),(9,(t e9 2)),(10,(i 3)),(11,(i 4))] [] ([(L e9),I,(L e9),I,I]) fun X Y Z=>[⟨(.exit 0),[(0,(t e9 0)),(3,(i 1))],[],h Z [0]++m [I]⟩]
def f329:Fam:=o 1 123 0 8 [(0,(i 14)),(1,(.agg [e556,(.sl 1 e115 (v 15))])),(2,(p 2)),(3,(p 6)),(4,(p 7))] e689 [e10,e10,e10,e9,e13,e14,S,I,I,e11,e12,I,B,B,I,.nat] fun X Y Z=>[⟨.ret,[(0,e549)],e690,h Z [0,1,2,3,4,5,6,7,8,9,10,11,12,13]++m [I,I]⟩]
def f330:Fam:=o 1 162 0 3 [(0,(p 0)),(1,(.agg (c N 3))),(2,e489),(3,e477)] e691 [e9,e9,W,N] fun X Y Z=>[⟨.ret,[(0,(i 3))],Y,h Z [0,1,2]++m [I]⟩]
def f331:Fam:=o 2 124 4 5 e621 e686 e146 fun X Y Z=>[⟨(.exit 4),e614,Y,h Z [0,1,2,3,4,5,6,7,8,9,10,11,12,13,14,15,16]⟩,⟨.ret,e608,e679,h Z [0,1,2,3,6,7,8,9,10,11,12,13,14]++k e129 I⟩]
def f332:Fam:=o 1 182 0 0 [(0,.nils),(1,(i 0))] [] [I] fun X Y Z=>[⟨.ret,[(0,e557)],e705,m [e9,.nat]⟩,⟨.ret,[(0,.nils)],[],[]⟩]
def f333:Fam:=o 1 124 0 5 [(0,(p 0)),(1,e543),(2,(.agg [e488,e517])),(3,(b 15))] e681 [e10,e9,e10,e10,e13,e14,S,I,I,e11,e12,I,B,N,.nat,B] fun X Y Z=>[⟨.ret,[(0,(i 13))],e679,h Z [2,3,0,1,4,5,6,7,8,9,10,11,12]++m [I]⟩]
def f334:Fam:=o 2 162 0 3 [(0,(p 0)),(2,e489),(3,e477),(5,(p 3)),(9,(t I 4)),(10,(t I 5)),(11,(i 6))] e694 [e9,e9,W,N,e9,e9,I] fun X Y Z=>[⟨.ret,e665,(Y.take 3),h Z [0,1,2]++k (.il 11) I⟩,⟨(.exit 0),e612,Y,h Z [0,1,2,3,4,5]⟩]
def f335:Fam:=o 2 123 0 8 [(2,(p 2)),(4,(p 7)),(6,(p 10)),(9,(p 11)),(33,(t I 15)),(34,(i 16)),(35,(i 17))] ([e596,e598,e645,e625,d,d,e618,e656,e597,e605,g 2 T [e556,(q 1 B 1)],w 10 N 14]) [e10,e10,e10,e9,e13,e14,S,I,I,e11,e12,I,B,B,N,e9,I,I] fun X Y Z=>[⟨(.exit 0),[],(Y.take 10),h Z [0,1,2,3,4,5,6,7,8,9,10,11,12,13]⟩,⟨.ret,e666,(Y.take 10),h Z [0,1,2,3,4,5,6,7,8,9,10,11,12,13]++m [I,I]⟩]
def f336:Fam:=a 60 e664 [] [e9,I] [B]
def f337:Fam:=o 2 124 0 5 [(0,(p 0)),(3,(b 17)),(5,(p 7)),(6,(p 8)),(9,e486),(10,e487),(30,e486),(31,(i 18)),(32,(i 19))] ([e601,d,d,e596,e598,e597,e605,e609,e650,r I 4,r I 5]) e145 fun X Y Z=>[⟨.ret,e608,e679,h Z [0,1,2,3,6,7,8,9,10,11,12,13,14]++k (.il 11) I⟩,⟨(.exit 0),e615,Y,h Z [0,1,2,3,4,5,6,7,8,9,10,11,12,13,14,15,16,17]⟩]
def f338:Fam:=a 176 e654 [] [N] [B]
def f339:Fam:=o 2 141 2 0 [(6,e557),(25,(t e9 2)),(26,(i 3)),(27,(i 4))] e705 ([e9,.nat,(L e9),I,I]) fun X Y Z=>[⟨(.exit 2),[(6,e557)],Y,h Z [0,1]⟩,⟨(.exit 2),[(6,e502)],Y,m [e9]⟩]
def f340:Fam:=o 2 141 2 0 [(6,e502),(25,(t e9 1)),(26,(i 2)),(27,(i 3))] e705 ([e9,(L e9),I,I]) fun X Y Z=>[⟨(.exit 2),[(6,e502)],Y,m [e9]⟩]
def f341:Fam:=o 2 162 2 3 [(0,(p 0)),(2,e489),(3,e477),(5,(p 3)),(9,(t I 5)),(10,(t I 6)),(12,(q 4 I 2)),(13,(i 7))] ([g 13 W e580,e606,e607,w 10 N 4,r I 2]) [e9,e9,e9,W,N,e9,e9,I] fun X Y Z=>[⟨.ret,e665,e691,h Z [0,1,3]++k e129 I⟩,⟨(.exit 2),e612,e694,h Z [0,1,3,4,5,6]⟩]
def f342:Fam:=o 2 124 6 5 [(0,(p 0)),(3,(b 16)),(5,(p 7)),(6,(p 8)),(9,e486),(10,e487),(16,(i 17)),(67,e486),(68,(i 18)),(69,(i 19)),(79,e487),(80,(i 20)),(81,(i 21))] e686 [e10,e10,e10,e9,e9,e9,e13,e14,S,I,I,e11,e12,I,B,N,B,I,I,I,I,I] fun X Y Z=>[⟨.ret,e608,e679,h Z [0,1,2,3,6,7,8,9,10,11,12,13,14]++k e129 I⟩,⟨(.exit 6),e621,Y,h Z [0,1,2,3,4,5,6,7,8,9,10,11,12,13,14,15,16,18,19]⟩]
def f343:Fam:=o 1 79 0 5 [(0,(p 0)),(1,e543),(2,(i 14)),(3,(.agg e593))] e681 [e10,e9,e10,e10,e13,e14,S,I,I,e11,e12,I,B,N,I] fun X Y Z=>[⟨.ret,[(0,e563)],e692,h Z [2,3,0,1]++m [e10,e10]++h Z [4,5,6,7,8,9,10,11,12]++m [.nat,.nat]⟩]
def f344:Fam:=a 132 e664 [] [e9,I] [I]
def f345:Fam:=o 2 124 10 5 [(6,(p 7)),(9,e547),(137,e540),(138,(i 14)),(139,(i 15))] e706 [e10,e10,e10,e9,e9,e13,e14,S,I,I,e11,e12,I,B,I,I] fun X Y Z=>[⟨.ret,e608,e679,h Z [0,1,2,3,5,6,7,8,9,10,11,12,13]++k e129 I⟩,⟨(.exit 10),[],e679,h Z [0,1,2,3,5,6,7,8,9,10,11,12,13]⟩]
def f346:Fam:=o 2 124 8 5 [(0,(p 0)),(3,(b 15)),(6,(p 7)),(9,e547),(102,(q 9 I 5)),(103,(i 16)),(104,(i 17))] [e601,d,d,e596,e598,e597,e605,e637,e599,e602] [e10,e10,e10,e9,e9,e9,e13,e14,S,I,I,e11,e12,I,B,B,I,I] fun X Y Z=>[⟨.ret,e608,e679,h Z [0,1,2,3,6,7,8,9,10,11,12,13,14]++k e129 I⟩,⟨(.exit 8),[(3,(b 14)),(6,(p 7)),(9,e547)],e706,h Z [0,1,2,3,4,6,7,8,9,10,11,12,13,14,15]⟩]
def f347:Fam:=o 2 124 2 5 [(0,(p 0)),(3,(b 17)),(5,(p 7)),(6,(p 8)),(9,e486),(10,e487),(49,(t I 18)),(50,(i 19)),(51,(i 20))] e687 [e10,e10,e10,e9,e9,e9,e13,e14,S,I,I,e11,e12,I,B,N,.nat,B,e9,I,I] fun X Y Z=>[⟨.ret,e608,e679,h Z [0,1,2,3,6,7,8,9,10,11,12,13,14]++k e129 I⟩,⟨(.exit 2),e615,Y,h Z [0,1,2,3,4,5,6,7,8,9,10,11,12,13,14,15,16,17]⟩]
def f348:Fam:=o 1 137 0 2 [(0,(.agg [e556,(q 1 B 1)]))] [e596,e598] [e10,e10] fun X Y Z=>[⟨.ret,[(0,e564)],e708,h Z [0,1]++m [e10,e10,.nat,.nat]⟩]
def f349:Fam:=o 2 132 0 0 [(0,(t I 0)),(1,(i 1)),(7,(i 2)),(8,(i 3))] [] [e9,I,I,I] fun X Y Z=>[⟨.ret,e674,[],m [I]⟩,⟨(.exit 0),[],[],[]⟩]
def f350:Fam:=o 2 162 4 3 e636 e694 [e9,e9,W,N,e9,e9,I] fun X Y Z=>[⟨.ret,e665,(Y.take 3),h Z [0,1,2]++k e129 I⟩,⟨(.exit 4),e612,Y,h Z [0,1,2,3,4,5]⟩]
def f351:Fam:=o 2 109 0 3 [(0,(p 0)),(3,e477),(10,(q 3 I 2)),(64,(t R 4)),(65,(i 5)),(66,(i 6))] ([g 13 W e580,e606,e607,r I 2]) ([e9,e9,e9,W,(L R),I,I]) fun X Y Z=>[⟨(.exit 0),[],e691,h Z [0,1]++m [W]⟩]
def f352:Fam:=o 2 109 2 3 [(0,(p 0)),(10,(q 3 I 2)),(14,(q 4 I 3)),(109,(t I 5)),(110,(i 6)),(111,(i 7))] ([g 13 W [(.tl D (.o1 (.fst e14) (.o1 (.fst e31) (v 4)))),(.tl F (.o1 (.snd e13) (.o1 (.fst e31) (v 4)))),(.ss (.o1 (.fst e34) e236)),(.ii .i64 (.o1 (.fst e32) e316)),(.ii .i64 (.o1 (.fst e29) e378)),(.tl V (.o1 (.fst e25) e421)),(.tl N (.o1 (.fst V) e445)),(.ii .i64 (.o1 (.fst B) (.o1 (.snd e12) e445))),(.bb (.o1 (.snd I) (.o1 (.snd e12) e445))),(.tl I (.o1 (.fst e20) e246)),(.bb (.o1 (.fst e3) e323)),(.ii .i64 (.o1 (.fst I) (.o1 (.snd B) e323))),(.ii .i64 (.o1 (.snd I) (.o1 (.snd B) e323)))],e606,e607,r I 2,e605]) [e9,e9,e9,e9,W,e9,I,I] fun X Y Z=>[⟨(.exit 2),[],e691,h Z [0,1]++m [W]⟩]
def f353:Fam:=o 2 124 4 5 e622 e687 e145 fun X Y Z=>[⟨.ret,e608,e679,h Z [0,1,2,3,6,7,8,9,10,11,12,13,14]++k e129 I⟩,⟨(.exit 4),e615,Y,h Z [0,1,2,3,4,5,6,7,8,9,10,11,12,13,14,15,16,17]⟩]
def f354:Fam:=o 2 79 0 5 [(0,(p 0)),(2,(i 21)),(5,(p 7)),(8,(p 8)),(9,(p 11)),(22,(q 14 I 8)),(23,(i 22)),(24,(i 23))] ([g 11 U [(t D 9),(t F 10),(s 11),(i 12),(i 13),(t V 14),(t N 15),(i 16),(b 17),e470,e469],d,d,e596,e598,e597,e605,w 10 N 18,g 2 T [(q 9 B 4),(q 10 B 5)],r B 4,r B 5,g 2 T [(.sl 12 e115 (v 19)),(.sl 13 e115 (v 20))],r B 6,r B 7,r I 8]) [e10,e10,e10,e9,e10,e10,e10,e10,e9,e13,e14,S,I,I,e11,e12,I,B,N,.nat,.nat,I,I,I] fun X Y Z=>[⟨(.exit 0),[(0,(p 0)),(2,(i 20)),(5,(p 7)),(8,(p 8)),(9,(p 11))],[g 11 U [(t D 8),(t F 9),(s 10),(i 11),(i 12),(t V 13),(t N 14),(i 15),(b 16),e470,e469],d,d,e596,e598,e597,e605,w 10 N 17,g 2 T [(q 9 B 4),(q 10 B 5)],r B 4,r B 5,g 2 T [(.sl 12 e115 (v 18)),(.sl 13 e115 (v 19))],r B 6,r B 7],h Z [0,1,2,3,4,5]++m [e10]++h Z [7,9,10,11,12,13,14,15,16,17,18,19,20,21]⟩]
def f355:Fam:=o 2 162 6 3 [(0,(p 0)),(2,e489),(3,e477),(5,(p 3)),(9,(t I 4)),(10,(t I 5)),(14,(i 6)),(15,(i 7))] e694 [e9,e9,W,N,e9,e9,I,I] fun X Y Z=>[⟨.ret,e665,(Y.take 3),h Z [0,1,2]++k e129 I⟩,⟨(.exit 6),e636,Y,h Z [0,1,2,3,4,5,6]⟩]
def f356:Fam:=o 2 123 0 8 [(2,(p 2)),(4,(p 7)),(6,(p 10)),(9,(p 11)),(33,(t I 16)),(34,(i 17)),(35,(i 18))] ([e596,e598,e645,e625,d,d,e618,e656,e597,e605,g 2 T [e556,(.sl 1 e115 (v 14))],e609]) [e10,e10,e10,e9,e13,e14,S,I,I,e11,e12,I,B,B,.nat,N,e9,I,I] fun X Y Z=>[⟨(.exit 0),[],(Y.take 10),h Z [0,1,2,3,4,5,6,7,8,9,10,11,12,13]⟩,⟨.ret,e666,(Y.take 10),h Z [0,1,2,3,4,5,6,7,8,9,10,11,12,13]++m [I,I]⟩]
def f357:Fam:=o 2 162 8 3 [(0,(p 0)),(2,e489),(3,e477),(5,(p 3)),(9,(t I 4)),(10,(t I 5)),(16,(i 6))] e694 [e9,e9,W,N,e9,e9,I] fun X Y Z=>[⟨.ret,e665,(Y.take 3),h Z [0,1,2]++k e129 I⟩,⟨(.exit 8),[(0,(p 0)),(2,e489),(3,e477),(5,(p 3)),(9,(t I 4))],Y,h Z [0,1,2,3,4]⟩]
def f358:Fam:=o 2 162 10 3 [(2,e489),(3,e477),(9,(t I 3)),(18,(i 4))] e691 [e9,e9,W,e9,I] fun X Y Z=>[⟨.ret,e665,Y,h Z [0,1,2]++k e129 I⟩,⟨(.exit 10),[],Y,h Z [0,1,2]⟩]
def f359:Fam:=o 2 124 6 5 [(0,(p 0)),(3,(b 17)),(5,(p 7)),(6,(p 8)),(9,e486),(10,e487),(16,(i 18)),(67,e486),(68,(i 19)),(69,(i 20)),(79,e487),(80,(i 21)),(81,(i 22))] e687 [e10,e10,e10,e9,e9,e9,e13,e14,S,I,I,e11,e12,I,B,N,.nat,B,I,I,I,I,I] fun X Y Z=>[⟨.ret,e608,e679,h Z [0,1,2,3,6,7,8,9,10,11,12,13,14]++k e129 I⟩,⟨(.exit 6),e622,Y,h Z [0,1,2,3,4,5,6,7,8,9,10,11,12,13,14,15,16,17,19,20]⟩]
def f360:Fam:=o 2 124 10 5 [(6,(p 7)),(9,e547),(137,e530),(138,(i 16)),(139,(i 17))] e702 [e10,e10,e10,e9,e9,e13,e14,S,I,I,e11,e12,I,B,.nat,.nat,I,I] fun X Y Z=>[⟨.ret,e608,e679,h Z [0,1,2,3,5,6,7,8,9,10,11,12,13]++k e129 I⟩,⟨(.exit 10),[],e679,h Z [0,1,2,3,5,6,7,8,9,10,11,12,13]⟩]
def f361:Fam:=o 2 124 8 5 [(0,(p 0)),(3,(b 16)),(6,(p 7)),(9,e547),(102,(q 9 I 5)),(103,(i 17)),(104,(i 18))] ([e601,d,d,e596,e598,e597,e605,g 2 T [e494,e530],e599,e602]) [e10,e10,e10,e9,e9,e9,e13,e14,S,I,I,e11,e12,I,B,.nat,B,I,I] fun X Y Z=>[⟨.ret,e608,e679,h Z [0,1,2,3,6,7,8,9,10,11,12,13,14]++k e129 I⟩,⟨(.exit 8),[(3,(b 15)),(6,(p 7)),(9,e547)],e702,h Z [0,1,2,3,4,6,7,8,9,10,11,12,13,14,15,16]⟩]
def f362:Fam:=o 1 139 0 5 [(0,(p 0)),(1,(.agg [(.sl 3 e115 (v 13)),e517])),(2,(t I 15))] e681 [e10,e9,e10,e10,e13,e14,S,I,I,e11,e12,I,B,.nat,.nat,e9] fun X Y Z=>[⟨.ret,e643,Y,h Z [0,1,2]++m [e10]++h Z [4,5,6,7,8,9,10,11,12]⟩]
def f363:Fam:=o 1 79 0 5 [(0,(p 0)),(1,e543),(2,(i 14)),(3,(.agg [e488,e530]))] e681 [e10,e9,e10,e10,e13,e14,S,I,I,e11,e12,I,B,N,I,.nat] fun X Y Z=>[⟨.ret,[(0,e563)],e692,h Z [2,3,0,1]++m [e10,e10]++h Z [4,5,6,7,8,9,10,11,12]++m [.nat,.nat]⟩]
def f364:Fam:=o 2 139 0 5 [(0,(p 0)),(4,(p 5)),(8,(t I 15)),(9,(i 16)),(10,(i 17))] ([e624,e596,e607,e597,e648,g 2 T [(.sl 3 e115 (v 13)),e517]]) [e10,e9,e10,e10,e13,e14,S,I,I,e11,e12,I,B,.nat,.nat,e9,I,I] fun X Y Z=>[⟨(.exit 0),[],(Y.take 5),h Z [0,1,2]++m [e10]++h Z [4,5,6,7,8,9,10,11,12]⟩]
def f365:Fam:=o 1 137 0 2 [(0,(.agg [e556,(.sl 1 e115 (v 2))]))] [e596,e598] [e10,e10,.nat] fun X Y Z=>[⟨.ret,[(0,e564)],e708,h Z [0,1]++m [e10,e10,.nat,.nat]⟩]
def f366:Fam:=o 1 123 0 8 [(0,(i 14)),(1,(.agg [(.sl 0 e115 (v 15)),(.sl 1 e115 (v 16))])),(2,(p 2)),(3,(p 6)),(4,(p 7))] e689 [e10,e10,e10,e9,e13,e14,S,I,I,e11,e12,I,B,B,I,.nat,.nat] fun X Y Z=>[⟨.ret,[(0,e549)],e690,h Z [0,1,2,3,4,5,6,7,8,9,10,11,12,13]++m [I,I]⟩]
def f367:Fam:=o 1 124 0 5 [(0,(p 0)),(1,e543),(2,(.agg [e554,e530])),(3,(b 16))] e681 [e10,e9,e10,e10,e13,e14,S,I,I,e11,e12,I,B,N,.nat,.nat,B] fun X Y Z=>[⟨.ret,[(0,(i 13))],e679,h Z [2,3,0,1,4,5,6,7,8,9,10,11,12]++m [I]⟩]
def f368:Fam:=o 2 124 0 5 [(0,(p 0)),(3,(b 18)),(5,(p 7)),(6,(p 8)),(9,e486),(10,e487),(30,e486),(31,(i 19)),(32,(i 20))] ([e601,d,d,e596,e598,e597,e605,e609,e651,r I 4,r I 5]) e143 fun X Y Z=>[⟨.ret,e608,e679,h Z [0,1,2,3,6,7,8,9,10,11,12,13,14]++k (.il 11) I⟩,⟨(.exit 0),e616,Y,h Z [0,1,2,3,4,5,6,7,8,9,10,11,12,13,14,15,16,17,18]⟩]
def f369:Fam:=o 2 124 2 5 [(0,(p 0)),(3,(b 18)),(5,(p 7)),(6,(p 8)),(9,e486),(10,e487),(49,(t I 19)),(50,(i 20)),(51,(i 21))] e688 [e10,e10,e10,e9,e9,e9,e13,e14,S,I,I,e11,e12,I,B,N,.nat,.nat,B,e9,I,I] fun X Y Z=>[⟨.ret,e608,e679,h Z [0,1,2,3,6,7,8,9,10,11,12,13,14]++k e129 I⟩,⟨(.exit 2),e616,Y,h Z [0,1,2,3,4,5,6,7,8,9,10,11,12,13,14,15,16,17,18]⟩]
def f370:Fam:=o 2 124 4 5 e623 e688 e143 fun X Y Z=>[⟨.ret,e608,e679,h Z [0,1,2,3,6,7,8,9,10,11,12,13,14]++k e129 I⟩,⟨(.exit 4),e616,Y,h Z [0,1,2,3,4,5,6,7,8,9,10,11,12,13,14,15,16,17,18]⟩]
def f371:Fam:=o 2 123 0 8 [(2,(p 2)),(4,(p 7)),(6,(p 10)),(9,(p 11)),(33,(t I 17)),(34,(i 18)),(35,(i 19))] ([e596,e598,e645,e625,d,d,e618,e656,e597,e605,g 2 T [(.sl 0 e115 (v 14)),(.sl 1 e115 (v 15))],w 10 N 16]) [e10,e10,e10,e9,e13,e14,S,I,I,e11,e12,I,B,B,.nat,.nat,N,e9,I,I] fun X Y Z=>[⟨(.exit 0),[],(Y.take 10),h Z [0,1,2,3,4,5,6,7,8,9,10,11,12,13]⟩,⟨.ret,e666,(Y.take 10),h Z [0,1,2,3,4,5,6,7,8,9,10,11,12,13]++m [I,I]⟩]
def f372:Fam:=o 2 124 6 5 [(0,(p 0)),(3,(b 18)),(5,(p 7)),(6,(p 8)),(9,e486),(10,e487),(16,(i 19)),(67,e486),(68,(i 20)),(69,(i 21)),(79,e487),(80,(i 22)),(81,(i 23))] e688 [e10,e10,e10,e9,e9,e9,e13,e14,S,I,I,e11,e12,I,B,N,.nat,.nat,B,I,I,I,I,I] fun X Y Z=>[⟨.ret,e608,e679,h Z [0,1,2,3,6,7,8,9,10,11,12,13,14]++k e129 I⟩,⟨(.exit 6),e623,Y,h Z [0,1,2,3,4,5,6,7,8,9,10,11,12,13,14,15,16,17,18,20,21]⟩]
def f373:Fam:=o 2 124 10 5 [(6,(p 7)),(9,e547),(137,e495),(138,(i 17)),(139,(i 18))] e703 [e10,e10,e10,e9,e9,e13,e14,S,I,I,e11,e12,I,B,.nat,.nat,.nat,I,I] fun X Y Z=>[⟨.ret,e608,e679,h Z [0,1,2,3,5,6,7,8,9,10,11,12,13]++k e129 I⟩,⟨(.exit 10),[],e679,h Z [0,1,2,3,5,6,7,8,9,10,11,12,13]⟩]
def f374:Fam:=o 2 124 8 5 [(0,(p 0)),(3,(b 17)),(6,(p 7)),(9,e547),(102,(q 9 I 5)),(103,(i 18)),(104,(i 19))] ([e601,d,d,e596,e598,e597,e605,g 2 T [(.sl 3 e115 (v 15)),e495],e599,e602]) [e10,e10,e10,e9,e9,e9,e13,e14,S,I,I,e11,e12,I,B,.nat,.nat,B,I,I] fun X Y Z=>[⟨.ret,e608,e679,h Z [0,1,2,3,6,7,8,9,10,11,12,13,14]++k e129 I⟩,⟨(.exit 8),[(3,(b 16)),(6,(p 7)),(9,e547)],e703,h Z [0,1,2,3,4,6,7,8,9,10,11,12,13,14,15,16,17]⟩]
def f375:Fam:=o 1 79 0 5 [(0,(p 0)),(1,e543),(2,(i 14)),(3,(.agg [(.sl 3 e115 (v 15)),e495]))] e681 [e10,e9,e10,e10,e13,e14,S,I,I,e11,e12,I,B,N,I,.nat,.nat] fun X Y Z=>[⟨.ret,[(0,e563)],e692,h Z [2,3,0,1]++m [e10,e10]++h Z [4,5,6,7,8,9,10,11,12]++m [.nat,.nat]⟩]
def f376:Fam:=o 1 137 0 2 [(0,(.agg [(.sl 0 e115 (v 2)),(.sl 1 e115 (v 3))]))] [e596,e598] [e10,e10,.nat,.nat] fun X Y Z=>[⟨.ret,[(0,e564)],e708,h Z [0,1]++m [e10,e10,.nat,.nat]⟩]
def f377:Fam:=a 4 [(0,e595)] [] [P] [B]
def f378:Fam:=o 2 4 0 0 [(1,(p 0)),(3,(i 1))] ([w 2 P 0]) [P,I] fun X Y Z=>[⟨(.exit 0),[],[],[]⟩,⟨.ret,e638,[],k e100 B⟩]
def f379:Fam:=o 2 4 2 0 [(1,(p 0)),(3,(i 3)),(4,(p 1)),(7,e548),(8,(i 4))] e696 [e9,P,F,I,I] fun X Y Z=>[⟨(.exit 2),[(1,(p 0)),(3,(i 3)),(4,(p 1)),(7,e548)],Y,m [e9]++h Z [1,2,3]⟩]
def f380:Fam:=a 19 [(0,e595),(1,e531),(2,(i 2)),(3,(t I 3)),(4,(t I 4))] [] [P,F,I,e9,e9] [B]
def f381:Fam:=o 2 19 0 0 [(4,(t I 4)),(5,(p 0)),(6,(p 1)),(11,(p 2)),(12,(q 3 I 0)),(35,(t I 5)),(36,(i 6)),(37,(i 7))] [e630,e627,e620,e606] [e9,P,F,N,e9,e9,I,I] fun X Y Z=>[⟨(.exit 0),[(4,(t I 4)),(5,(p 0)),(6,(p 1)),(11,(p 2)),(12,(q 3 I 0))],Y,m [e9]++h Z [1,2,3,4]⟩]
def f382:Fam:=o 2 19 2 0 [(4,(t I 3)),(5,(p 0)),(6,(p 1)),(12,e548),(52,(t R 4)),(53,(i 5)),(54,(i 6))] e696 ([e9,P,F,e9,(L R),I,I]) fun X Y Z=>[⟨.ret,[(10,(b 0))],[],k e100 B⟩,⟨(.exit 2),[],[],[]⟩]
def f383:Fam:=o 2 19 4 0 [(6,(p 0)),(12,e489),(20,(t I 3)),(96,e477),(97,(i 4)),(98,(i 5))] [e627,e606,e607] [e9,e9,F,e9,I,I] fun X Y Z=>[⟨.ret,[(10,(b 0))],[],k e100 B⟩,⟨(.exit 4),[],[],[]⟩]
end T
open T
namespace Tfams
def n:Nat→Tr Fam→Tr Fam→Tr Fam:=.node
def l:Fam→Tr Fam:=.leaf
end Tfams
open Tfams in
def fams:Tr Fam:=
 (n 192 (n 96 (n 48 (n 24 (n 12 (n 6 (n 3 (n 1 (l f383) (n 2 (l f383) (l f2))) (n 4 (l f3) (l f383))) (n 9 (n 7 (l f383) (n 8 (l f383) (l f8))) (l f383))) (n 18 (n 15 (n 13 (l f383) (n 14 (l f13) (l f383))) (n 16 (l f15) (l f383))) (n 21 (n 19 (l f383) (n 20 (l f19) (l f383))) (n 22 (l f383) (n 23 (l f22) (l f383)))))) (n 36 (n 30 (n 27 (n 25 (l f24) (l f383)) (n 28 (l f383) (n 29 (l f28) (l f29)))) (n 33 (l f383) (n 34 (l f33) (n 35 (l f383) (l f35))))) (n 42 (n 39 (n 37 (l f383) (n 38 (l f383) (l f38))) (n 40 (l f383) (n 41 (l f40) (l f383)))) (n 45 (n 43 (l f383) (n 44 (l f43) (l f383))) (n 46 (l f383) (n 47 (l f383) (l f47))))))) (n 72 (n 60 (n 54 (n 51 (n 49 (l f383) (n 50 (l f49) (l f383))) (n 52 (l f383) (n 53 (l f52) (l f383)))) (n 57 (n 55 (l f383) (n 56 (l f55) (l f56))) (n 58 (l f383) (n 59 (l f58) (l f383))))) (n 66 (n 63 (n 61 (l f383) (n 62 (l f61) (l f383))) (n 64 (l f383) (n 65 (l f383) (l f65)))) (n 69 (n 67 (l f66) (n 68 (l f383) (l f68))) (n 70 (l f69) (l f383))))) (n 84 (n 78 (n 75 (n 73 (l f383) (n 74 (l f383) (l f74))) (n 76 (l f383) (n 77 (l f76) (l f383)))) (n 81 (l f383) (n 82 (l f81) (n 83 (l f383) (l f83))))) (n 90 (n 87 (l f383) (n 88 (l f87) (l f383))) (n 93 (n 91 (l f90) (n 92 (l f383) (l f92))) (l f383)))))) (n 144 (n 120 (n 108 (n 102 (n 99 (n 97 (l f96) (l f383)) (n 100 (l f383) (n 101 (l f383) (l f101)))) (n 105 (n 103 (l f383) (n 104 (l f383) (l f104))) (n 106 (l f383) (n 107 (l f106) (l f383))))) (n 114 (n 111 (n 109 (l f108) (l f383)) (n 112 (l f111) (l f383))) (n 117 (l f383) (n 118 (l f117) (l f383))))) (n 132 (n 126 (n 123 (n 121 (l f383) (n 122 (l f121) (l f383))) (n 124 (l f123) (l f383))) (n 129 (n 127 (l f383) (n 128 (l f383) (l f128))) (n 130 (l f383) (n 131 (l f130) (l f383))))) (n 138 (n 135 (n 133 (l f383) (n 134 (l f133) (l f383))) (n 136 (l f135) (l f383))) (n 141 (n 139 (l f383) (n 140 (l f383) (l f140))) (n 142 (l f383) (n 143 (l f383) (l f143))))))) (n 168 (n 156 (n 150 (n 147 (n 145 (l f383) (n 146 (l f145) (l f146))) (n 148 (l f383) (n 149 (l f383) (l f149)))) (n 153 (l f383) (n 154 (l f153) (n 155 (l f383) (l f155))))) (n 162 (n 159 (n 157 (l f383) (n 158 (l f157) (l f158))) (l f383)) (n 165 (n 163 (l f162) (l f383)) (n 166 (l f383) (n 167 (l f166) (l f167)))))) (n 180 (n 174 (n 171 (n 169 (l f383) (n 170 (l f383) (l f170))) (n 172 (l f383) (n 173 (l f172) (l f383)))) (n 177 (n 175 (l f383) (n 176 (l f175) (l f383))) (n 178 (l f177) (n 179 (l f383) (l f179))))) (n 186 (n 183 (n 181 (l f383) (n 182 (l f383) (l f182))) (l f383)) (n 189 (n 187 (l f186) (n 188 (l f187) (l f383))) (n 190 (l f189) (n 191 (l f190) (l f383))))))))) (n 288 (n 240 (n 216 (n 204 (n 198 (n 195 (n 193 (l f383) (n 194 (l f193) (l f383))) (n 196 (l f383) (n 197 (l f383) (l f197)))) (n 201 (l f383) (n 202 (l f201) (n 203 (l f383) (l f203))))) (n 210 (n 207 (n 205 (l f383) (n 206 (l f383) (l f206))) (n 208 (l f383) (n 209 (l f208) (l f383)))) (n 213 (n 211 (l f210) (l f383)) (n 214 (l f383) (n 215 (l f214) (l f383))))))
 (n 228 (n 222 (n 219 (n 217 (l f216) (n 218 (l f383) (l f218))) (l f383)) (n 225 (n 223 (l f222) (n 224 (l f223) (l f383))) (n 226 (l f383) (n 227 (l f226) (l f383))))) (n 234 (n 231 (n 229 (l f383) (n 230 (l f229) (l f383))) (n 232 (l f231) (n 233 (l f232) (l f233)))) (n 237 (n 235 (l f234) (n 236 (l f235) (l f236))) (n 238 (l f237) (n 239 (l f383) (l f239))))))) (n 264 (n 252 (n 246 (n 243 (n 241 (l f240) (n 242 (l f241) (l f242))) (n 244 (l f243) (n 245 (l f244) (l f245)))) (n 249 (n 247 (l f246) (n 248 (l f247) (l f248))) (l f383))) (n 258 (n 255 (n 253 (l f383) (n 254 (l f383) (l f254))) (n 256 (l f383) (n 257 (l f256) (l f257)))) (n 261 (n 259 (l f258) (n 260 (l f383) (l f260))) (n 262 (l f383) (n 263 (l f262) (l f263)))))) (n 276 (n 270 (n 267 (n 265 (l f264) (l f383)) (n 268 (l f267) (n 269 (l f268) (l f269)))) (n 273 (n 271 (l f270) (l f383)) (n 274 (l f273) (n 275 (l f274) (l f275))))) (n 282 (n 279 (n 277 (l f276) (n 278 (l f277) (l f278))) (n 280 (l f279) (n 281 (l f280) (l f281)))) (n 285 (n 283 (l f282) (n 284 (l f283) (l f284))) (n 286 (l f285) (n 287 (l f286) (l f287)))))))) (n 336 (n 312 (n 300 (n 294 (n 291 (n 289 (l f288) (n 290 (l f289) (l f290))) (n 292 (l f291) (n 293 (l f292) (l f293)))) (n 297 (n 295 (l f294) (n 296 (l f295) (l f296))) (n 298 (l f297) (n 299 (l f298) (l f299))))) (n 306 (n 303 (n 301 (l f300) (n 302 (l f301) (l f302))) (n 304 (l f303) (n 305 (l f304) (l f305)))) (n 309 (n 307 (l f306) (n 308 (l f307) (l f308))) (n 310 (l f309) (n 311 (l f310) (l f311)))))) (n 324 (n 318 (n 315 (n 313 (l f312) (n 314 (l f313) (l f314))) (n 316 (l f315) (n 317 (l f316) (l f317)))) (n 321 (n 319 (l f318) (n 320 (l f319) (l f320))) (n 322 (l f321) (n 323 (l f322) (l f323))))) (n 330 (n 327 (n 325 (l f324) (n 326 (l f325) (l f326))) (n 328 (l f327) (n 329 (l f328) (l f329)))) (n 333 (n 331 (l f330) (n 332 (l f331) (l f332))) (n 334 (l f333) (n 335 (l f334) (l f335))))))) (n 360 (n 348 (n 342 (n 339 (n 337 (l f336) (n 338 (l f337) (l f338))) (n 340 (l f339) (n 341 (l f340) (l f341)))) (n 345 (n 343 (l f342) (n 344 (l f343) (l f344))) (n 346 (l f345) (n 347 (l f346) (l f347))))) (n 354 (n 351 (n 349 (l f348) (n 350 (l f349) (l f350))) (n 352 (l f351) (n 353 (l f352) (l f353)))) (n 357 (n 355 (l f354) (n 356 (l f355) (l f356))) (n 358 (l f357) (n 359 (l f358) (l f359)))))) (n 372 (n 366 (n 363 (n 361 (l f360) (n 362 (l f361) (l f362))) (n 364 (l f363) (n 365 (l f364) (l f365)))) (n 369 (n 367 (l f366) (n 368 (l f367) (l f368))) (n 370 (l f369) (n 371 (l f370) (l f371))))) (n 378 (n 375 (n 373 (l f372) (n 374 (l f373) (l f374))) (n 376 (l f375) (n 377 (l f376) (l f377)))) (n 381 (n 379 (l f378) (n 380 (l f379) (l f380))) (n 382 (l f381) (n 383 (l f382) (l f383))))))))))
namespace Tpfns
def z:Tr (Option Nat):=.leaf none
def n:Nat→Tr (Option Nat)→Tr (Option Nat)→Tr (Option Nat):=.node
def l:(Option Nat)→Tr (Option Nat):=.leaf
end Tpfns
open Tpfns in
def pfns:Tr (Option Nat):=
 (n 132 (n 66 (n 33 (n 16 (n 8 (n 4 z (n 6 (n 5 (l (some 377)) z) z)) (n 12 z (n 14 (n 13 (l (some 254)) (l (some 256))) z))) (n 24 (n 20 (n 18 (n 17 z (l (some 8))) (n 19 (l (some 257)) (l (some 380)))) z) z)) (n 49 (n 41 z (n 45 (n 43 z (n 44 (l (some 263)) (l (some 268)))) (n 47 (n 46 (l (some 275)) (l (some 270))) z))) (n 57 (n 53 (n 51 (n 50 z (l (some 13))) (n 52 (l (some 24)) z)) (n 55 (n 54 (l (some 290)) (l (some 158))) (n 56 (l (some 149)) z))) (n 61 (n 59 z (n 60 z (l (some 336)))) z)))) (n 99 (n 82 (n 74 z (n 78 z (n 80 (n 79 (l (some 177)) z) z))) (n 90 (n 86 (n 84 z (n 85 (l (some 306)) z)) z) (n 94 z (n 96 z (n 97 (l (some 166)) z))))) (n 115 (n 107 (n 103 (n 101 z (n 102 z (l (some 222)))) z) (n 111 (n 109 z (n 110 z (l (some 279)))) (n 113 (n 112 z (l (some 19))) (n 114 (l (some 22)) (l (some 29)))))) (n 123 (n 119 (n 117 z (n 118 (l (some 135)) (l (some 69)))) (n 121 z (n 122 (l (some 130)) (l (some 111))))) (n 127 (n 125 z (n 126 z (l (some 295)))) (n 129 z (n 130 z (n 131 z (l (some 162)))))))))) (n 198 (n 165 (n 148 (n 140 (n 136 (n 134 (n 133 (l (some 344)) z) z) (n 138 (n 137 (l (some 170)) z) z)) (n 144 (n 142 (n 141 z (l (some 324))) (n 143 (l (some 293)) z)) z)) (n 156 (n 152 z (n 154 (n 153 z (l (some 229))) (n 155 (l (some 248)) z))) (n 160 z (n 162 z (n 163 z (n 164 (l (some 284)) (l (some 81)))))))) (n 181 (n 173 (n 169 (n 167 (n 166 (l (some 47)) (l (some 104))) z) (n 171 (n 170 z (l (some 49))) z)) (n 177 (n 175 z (n 176 z (l (some 338)))) (n 179 (n 178 z (l (some 187))) z))) (n 189 z (n 193 z (n 195 (n 194 (l (some 2)) (l (some 66))) (n 196 z (n 197 (l (some 153)) z))))))) (n 231 (n 214 (n 206 z (n 210 (n 208 z (n 209 z (l (some 3)))) z)) z) z)))
namespace Tfnss
def z:Tr (List Nat):=.leaf []
def n:Nat→Tr (List Nat)→Tr (List Nat)→Tr (List Nat):=.node
def l:(List Nat)→Tr (List Nat):=.leaf
end Tfnss
open Tfnss in
def fnss:Tr (List Nat):=
 (n 132 (n 66 (n 33 z (n 49 (n 41 (n 37 z (n 39 z (n 40 z (l [260])))) z) (n 57 (n 53 (n 51 z (n 52 z (l [274]))) z) z))) (n 99 (n 82 (n 74 z (n 78 z (n 80 (n 79 z (l [343,363,375])) (n 81 (l [282]) z)))) z) (n 115 (n 107 (n 103 z (n 105 (n 104 (l [269]) z) z)) (n 111 (n 109 z (n 110 (l [280,327]) z)) (n 113 (n 112 (l [281,307]) z) z))) (n 123 (n 119 (n 117 (n 116 (l [76,172]) (l [121])) z) (n 121 (n 120 (l [35]) (l [123])) z)) (n 127 (n 125 (n 124 (l [297,329,366]) (l [302,333,367])) (n 126 (l [294]) z)) z))))) (n 198 (n 165 (n 148 (n 140 (n 136 z (n 138 (n 137 z (l [348,365,376])) (n 139 (l [305]) (l [292,318,362])))) z) (n 156 (n 152 z (n 154 (n 153 (l [38,55,117,231]) z) z)) (n 160 z (n 162 z (n 163 (l [285,330]) z))))) (n 181 (n 173 (n 169 (n 167 z (n 168 (l [92,189]) (l [157]))) (n 171 (n 170 (l [206]) z) (n 172 (l [83]) (l [108,190])))) (n 177 (n 175 (n 174 (l [155]) (l [216])) (n 176 (l [140]) z)) (n 179 z (n 180 (l [309]) (l [308]))))) (n 189 (n 185 (n 183 (n 182 (l [301]) (l [332])) z) (n 187 (n 186 (l [52,74,133,239]) z) z)) (n 193 z (n 195 z (n 196 (l [128,203]) (n 197 z (l [223])))))))) (n 231 (n 214 (n 206 z (n 210 z (n 212 (n 211 (l [232]) (l [234])) (n 213 (l [233,242]) (l [236]))))) (n 222 (n 218 (n 216 (n 215 (l [235]) z) z) z) (n 226 z (n 228 (n 227 z (l [241])) z)))) z)))
namespace Tloopss
def z:Tr (List (Nat×Nat)):=.leaf []
def n:Nat→Tr (List (Nat×Nat))→Tr (List (Nat×Nat))→Tr (List (Nat×Nat)):=.node
def l:(List (Nat×Nat))→Tr (List (Nat×Nat)):=.leaf
end Tloopss
open Tloopss in
def QEf:Tr (List (Nat×Nat)):=
 (n 132 (n 66 (n 33 (n 16 (n 8 (n 4 z (n 6 (n 5 (l [(0,378),(2,379)]) z) z)) (n 12 z (n 14 (n 13 z (l [(0,258),(2,262),(4,267)])) z))) (n 24 (n 20 (n 18 (n 17 z (l [(0,15)])) (n 19 z (l [(0,381),(2,382),(4,383)]))) z) z)) (n 49 (n 41 (n 37 z (n 39 z (n 40 z (l [(0,264)])))) (n 45 (n 43 z (n 44 z (l [(0,273)]))) (n 47 (n 46 (l [(0,283)]) (l [(0,278)])) z))) (n 57 (n 53 (n 51 (n 50 z (l [(0,40),(2,58)])) (n 52 (l [(0,96)]) z)) (n 55 (n 54 z (l [(1,179)])) (n 56 (l [(1,167)]) z))) z))) (n 99 (n 82 (n 74 z (n 78 z (n 80 (n 79 (l [(0,193)]) (l [(0,354)])) (n 81 (l [(0,288),(0,311)]) z)))) (n 90 (n 86 (n 84 z (n 85 (l [(0,313)]) z)) z) (n 94 z (n 96 z (n 97 (l [(0,186)]) z))))) (n 115 (n 107 (n 103 z (n 105 (n 104 (l [(0,276),(2,277)]) z) z)) (n 111 (n 109 z (n 110 (l [(0,320),(2,321),(0,351),(2,352)]) z)) (n 113 (n 112 (l [(0,286),(4,287),(2,291),(4,304),(0,314),(2,319)]) (l [(0,28)])) (n 114 (l [(0,33)]) (l [(0,43),(2,61)]))))) (n 123 (n 119 (n 117 z (n 118 z (l [(0,87),(2,101)]))) (n 121 (n 120 (l [(0,56)]) (l [(0,208),(2,218),(4,226),(6,237)])) (n 122 (l [(0,145)]) z))) (n 127 (n 125 (n 124 (l [(0,335),(0,356),(0,371)]) (l [(0,312),(2,326),(4,331),(0,337),(6,342),(10,345),(8,346),(2,347),(4,353),(6,359),(10,360),(8,361),(0,368),(2,369),(4,370),(6,372),(10,373),(8,374)])) (n 126 (l [(0,299)]) (l [(0,300)]))) (n 129 z (n 130 z (n 131 z (l [(0,182)]))))))))) (n 198 (n 165 (n 148 (n 140 (n 136 (n 134 (n 133 (l [(0,349)]) z) z) (n 138 z (n 139 z (l [(0,296),(0,325),(0,364)])))) (n 144 (n 142 (n 141 z (l [(0,328),(2,339),(2,340)])) z) z)) (n 156 z (n 160 z (n 162 z (n 163 (l [(0,298),(2,303),(4,310),(6,317),(8,322),(10,323),(0,334),(2,341),(4,350),(6,355),(8,357),(10,358)]) (n 164 (l [(0,289)]) z)))))) (n 181 (n 173 (n 169 (n 167 (n 166 (l [(0,65)]) z) (n 168 (l [(0,106),(0,197)]) z)) z) (n 177 (n 175 z (n 176 (l [(0,175),(2,201),(4,214),(6,246)]) z)) (n 179 z (n 180 (l [(0,316)]) (l [(0,315)]))))) (n 189 (n 185 z (n 187 (n 186 (l [(0,68),(0,90),(0,146),(0,244)]) z) z)) (n 193 z (n 195 z (n 196 (l [(0,143),(0,210)]) (n 197 z (l [(1,243)])))))))) (n 231 (n 214 (n 206 z (n 210 z (n 212 z (n 213 (l [(0,240),(0,247)]) z)))) (n 222 z (n 226 z (n 228 (n 227 z (l [(0,245)])) z)))) z)))
def QC5:List (Nat×Nat)→Nat→List Nat
 | [],_=>[]
 | (a,b)::r,k=>match Nat.beq a k with |true=>b::QC5 r k |false=>QC5 r k
def tb:Tab:=⟨fun i=>match Nat.blt i 384 with |true=>fams.get i |false=>default,pfns.get,fnss.get,fun f b=>QC5 (QEf.get f) b⟩
end Go.Proofs.YtkecfadnfnnfaaaGreatDoor.LabB
