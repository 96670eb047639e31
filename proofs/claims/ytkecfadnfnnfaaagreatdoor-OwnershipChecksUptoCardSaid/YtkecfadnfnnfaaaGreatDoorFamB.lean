/- The families of functions and loops of this program: tables, nothing is claimed here. -/
import Derived.Test.YtkecfadnfnnfaaaGreatDoorTabB
import Derived.Test.YtkecfadnfnnfaaaGreatDoorSyC
set_option maxRecDepth 100000
set_option linter.all false
noncomputable section
namespace Go.Proofs.YtkecfadnfnnfaaaGreatDoor.LabB
open Go Go.Ev Go.Sy
def QwX:Ty:=(.pair .str (.int .u64))
def QD6:Ty:=(.pair (.int .i64) .bool)
def QD7:Ty:=(.pair (.int .u8) (.int .u8))
def QyS:Ty:=(.pair (.lst (.int .i64)) (.int .i64))
def QG0:Ty:=(.pair .str (.lst (.int .i64)))
def QFf:Ty:=(.pair (.lst .bool) (.lst .bool))
def QD8:Ty:=(.pair (.int .i64) (.pair (.int .i64) (.pair .bool (.int .u8))))
def QFg:Ty:=(.pair .str (.lst QG0))
def QnW:Ty:=(.pair (.lst .bool) (.pair (.lst .bool) (.pair (.int .i64) (.int .i64))))
def QG1:Ty:=(.pair (.int .i64) (.pair .bool (.pair .bool (.pair .bool (.pair .bool (.pair .bool (.pair .bool (.pair .bool .bool))))))))
def QBO:Ty:=(.pair (.int .i64) (.pair (.int .i64) (.pair (.lst (.int .i64)) (.pair (.int .i64) (.pair (.int .i64) (.pair (.int .i64) (.pair (.lst (.int .i64)) (.pair .bool (.pair (.lst QyS) (.int .i64))))))))))
def QvW:Ty:=(.pair .str (.pair (.int .i64) (.pair (.int .i64) (.pair (.lst QD6) (.pair (.lst QBO) QD6)))))
def QD9:Ty:=(.pair QvW (.pair (.lst (.int .i64)) .bool))
def QfW:Ty:=(.pair (.lst QFg) (.lst QvW))
def QG2:Ty:=(.pair QvW (.pair (.lst (.int .i64)) (.pair (.lst (.int .i64)) (.pair (.lst (.int .i64)) QD6))))
def QIj:Ty:=(.pair QfW (.pair QvW (.pair (.lst .bool) (.lst (.int .i64)))))
def QG3:Ty:=(.pair QfW (.pair QvW (.pair (.lst (.int .i64)) (.pair .bool (.pair (.int .i64) (.int .i64))))))
def QBP:Ty:=(.pair QfW (.pair QvW (.pair (.lst .bool) QFf)))
def QEa:Ty:=(.pair QfW (.pair QvW (.pair (.lst (.int .i64)) (.lst QBO))))
namespace T
def v:Nat→Sy.Ex:=.v
def B:Ty:=.bool
def S:Ty:=.str
def I:Ty:=.int .i64
def L:Ty→Ty:=.lst
def F:Ty:=QvW
def N:Ty:=QBO
def P:Ty:=QfW
def D:Ty:=QFg
def V:Ty:=QD6
def K:Ty:=QG0
def R:Ty:=QyS
def C:Ty:=QBP
def U:Ty:=QIj
def W:Ty:=QG3
def T:Ty:=QFf
def G:Ty:=QD9
def E:Ty:=QEa
def i (n:Nat):SV:=.ii .i64 (v n)
def b (n:Nat):SV:=.bb (v n)
def s (n:Nat):SV:=.ss (v n)
def t (T:Ty)(n:Nat):SV:=.tl T (v n)
def p (n:Nat):SV:=.ptr n (.nn 0) 0
def q (k:Nat)(T:Ty)(n:Nat):SV:=.sl k (.nn 0) (.o1 (.len T) (v n))
def f (k:Nat)(l:List Nat):SV:=.fn k (l.map p)
def c (T:Ty)(n:Nat):List SV:=cellsOf T (v n)
def r (T:Ty)(n:Nat):SB:=.rows 1 T (v n)
def g (n:Nat)(T:Ty)(l:List SV):SB:=.box n (some T) [l]
def u (T:Ty)(x:SV):SB:=g 1 T [x]
def x (k:Nat)(T:Ty)(n:Nat):SB:=u (L T) (q k T n)
def w (k:Nat)(T:Ty)(n:Nat):SB:=g k T (c T n)
def y (x:SV):SB:=.box 1 none [[x]]
def d:SB:=.dead
def nth:List Ty→Nat→Ty
 | [],_=>.unit
 | t::_,0=>t
 | _::l,n+1=>nth l n
def h (k:List Ty)(l:List Nat):List (Hk×Ty):=l.map fun i=>(.par i,nth k i)
def m (l:List Ty):List (Hk×Ty):=l.map fun t=>(.new,t)
def k (e:Sy.Ex)(T:Ty):List (Hk×Ty):=[(.con e,T)]
def aa (i:Nat)(T:Ty):List (Hk×Ty):=[(.par i,T)]
def a (n:Nat)(f:SF)(j:SH)(k:List Ty)(l:List Ty)(e:Bool:=false):Fam:=⟨0,n,0,0,f,j,k,[QBM l],e⟩
def o (n i b m:Nat)(f:SF)(j:SH)(k:List Ty)(l:SF→SH→List Ty→List Out):Fam:=⟨n,i,b,m,f,j,k,l f j k,false⟩
def e1:Ty:=(.pair (L I) (.pair B (.pair I I)))
def e2:Ty:=(.pair B (.pair I I))
def e3:Ty:=(.pair I I)
def e4:Ty:=(.pair F (.pair (L I) (.pair B (.pair I I))))
def e5:Ty:=(.pair (L V) (.pair (L N) V))
def e6:Ty:=(.pair I (.pair (L V) (.pair (L N) V)))
def e7:Ty:=(.pair (L N) V)
def e8:Ty:=(.pair I (.pair I (.pair (L V) (.pair (L N) V))))
def e9:Ty:=(L I)
def e10:Ty:=(L B)
def e11:Ty:=(L V)
def e12:Ty:=(L N)
def e13:Ty:=(L D)
def e14:Ty:=(L F)
def e15:Ty:=(L (.pair S B))
def e16:Ty:=(.pair S B)
def e17:Ty:=(L K)
def e18:Ty:=(L (L I))
def e19:Ty:=(.pair e9 (.pair B e3))
def e20:Ty:=(.pair B e3)
def e21:Ty:=(.pair e11 (.pair e12 V))
def e22:Ty:=(.pair I (.pair e11 (.pair e12 V)))
def e23:Ty:=(.pair F (.pair e9 (.pair B e3)))
def e24:Ty:=(.pair I (.pair I (.pair e11 (.pair e12 V))))
def e25:Ty:=(.pair e12 V)
def e26:Ty:=(.pair e9 e20)
def e27:Ty:=(.pair I (.pair e11 e25))
def e28:Ty:=(.pair F (.pair e9 e20))
def e29:Ty:=(.pair e11 e25)
def e30:Ty:=(.pair I (.pair I (.pair e11 e25)))
def e31:Ty:=(.pair F e26)
def e32:Ty:=(.pair I e29)
def e33:Ty:=(.pair I (.pair I e29))
def e34:Ty:=(.pair I e32)
def e115:Sy.Ex:=(.nn 0)
def e129:Sy.Ex:=(.il 12)
def e120:Sy.Ex:=(.bl true)
def e96:Sy.Ex:=(.bl false)
def e41:Sy.Ex:=(.o1 (.snd P) (v 2))
def e59:Sy.Ex:=(.o1 (.snd P) (v 0))
def e62:Sy.Ex:=(.o1 (.snd P) (v 1))
def e113:Sy.Ex:=(.o1 (.snd P) (v 3))
def e126:Sy.Ex:=(.o1 (.snd P) (v 4))
def e87:Sy.Ex:=(.o1 (.fst e31) (v 2))
def e106:Sy.Ex:=(.o1 (.fst e31) (v 0))
def e110:Sy.Ex:=(.o1 (.fst e31) (v 1))
def e145:Sy.Ex:=(.o1 (.fst e31) (v 3))
def e181:Sy.Ex:=(.o1 (.snd F) e41)
def e202:Sy.Ex:=(.o1 (.snd F) e59)
def e205:Sy.Ex:=(.o1 (.snd F) e62)
def e237:Sy.Ex:=(.o1 (.snd F) e113)
def e248:Sy.Ex:=(.o1 (.snd F) e126)
def e165:Sy.Ex:=(.o1 (.fst e26) e41)
def e180:Sy.Ex:=(.o1 (.fst e26) e59)
def e186:Sy.Ex:=(.o1 (.fst e26) e62)
def e224:Sy.Ex:=(.o1 (.fst e26) e113)
def e238:Sy.Ex:=(.o1 (.fst e26) e126)
def e216:Sy.Ex:=(.o1 (.fst e14) e87)
def e217:Sy.Ex:=(.o1 (.snd e13) e87)
def e225:Sy.Ex:=(.o1 (.fst e14) e106)
def e226:Sy.Ex:=(.o1 (.snd e13) e106)
def e229:Sy.Ex:=(.o1 (.fst e14) e110)
def e230:Sy.Ex:=(.o1 (.snd e13) e110)
def e154:Sy.Ex:=(.o1 (.fst e14) e145)
def e155:Sy.Ex:=(.o1 (.snd e13) e145)
def e270:Sy.Ex:=(.o1 (.snd e9) e181)
def e287:Sy.Ex:=(.o1 (.snd e9) e202)
def e292:Sy.Ex:=(.o1 (.snd e9) e205)
def e317:Sy.Ex:=(.o1 (.snd e9) e237)
def e325:Sy.Ex:=(.o1 (.snd e9) e248)
def e257:Sy.Ex:=(.o1 (.snd S) e165)
def e271:Sy.Ex:=(.o1 (.snd S) e180)
def e277:Sy.Ex:=(.o1 (.snd S) e186)
def e297:Sy.Ex:=(.o1 (.fst e20) e181)
def e307:Sy.Ex:=(.o1 (.fst e20) e202)
def e310:Sy.Ex:=(.o1 (.snd S) e224)
def e309:Sy.Ex:=(.o1 (.fst e20) e205)
def e318:Sy.Ex:=(.o1 (.snd S) e238)
def e251:Sy.Ex:=(.o1 (.fst e20) e237)
def e296:Sy.Ex:=(.o1 (.fst e34) e165)
def e306:Sy.Ex:=(.o1 (.fst e34) e180)
def e308:Sy.Ex:=(.o1 (.fst e34) e186)
def e250:Sy.Ex:=(.o1 (.fst e34) e224)
def e350:Sy.Ex:=(.o1 (.snd B) e270)
def e359:Sy.Ex:=(.o1 (.snd B) e287)
def e363:Sy.Ex:=(.o1 (.snd B) e292)
def e383:Sy.Ex:=(.o1 (.snd B) e317)
def e328:Sy.Ex:=(.o1 (.snd B) e325)
def e332:Sy.Ex:=(.o1 (.snd I) e257)
def e343:Sy.Ex:=(.o1 (.snd I) e271)
def e346:Sy.Ex:=(.o1 (.snd I) e277)
def e358:Sy.Ex:=(.o1 (.fst e3) e270)
def e370:Sy.Ex:=(.o1 (.fst e3) e287)
def e373:Sy.Ex:=(.o1 (.fst e3) e292)
def e374:Sy.Ex:=(.o1 (.snd I) e310)
def e380:Sy.Ex:=(.o1 (.snd I) e318)
def e327:Sy.Ex:=(.o1 (.fst e3) e317)
def e357:Sy.Ex:=(.o1 (.fst e32) e257)
def e369:Sy.Ex:=(.o1 (.fst e32) e271)
def e372:Sy.Ex:=(.o1 (.fst e32) e277)
def e326:Sy.Ex:=(.o1 (.fst e32) e310)
def e406:Sy.Ex:=(.o1 (.fst I) e350)
def e407:Sy.Ex:=(.o1 (.snd I) e350)
def e410:Sy.Ex:=(.o1 (.fst I) e359)
def e411:Sy.Ex:=(.o1 (.snd I) e359)
def e414:Sy.Ex:=(.o1 (.fst I) e363)
def e415:Sy.Ex:=(.o1 (.snd I) e363)
def e323:Sy.Ex:=(.o1 (.fst I) e383)
def e324:Sy.Ex:=(.o1 (.snd I) e383)
def e387:Sy.Ex:=(.o1 (.snd I) e332)
def e395:Sy.Ex:=(.o1 (.snd I) e343)
def e399:Sy.Ex:=(.o1 (.snd I) e346)
def e417:Sy.Ex:=(.o1 (.snd I) e374)
def e423:Sy.Ex:=(.o1 (.snd I) e380)
def e404:Sy.Ex:=(.o1 (.fst e29) e332)
def e409:Sy.Ex:=(.o1 (.fst e29) e343)
def e412:Sy.Ex:=(.o1 (.fst e29) e346)
def e384:Sy.Ex:=(.o1 (.fst e29) e374)
def e426:Sy.Ex:=(.o1 (.snd e11) e387)
def e432:Sy.Ex:=(.o1 (.snd e11) e395)
def e435:Sy.Ex:=(.o1 (.snd e11) e399)
def e438:Sy.Ex:=(.o1 (.fst e25) e387)
def e441:Sy.Ex:=(.o1 (.fst e25) e395)
def e442:Sy.Ex:=(.o1 (.fst e25) e399)
def e444:Sy.Ex:=(.o1 (.snd e11) e417)
def e447:Sy.Ex:=(.o1 (.snd e11) e423)
def e424:Sy.Ex:=(.o1 (.fst e25) e417)
def e456:Sy.Ex:=(.o1 (.fst V) e426)
def e460:Sy.Ex:=(.o1 (.fst V) e432)
def e461:Sy.Ex:=(.o1 (.fst V) e435)
def e449:Sy.Ex:=(.o1 (.fst V) e444)
def e450:Sy.Ex:=(.o1 (.snd e12) e426)
def e453:Sy.Ex:=(.o1 (.snd e12) e432)
def e457:Sy.Ex:=(.o1 (.snd e12) e435)
def e462:Sy.Ex:=(.o1 (.snd e12) e444)
def e448:Sy.Ex:=(.o1 (.snd e12) e447)
def e465:Sy.Ex:=(.o1 (.fst B) e450)
def e466:Sy.Ex:=(.o1 (.snd I) e450)
def e467:Sy.Ex:=(.o1 (.fst B) e453)
def e468:Sy.Ex:=(.o1 (.snd I) e453)
def e469:Sy.Ex:=(.o1 (.fst B) e457)
def e470:Sy.Ex:=(.o1 (.snd I) e457)
def e463:Sy.Ex:=(.o1 (.fst B) e462)
def e464:Sy.Ex:=(.o1 (.snd I) e462)
def e125:List Ty:=[e10,e10,e10,e13,e14,S,I,I,e11,e12,I,B,I]
def e130:List Ty:=[e10,e10,e10,e13,e14,S,I,I,e11,e12,I,B,e11]
def e136:List Ty:=[e9,e10,e10,I,I,P,F,N,e9,I]
def e137:List Ty:=[e10,e10,e10,e13,e14,S,I,I,e11,e12,I,B,N,e9,I,I]
def e144:List Ty:=[e10,e10,e10,e9,e9,e9,e13,e14,S,I,I,e11,e12,I,B,N,.nat,.nat,B,I,I]
def e146:List Ty:=[e10,e10,e10,e9,e9,e9,e13,e14,S,I,I,e11,e12,I,B,N,.nat,B,I,I]
def e147:List Ty:=[e10,e10,e10,e9,e9,e9,e13,e14,S,I,I,e11,e12,I,B,N,B,I,I]
def e150:List Ty:=[e10,e10,e10,e13,e14,S,I,I,e11,e12,I,B,N,e9,e9,I,I]
def e151:List Ty:=[e10,e10,e10,e13,e14,S,I,I,e11,e12,I,B,e11,I,I]
def e152:List Ty:=[e10,e10,e10,e13,e14,S,I,I,e11,e12,I,B,N]
def e153:List Ty:=[e10,e10,e10,e13,e14,S,I,I,e11,e12,I,B,V]
def e156:List Ty:=[e13,I]
def e471:SV:=(q 5 B 2)
def e472:SV:=(q 6 I 3)
def e473:SV:=(q 1 B 0)
def e474:SV:=(.ii .i64 e357)
def e475:SV:=(.ii .i64 e404)
def e476:SV:=(.ii .i64 e465)
def e477:SV:=(.ii .i64 e406)
def e478:SV:=(.ii .i64 e407)
def e479:SV:=(q 2 I 1)
def e480:SV:=(.agg (c P 0))
def e481:SV:=(.tl D e216)
def e482:SV:=(.tl F e217)
def e483:SV:=(.tl V e438)
def e484:SV:=(.tl N e456)
def e485:SV:=(.tl I e297)
def e486:SV:=(q 4 B 0)
def e487:SV:=(q 5 B 1)
def e488:SV:=(q 6 B 2)
def e489:SV:=(q 9 I 4)
def e490:SV:=(q 1 I 0)
def e491:SV:=(q 10 I 5)
def e492:SV:=(q 3 B 2)
def e493:SV:=(q 4 B 1)
def e494:SV:=(q 3 B 0)
def e495:SV:=(f 123 [2,6,7])
def e496:SV:=(.ss e296)
def e497:SV:=(.bb e466)
def e498:SV:=(.bb e358)
def e499:SV:=(.sl 4 e115 (v 16))
def e500:SV:=(.ii .i64 e369)
def e501:SV:=(.ii .i64 e409)
def e502:SV:=(.ii .i64 e467)
def e503:SV:=(.ii .i64 e410)
def e504:SV:=(.ii .i64 e411)
def e505:SV:=(q 2 B 1)
def e506:SV:=(q 0 I 0)
def e507:SV:=(.ii .i64 e372)
def e508:SV:=(.ii .i64 e412)
def e509:SV:=(.ii .i64 e469)
def e510:SV:=(.ii .i64 e414)
def e511:SV:=(.ii .i64 e415)
def e512:SV:=(q 4 B 2)
def e513:SV:=(.sl 3 e115 (v 16))
def e514:SV:=(.sl 4 e115 (v 17))
def e515:SV:=(.agg (c F 1))
def e516:SV:=(.tl D e225)
def e517:SV:=(.tl F e226)
def e518:SV:=(.tl V e441)
def e519:SV:=(.tl N e460)
def e520:SV:=(.tl I e307)
def e521:SV:=(q 2 B 0)
def e522:SV:=(.sl 4 e115 (v 14))
def e523:SV:=(q 5 B 0)
def e524:SV:=(.tl D e229)
def e525:SV:=(.tl F e230)
def e526:SV:=(.tl V e442)
def e527:SV:=(.tl N e461)
def e528:SV:=(.tl I e309)
def e529:SV:=(.agg [(.sl 7 e115 (v 15)),(.sl 8 e115 (v 16))])
def e530:SV:=(.agg (c N 0))
def e531:SV:=(.agg [(.sl 2 e115 (v 4)),(.sl 3 e115 (v 5))])
def e532:SV:=(q 0 B 0)
def e533:SV:=(q 3 B 1)
def e534:SV:=(.ss e306)
def e535:SV:=(.bb e468)
def e536:SV:=(.bb e370)
def e537:SV:=(.sl 4 e115 (v 15))
def e538:SV:=(.agg [(q 3 B 2),(q 4 B 3)])
def e539:SV:=(q 8 B 2)
def e540:SV:=(.ss e308)
def e541:SV:=(.bb e470)
def e542:SV:=(.bb e373)
def e543:SV:=(q 9 I 3)
def e544:SV:=(q 6 B 1)
def e545:SV:=(q 7 B 2)
def e546:SV:=(.agg (c N 13))
def e547:SV:=(.sl 0 e115 (v 4))
def e548:SV:=(.tup [])
def e549:SV:=(f 103 [0,4])
def e550:SV:=(q 8 I 4)
def e551:SV:=(.tup [(i 14),(i 15)])
def e552:SV:=(.agg [(q 3 B 2),(.sl 4 e115 (v 14))])
def e553:SV:=(.agg (c N 2))
def e554:SV:=(.sl 8 e115 (v 15))
def e555:SV:=(.sl 7 e115 (v 15))
def e556:SV:=(.sl 8 e115 (v 16))
def e557:SV:=(.sl 3 e115 (v 14))
def e558:SV:=(q 5 I 2)
def e559:SV:=(q 4 I 1)
def e560:SV:=(.sl 0 e115 (v 1))
def e561:SV:=(.sl 2 e115 (v 4))
def e562:SV:=(.sl 3 e115 (v 5))
def e563:SV:=(.ii .i64 (.o1 (.fst e32) e310))
def e564:SV:=(.ii .i64 (.o1 (.fst e29) e374))
def e565:SV:=(.agg [e492,(q 4 B 3)])
def e566:SV:=(.agg [e555,e556])
def e567:SV:=(.agg [e561,e562])
def e568:List SV:=[(t D 3),(t F 4),(s 5),(i 6),(i 7),(t V 8),(t N 9),(i 10),(b 11),e486,e487,e488]
def e569:List SV:=[(t D 6),(t F 7),(s 8),(i 9),(i 10),(t V 11),(t N 12),(i 13),(b 14),e471,e472]
def e570:List SV:=[(t D 4),(t F 5),(s 6),(i 7),(i 8),(t V 9),(t N 10),(i 11),(b 12),e471,e472]
def e571:List SV:=[e481,e482,e496,e474,e475,e483,e484,e476,e497,e485,e498,e477,e478]
def e572:List SV:=[(t D 3),(t F 4),(s 5),(i 6),(i 7),(t V 8),(t N 9),(i 10),(b 11),e473,e505,e492]
def e573:List SV:=[(t D 4),(t F 5),(s 6),(i 7),(i 8),(t V 9),(t N 10),(i 11),(b 12),e473,e479]
def e574:List SV:=[(t D 4),(t F 5),(s 6),(i 7),(i 8),(t V 9),(t N 10),(i 11),(b 12),e539,e543]
def e575:List SV:=[(t D 3),(t F 4),(s 5),(i 6),(i 7),(t V 8),(t N 9),(i 10),(b 11),e523,e544,e545]
def e576:List SV:=[e516,e517,e534,e500,e501,e518,e519,e502,e535,e520,e536,e503,e504]
def e577:List SV:=[(t D 3),(t F 4),(s 5),(i 6),(i 7),(t V 8),(t N 9),(i 10),(b 11),e521,e533,e512]
def e578:List SV:=[e524,e525,e540,e507,e508,e526,e527,e509,e541,e528,e542,e510,e511]
def e579:List SV:=[(t D 5),(t F 6),(s 7),(i 8),(i 9),(t V 10),(t N 11),(i 12),(b 13),e473,e479]
def e580:List SV:=[(t D 2),(t F 3),(s 4),(i 5),(i 6),(t V 7),(t N 8),(i 9),(b 10),e473,e479]
def e581:List SV:=[(t D 4),(t F 5),(s 6),(i 7),(i 8),(t V 9),(t N 10),(i 11),(b 12),e473,e505,e492]
def e582:List SV:=[(t D 5),(t F 6),(s 7),(i 8),(i 9),(t V 10),(t N 11),(i 12),(b 13),e471,e472]
def e583:List SV:=[(.tl D (.o1 (.fst e14) e145)),(.tl F (.o1 (.snd e13) e145)),(.ss (.o1 (.fst e34) e224)),e563,e564,(.tl V (.o1 (.fst e25) e417)),(.tl N (.o1 (.fst V) e444)),(.ii .i64 (.o1 (.fst B) e462)),(.bb (.o1 (.snd I) e462)),(.tl I (.o1 (.fst e20) e237)),(.bb (.o1 (.fst e3) e317)),(.ii .i64 (.o1 (.fst I) e383)),(.ii .i64 (.o1 (.snd I) e383))]
def e584:List SV:=[e493,e471,(i 3),(i 4)]
def e585:List SV:=[(t D 2),(t F 3),(s 4),(i 5),(i 6),(t V 7),(t N 8),(i 9),(b 10),e523,(q 6 I 1)]
def e586:List SV:=[(t D 6),(t F 7),(s 8),(i 9),(i 10),(t V 11),(t N 12),(i 13),(b 14),e473,e479]
def e587:List SV:=[(t D 3),(t F 4),(s 5),(i 6),(i 7),(t V 8),(t N 9),(i 10),(b 11),e494,e559]
def e588:List SV:=[(t D 4),(t F 5),(s 6),(i 7),(i 8),(t V 9),(t N 10),(i 11),(b 12),(q 9 B 0),(q 10 I 1)]
def e589:List SV:=[(t D 4),(t F 5),(s 6),(i 7),(i 8),(t V 9),(t N 10),(i 11),(b 12),e486,e487,e488]
def e590:List SV:=[(t D 4),(t F 5),(s 6),(i 7),(i 8),(t V 9),(t N 10),(i 11),(b 12),e512,(q 5 I 3)]
def e591:List SV:=(c P 0)
def e592:List SV:=[e494,e493]
def e593:List SV:=[(t D 4),(t F 5),(s 6),(i 7),(i 8),(t V 9),(t N 10),(i 11),(b 12),e521,e533,e512]
def e594:List SV:=[(t D 2),(t F 3),(s 4),(i 5),(i 6),(t V 7),(t N 8),(i 9),(b 10),e521,(q 3 I 1)]
def e595:List SV:=[e494,e499]
def e596:List SV:=[e513,e514]
def e597:List SV:=[e492,(q 4 B 3)]
def e598:List SV:=[e512,(q 5 B 3)]
def e599:List SV:=[e521,e533,(i 3),(i 4)]
def e600:List SV:=(c F 1)
def e601:SV:=(.agg e591)
def e602:SV:=(.agg e600)
def e603:SB:=r B 0
def e604:SB:=r B 2
def e605:SB:=r B 1
def e606:SB:=.ro 1 I (v 4)
def e607:SB:=g 12 C e568
def e608:SB:=g 4 QnW e584
def e609:SB:=g 11 U e569
def e610:SB:=r I 0
def e611:SB:=.ro 1 I (v 5)
def e612:SB:=g 13 W e571
def e613:SB:=g 11 U e570
def e614:SB:=r I 3
def e615:SB:=r I 1
def e616:SF:=[(8,(i 13))]
def e617:SF:=[(2,(b 0))]
def e618:SB:=w 10 N 15
def e619:SB:=y (p 1)
def e620:SF:=[(0,(p 0)),(2,e490),(3,(t I 3)),(5,(p 2)),(9,(t I 4)),(10,(t I 5))]
def e621:SF:=[(0,(p 0)),(2,e490),(3,e479),(5,(p 3)),(9,(t I 4)),(10,(t I 5))]
def e622:SB:=u e13 (t D 0)
def e623:SF:=[(0,e601),(1,(i 1))]
def e624:SF:=[(0,(p 0)),(3,(b 16)),(5,(p 7)),(6,(p 8)),(9,e489),(10,e491)]
def e625:SF:=[(0,(p 0)),(3,(b 17)),(5,(p 7)),(6,(p 8)),(9,e489),(10,e491)]
def e626:SF:=[(0,(p 0)),(3,(b 18)),(5,(p 7)),(6,(p 8)),(9,e489),(10,e491)]
def e627:SB:=g 12 C e572
def e628:SF:=[(0,(t D 0))]
def e629:SF:=[(0,(t D 0)),(1,(i 1))]
def e630:SB:=u B (b 13)
def e631:SB:=g 13 W e576
def e632:SF:=[(0,(p 0)),(3,(b 16)),(5,(p 7)),(6,(p 8)),(9,e489),(10,e491),(67,e489),(68,(i 17)),(69,(i 18))]
def e633:SF:=[(0,(p 0)),(3,(b 17)),(5,(p 7)),(6,(p 8)),(9,e489),(10,e491),(67,e489),(68,(i 18)),(69,(i 19))]
def e634:SF:=[(0,(p 0)),(3,(b 18)),(5,(p 7)),(6,(p 8)),(9,e489),(10,e491),(67,e489),(68,(i 19)),(69,(i 20))]
def e635:SB:=g 11 U e573
def e636:SB:=g 11 U e574
def e637:SB:=w 10 N 3
def e638:SF:=[(1,(p 0)),(3,e490),(4,(i 2))]
def e639:SB:=g 12 C e575
def e640:SB:=g 13 W e578
def e641:SB:=w 10 N 12
def e642:SF:=[(0,e601),(1,e602),(2,e553)]
def e643:SF:=[(0,(p 0)),(2,e490),(3,(t I 3)),(5,(p 2)),(9,(t I 4)),(10,(t I 5)),(14,(i 6))]
def e644:SF:=[(0,(b 12))]
def e645:SB:=g 12 C e577
def e646:SF:=[(3,e506),(4,(p 1)),(5,(p 2)),(8,(p 3)),(29,(t R 4)),(30,(i 5)),(31,(i 6))]
def e647:SF:=[(3,e547),(4,(p 1)),(5,(p 2)),(8,(p 3)),(29,(t R 5)),(30,(i 6)),(31,(i 7))]
def e648:SF:=[(0,(p 0)),(2,e490),(3,e479),(5,(p 3)),(9,(t I 4)),(10,(t I 5)),(14,(i 6))]
def e649:SB:=g 2 T e592
def e650:SB:=w 2 P 0
def e651:SB:=w 7 F 2
def e652:SF:=[(0,e548)]
def e653:SF:=[(0,(t D 0)),(3,(i 1))]
def e654:SF:=[(0,(t D 0)),(3,(i 1)),(4,(i 2))]
def e655:SF:=[(0,(t I 0)),(1,(i 1))]
def e656:SF:=[(3,(.map 0)),(4,(.map 1)),(12,(t D 2)),(13,(i 3)),(14,(i 4))]
def e657:SF:=[(0,(p 0)),(1,(i 12))]
def e658:SF:=[(4,(i 0))]
def e659:SF:=[(0,e530)]
def e660:SF:=[(0,(p 0)),(6,(p 7)),(72,(t I 13)),(73,(i 14)),(74,(i 15))]
def e661:SB:=w 2 P 1
def e662:SB:=g 11 U e579
def e663:SB:=y (p 3)
def e664:SF:=[(4,(i 12))]
def e665:SB:=r B 3
def e666:SF:=[(2,(t I 3)),(3,(p 0)),(4,(p 1)),(7,(q 2 I 0)),(8,(i 4))]
def e667:SB:=w 10 N 2
def e668:SB:=g 2 T e595
def e669:SB:=g 2 T e596
def e670:SF:=[(0,(t D 2)),(3,(q 0 S 0)),(4,(q 1 S 1)),(5,(i 3))]
def e671:SF:=[(0,(s 0)),(1,(.ii .u8 (v 1))),(2,(.ii .u8 (v 2)))]
def e672:SB:=g 11 U e580
def e673:SF:=[(1,(p 0)),(14,(t D 1)),(15,(i 2)),(16,(i 3))]
def e674:SF:=[(5,e506),(24,(t R 1)),(25,(i 2)),(26,(i 3))]
def e675:SB:=y e495
def e676:SF:=[(0,(s 0))]
def e677:SB:=w 7 F 1
def e678:SF:=[(0,(b 1))]
def e679:SB:=x 1 B 0
def e680:SB:=x 2 B 0
def e681:SB:=w 10 N 7
def e682:SB:=g 12 C e581
def e683:SF:=[(8,(i 1))]
def e684:SF:=[(8,(i 3))]
def e685:SF:=[(7,(i 14)),(8,(i 15))]
def e686:SB:=g 11 U e582
def e687:SF:=[(0,(t D 1)),(3,e532),(4,(i 2)),(5,(i 3))]
def e688:SB:=g 2 T [(q 7 B 4),e554]
def e689:SF:=[(1,(p 0)),(4,(i 1))]
def e690:SF:=[(0,(i 12))]
def e691:SF:=[(2,(p 3)),(3,(p 6))]
def e692:SB:=g 4 QnW [e494,e493,(i 5),(i 6)]
def e693:SF:=[(0,(.agg (c K 0)))]
def e694:SB:=g 4 QnW [e473,e505,(i 3),(i 4)]
def e695:SF:=[(4,(b 0))]
def e696:SB:=w 2 P 5
def e697:SB:=w 7 F 6
def e698:SB:=g 11 U e585
def e699:SB:=g 11 U e586
def e700:SF:=[(0,(p 0)),(3,(p 7)),(7,(t I 13))]
def e701:SF:=[(0,(t D 1)),(3,(p 0)),(4,(b 2))]
def e702:SF:=[(0,(t I 0)),(1,(i 1)),(5,(i 2))]
def e703:SB:=g 4 QnW e599
def e704:SF:=[(0,(t D 1)),(3,e532),(4,(i 2))]
def e705:SH:=[e613,d,d,e603,e605,e604,e614]
def e706:SH:=[e607,d,d,d,e603,e605,e604,e641]
def e707:SH:=[e635,e603,e615,e604,e665]
def e708:SH:=[e619,e639,d,d,d,e603,e605,e604]
def e709:SH:=[e627,e603,e605,e604]
def e710:SH:=[e608,d,d,e610,e605,e604,e696,e697,e681]
def e711:SH:=[e619,e645,e603,e605,e604]
def e712:SH:=[e607,d,d,d,e603,e605,e604]
def e713:SH:=[e609,d,d,e603,e605,e604,e614,e618,e649,e606,e611]
def e714:SH:=[e609,d,d,e603,e605,e604,e614,e618,e668,e606,e611]
def e715:SH:=[e609,d,d,e603,e605,e604,e614,e618,e669,e606,e611]
def e716:SH:=[e603,e605,e663,g 11 U e590,e604,e614,e630,e675]
def e717:SH:=[e603,e605,e663,e636,d,d,e630,e675,e604,e614]
def e718:SH:=[e612,e610,e615]
def e719:SH:=[e609,d,d,e603,e605,e604,e614,r B 4,r B 5]
def e720:SH:=[e619,g 11 U e588,d,d,w 10 N 13,x 11 I 2,d,x 12 I 3,d,e603,e615,r I 2,e614]
def e721:SH:=[e612,e610,e615,e637]
def e722:SH:=[e672,e603,e615]
def e723:SH:=[e680,d,e603]
def e724:SH:=[e679,e603]
def e725:SH:=[e610,e661,e651,e637]
def e726:SH:=[e640,e610,e667]
def e727:SH:=[e699,e603,e615,g 2 T e598,e604,e665,e688,r B 4,r B 5]
def e728:SH:=[e686,d,d,e603,e605,e604,e614,g 2 T [e494,e522],e606]
def e729:SH:=[e686,d,d,e603,e605,e604,e614,g 2 T [e557,e537],e606]
def e730:SH:=[e682,e603,e605,e604,e614]
def e731:SH:=[e610]
def e732:SH:=[e661,e651,e610]
def e733:SH:=[e686,d,d,e603,e605,e604,e614,e649,e606]
def e734:SH:=[w 10 N 1,e610]
def e735:SH:=[g 12 C e589,d,d,d,e603,e605,e604,e614]
def e736:SH:=[e603,e605,e604,e665]
def e737:SH:=[e650,e677]
def e738:SH:=[e631]
def e739:SH:=[g 11 U e587,d,d,e603,e615,r I 2]
def e740:SH:=[e619,e698,d,d,y e549,e603,e615]
def e741:SH:=[e662,e603,e615,e604,e665,r I 4]
def f2:Fam:=a 193 [(0,(s 0)),(1,(s 1))] [] [S,S] [S,S,B] true
def f3:Fam:=a 209 [(0,(s 0)),(1,(s 1))] [] [S,S] [S] true
def f8:Fam:=a 17 [(0,e601)] [] [P] [I]
def f12:Fam:=a 42 [(0,e601)] [] [P] [I]
def f13:Fam:=a 50 e628 [] [e13] [I]
def f15:Fam:=o 2 17 0 0 [(1,(p 0)),(19,(i 1)),(20,(i 2))] [e650] [P,I,I] fun X Y Z=>[⟨(.exit 0),[],[],[]⟩,⟨.ret,[(2,(i 0))],[],m [I]⟩]
def f18:Fam:=a 107 e628 [] [e13] [I]
def f19:Fam:=a 112 e628 [] [e13] [B]
def f21:Fam:=o 2 42 0 0 e689 [e650] [P,I] fun X Y Z=>[⟨(.exit 0),[],[],[]⟩,⟨.ret,[(2,(i 0))],[],m [I]⟩]
def f22:Fam:=a 113 e628 [] [e13] [B]
def f24:Fam:=a 51 e623 [] [P,I] [I,I]
def f27:Fam:=a 155 e628 [] [e13] [B]
def f28:Fam:=o 2 112 0 0 [(8,(t D 0)),(9,(i 1)),(10,(i 2))] [] [e13,I,I] fun X Y Z=>[⟨.ret,e617,[],k e120 B⟩,⟨(.exit 0),[],[],[]⟩]
def f29:Fam:=a 114 e628 [] [e13] [B]
def f30:Fam:=a 156 e628 [] [e13] [B]
def f32:Fam:=a 108 e623 [] [P,I] [I,I]
def f33:Fam:=o 2 113 0 0 [(55,(t D 0)),(56,(i 1)),(57,(i 2))] [] [e13,I,I] fun X Y Z=>[⟨(.exit 0),[],[],[]⟩,⟨.ret,e617,[],k e96 B⟩]
def f35:Fam:=o 1 119 0 4 e657 e709 e125 fun X Y Z=>[⟨.ret,e690,e712,h Z [0,1,2,3,4,5,6,7,8,9,10,11]++m [I]⟩]
def f37:Fam:=o 2 155 0 0 e653 [] e156 fun X Y Z=>[⟨.ret,e617,[],k e120 B⟩,⟨(.exit 0),[],[],[]⟩]
def f38:Fam:=o 3 152 0 0 [(0,(t K 0)),(1,(.fn 164 []))] [] [e17] fun X Y Z=>[⟨.ret,[(0,(b 0))],[],m [B]⟩]
def f40:Fam:=o 2 50 0 0 e673 [e622] [e13,e13,I,I] fun X Y Z=>[⟨(.exit 0),[(1,(p 0))],Y,h Z [0]⟩,⟨.ret,[(2,(i 0))],[],k (.il 10) I⟩]
def f41:Fam:=a 157 e628 [] [e13] [B]
def f43:Fam:=o 2 114 0 0 e656 ([.map S B (v 0),.map S B (v 1)]) ([(L e16),(L e16),e13,I,I]) fun X Y Z=>[⟨.ret,e617,[],k e120 B⟩,⟨(.exit 0),[],[],[]⟩]
def f44:Fam:=o 2 156 0 0 [(0,(t D 0)),(5,(i 1))] [] e156 fun X Y Z=>[⟨(.exit 0),[],[],[]⟩,⟨.ret,e617,[],k e96 B⟩]
def f46:Fam:=a 160 e623 [] [P,I] [I]
def f47:Fam:=a 165 e676 [] [S] [B]
def f49:Fam:=a 170 e676 [] [S] [B]
def f51:Fam:=o 2 155 2 0 e654 [] [e13,I,I] fun X Y Z=>[⟨.ret,e617,[],k e120 B⟩,⟨(.exit 2),e653,[],h Z [0,1]⟩]
def f52:Fam:=o 3 185 0 0 [(0,(t K 0)),(1,(.fn 164 []))] [] [e17] fun X Y Z=>[⟨.ret,[(0,(i 0))],[],m [I]⟩]
def f53:Fam:=a 158 e628 [] [e13] [B]
def f54:Fam:=o 2 108 0 0 [(2,(p 0)),(7,(p 1)),(8,(p 2)),(9,e558),(10,(i 7))] ([w 2 P 3,w 7 F 4,e692,e603,e605,r I 2]) [e10,e10,e9,P,F,I,I,I] fun X Y Z=>[⟨(.exit 0),[(2,(p 0)),(7,(p 1)),(8,(p 2)),(9,e558)],Y,h Z [0,1]++m [e9]++h Z [3,4,5,6]⟩]
def f55:Fam:=o 3 152 0 0 [(0,(t K 0)),(1,(.fn 166 []))] [] [e17] fun X Y Z=>[⟨.ret,[(0,(b 0))],[],m [B]⟩]
def f56:Fam:=o 2 119 0 4 [(2,(p 7)),(5,(p 8)),(22,(t F 13)),(23,(i 14)),(24,(i 15))] ([e607,d,d,d,e603,e605,e604,y (p 0),w 7 F 12]) [e10,e10,e10,e13,e14,S,I,I,e11,e12,I,B,F,e14,I,I] fun X Y Z=>[⟨.ret,e664,(Y.take 7),h Z [0,1,2,3,4,5,6,7,8,9,10,11]++k (.il 8) I⟩,⟨(.exit 0),[(2,(p 7)),(5,(p 8))],Y,h Z [0,1,2,3,4,5,6,7,8,9,10,11,12]⟩]
def f58:Fam:=o 2 50 2 0 [(1,(p 0)),(14,(t D 1)),(15,(i 2)),(16,(i 3)),(21,(t K 4)),(22,(i 5)),(23,(i 6))] [e622] [e13,e13,I,I,e17,I,I] fun X Y Z=>[⟨(.exit 2),e673,Y,h Z [0,1,2,3]⟩,⟨.ret,[(2,(i 0))],[],k (.il 10) I⟩]
def f59:Fam:=o 2 157 0 0 e670 ([r S 0,r S 1]) ([(L S),(L S),e13,I]) fun X Y Z=>[⟨(.exit 0),[],[],[]⟩,⟨.ret,e617,[],k e120 B⟩]
def f61:Fam:=o 2 114 2 0 [(3,(.map 0)),(4,(.map 1)),(12,(t D 2)),(13,(i 3)),(14,(i 4)),(26,(t K 5)),(27,(i 6)),(28,(i 7))] ([.map S B (v 0),.map S B (v 1)]) ([(L e16),(L e16),e13,I,I,e17,I,I]) fun X Y Z=>[⟨.ret,e617,[],k e120 B⟩,⟨(.exit 2),e656,Y,h Z [0]++m [(L e16)]++h Z [2,3,4]⟩]
def f62:Fam:=a 186 e676 [] [S] [B]
def f64:Fam:=a 189 e676 [] [S] [B]
def f65:Fam:=o 2 165 0 0 [(0,(s 0)),(23,(i 1)),(24,(i 2))] [] [S,I,I] fun X Y Z=>[⟨.ret,e617,[],k e96 B⟩,⟨(.exit 0),[],[],[]⟩]
def f66:Fam:=a 194 e671 [] ([S,(.int .u8),(.int .u8)]) [B]
def f68:Fam:=o 2 185 0 0 [(0,(t K 0)),(1,(.fn 164 [])),(7,(i 1)),(8,(i 2))] [] [e17,I,I] fun X Y Z=>[⟨(.exit 0),[],[],[]⟩,⟨.ret,e658,[],m [I]⟩]
def f69:Fam:=a 118 e628 [] [e13] [B]
def f70:Fam:=a 159 e628 [] [e13] [B]
def f71:Fam:=o 2 156 2 0 [(0,(t D 0)),(5,(i 1)),(6,(i 2))] [] [e13,I,I] fun X Y Z=>[⟨.ret,e617,[],k e96 B⟩,⟨(.exit 2),[(0,(t D 0)),(5,(i 1))],[],h Z [0,1]⟩]
def f72:Fam:=o 2 160 0 0 [(1,(i 2)),(2,(p 0)),(5,(p 1)),(6,(i 3))] e737 [P,F,I,I] fun X Y Z=>[⟨.ret,e658,[],k (.il 8) I⟩,⟨(.exit 0),[(2,(p 0)),(5,(p 1))],Y,h Z [0,1]⟩]
def f73:Fam:=o 2 158 0 0 e653 [] e156 fun X Y Z=>[⟨(.exit 0),[],[],[]⟩,⟨.ret,e617,[],k e96 B⟩]
def f74:Fam:=o 3 185 0 0 [(0,(t K 0)),(1,(.fn 166 []))] [] [e17] fun X Y Z=>[⟨.ret,[(0,(i 0))],[],m [I]⟩]
def f76:Fam:=o 1 115 0 1 [(0,(t I 1)),(1,(f 116 [0]))] [e622] [e13,e9] fun X Y Z=>[⟨.ret,e678,Y,h Z [0]++m [B]⟩]
def f77:Fam:=a 187 [(0,(t S 0)),(1,(s 1))] [] ([(L S),S]) [B]
def f78:Fam:=o 2 186 0 0 [(0,(s 0)),(3,(i 1))] [] [S,I] fun X Y Z=>[⟨.ret,e617,[],k e96 B⟩,⟨(.exit 0),e676,[],h Z [0]⟩]
def f79:Fam:=o 2 189 0 0 [(0,(s 0)),(3,(i 1))] [] [S,I] fun X Y Z=>[⟨(.exit 0),e676,[],h Z [0]⟩,⟨.ret,e617,[],m [B]⟩]
def f81:Fam:=a 164 e693 [] [K] [B]
def f82:Fam:=o 1 161 0 4 [(0,(p 0)),(1,(.agg (c P 5))),(2,(.agg (c F 6))),(3,(i 7)),(4,(q 3 I 2))] ([e694,e603,e605,r I 2]) [e10,e10,e9,I,I,P,F,I] fun X Y Z=>[⟨.ret,e652,[e608,d,d,e610,e605,e604],h Z [2]++m [e10,e10,I,I]⟩]
def f83:Fam:=o 1 171 0 4 e657 e709 e125 fun X Y Z=>[⟨.ret,e644,Y,h Z [0,1,2,3,4,5,6,7,8,9,10,11]++m [B]⟩]
def f86:Fam:=o 2 157 2 0 [(0,(t D 2)),(3,(q 0 S 0)),(4,(q 1 S 1)),(5,(i 3)),(6,(i 4))] ([r S 0,r S 1]) ([(L S),(L S),e13,I,I]) fun X Y Z=>[⟨.ret,e617,[],k e120 B⟩,⟨(.exit 2),e670,Y,h Z [0]++m [(L S)]++h Z [2,3]⟩]
def f87:Fam:=o 2 118 0 0 e701 e724 [e10,e13,B] fun X Y Z=>[⟨(.exit 0),[(3,(p 0))],Y,m [e10]⟩]
def f88:Fam:=o 2 159 0 0 e704 [e603] [e10,e13,I] fun X Y Z=>[⟨(.exit 0),[(3,e532)],Y,m [e10]⟩]
def f89:Fam:=o 2 158 2 0 e654 [] [e13,I,I] fun X Y Z=>[⟨(.exit 2),e653,[],h Z [0,1]⟩,⟨.ret,e617,[],k e96 B⟩]
def f90:Fam:=o 2 185 0 0 [(0,(t K 0)),(1,(.fn 166 [])),(7,(i 1)),(8,(i 2))] [] [e17,I,I] fun X Y Z=>[⟨(.exit 0),[],[],[]⟩,⟨.ret,e658,[],m [I]⟩]
def f92:Fam:=o 1 167 0 1 [(0,(t I 1)),(1,(f 116 [0]))] [e622] [e13,e9] fun X Y Z=>[⟨.ret,[(0,(i 1))],Y,h Z [0]++m [I]⟩]
def f93:Fam:=o 2 187 0 0 [(0,(t S 0)),(1,(s 1)),(5,(i 2))] [] ([(L S),S,I]) fun X Y Z=>[⟨.ret,e695,[],k e120 B⟩,⟨(.exit 0),[],[],[]⟩]
def f94:Fam:=a 203 e671 [] ([S,(.int .u8),(.int .u8)]) [B]
def f96:Fam:=o 2 51 0 0 [(6,(p 0)),(7,(p 1)),(61,(i 13)),(62,(i 14))] ([w 7 F 3,g 12 C e593,e603,e605,e604]) [e10,e10,e10,F,e13,e14,S,I,I,e11,e12,I,B,I,I] fun X Y Z=>[⟨(.exit 0),[(6,(p 0)),(7,(p 1))],Y,h Z [0]++m [e10,e10]++h Z [3,4,5,6,7,8,9,10,11,12]⟩]
def f97:Fam:=a 190 e623 [] [P,I] [B]
def f99:Fam:=o 1 192 0 4 [(0,(p 0)),(1,(.agg (c P 5))),(2,(.agg (c F 6))),(3,(.agg (c N 7))),(4,(q 3 I 2))] ([e694,e603,e605,r I 2]) [e10,e10,e9,I,I,P,F,N] fun X Y Z=>[⟨.ret,[(0,(i 5))],[e608,d,d,e610,e605,e604],h Z [2,0]++m [e10]++h Z [3,4]++m [I]⟩]
def f101:Fam:=o 2 118 2 0 [(0,(t D 1)),(3,(p 0)),(4,(b 2)),(15,(i 3)),(16,(i 4))] e724 [e10,e13,B,I,I] fun X Y Z=>[⟨(.exit 2),e701,Y,m [e10]++h Z [1]++m [B]⟩]
def f102:Fam:=o 2 159 2 0 e687 [e603] [e10,e13,I,I] fun X Y Z=>[⟨(.exit 2),e704,Y,m [e10]++h Z [1,2]⟩]
def f103:Fam:=o 2 158 4 0 [(0,(t D 0)),(3,(i 1)),(4,(i 2)),(5,(t I 3)),(6,(i 4))] [] [e13,I,I,e9,I] fun X Y Z=>[⟨(.exit 4),e654,[],h Z [0,1,2]⟩,⟨.ret,e617,[],k e96 B⟩]
def f104:Fam:=a 166 e693 [] [K] [B]
def f106:Fam:=o 2 167 0 1 [(0,(t I 1)),(1,(f 116 [0])),(7,(i 2)),(8,(i 3))] [e622] [e13,e9,I,I] fun X Y Z=>[⟨(.exit 0),[],Y,h Z [0]⟩,⟨.ret,[(4,(i 1))],Y,h Z [0]++m [I]⟩]
def f107:Fam:=o 2 203 0 0 [(0,(s 0)),(7,(i 1))] [] [S,I] fun X Y Z=>[⟨(.exit 0),[],[],[]⟩,⟨.ret,[(6,(b 0))],[],k e96 B⟩]
def f108:Fam:=o 1 172 0 5 [(0,(t V 12)),(1,(f 173 [0]))] e711 e130 fun X Y Z=>[⟨.ret,e644,e708,h Z [0,1,2,3,4,5,6,7,8,9,10,11]++m [B]⟩]
def f110:Fam:=o 2 160 2 0 [(2,(p 0)),(5,(p 1)),(7,(i 2))] e737 [P,F,I] fun X Y Z=>[⟨.ret,e658,[],k (.il 10) I⟩,⟨(.exit 2),[(2,(p 0)),(5,(p 1))],Y,h Z [0,1]⟩]
def f111:Fam:=a 122 [(0,(t B 0)),(1,(b 1))] [] [e10,B] [B]
def f112:Fam:=o 2 159 8 0 [(3,e532),(10,(i 1))] [e603] [e10,I] fun X Y Z=>[⟨.ret,e617,[],k e96 B⟩,⟨(.exit 8),[],[],[]⟩]
def f115:Fam:=a 204 e659 [] [N] [B]
def f117:Fam:=o 1 152 0 2 [(0,(t K 1)),(1,(f 168 [0]))] e724 [e10,e17] fun X Y Z=>[⟨.ret,e678,e723,h Z [0]++m [B]⟩]
def f118:Fam:=o 2 159 4 0 [(0,(t D 1)),(3,e532),(4,(i 2)),(5,(i 3)),(6,(i 4))] [e603] [e10,e13,I,I,I] fun X Y Z=>[⟨(.exit 4),e687,Y,m [e10]++h Z [1,2,3]⟩]
def f119:Fam:=a 188 e629 [] e156 [B]
def f121:Fam:=o 1 116 0 1 [(0,(i 1)),(1,(p 0))] [e622] e156 fun X Y Z=>[⟨.ret,e678,Y,h Z [0]++m [B]⟩]
def f122:Fam:=a 215 [(0,(.ii .u8 (v 0)))] [] ([(.int .u8)]) [B]
def f123:Fam:=o 1 120 0 4 e657 e709 e125 fun X Y Z=>[⟨.ret,[(0,(.tup [(i 12),(i 13)]))],e712,m [e10,e10,e10]++h Z [3,4,5,6,7,8,9,10,11]++m [I,I]⟩]
def f126:Fam:=a 200 e659 [] [N] [e9]
def f128:Fam:=o 1 195 0 5 [(0,(t V 12)),(1,(f 173 [0]))] e711 e130 fun X Y Z=>[⟨.ret,e690,e708,h Z [0,1,2,3,4,5,6,7,8,9,10,11]++m [I]⟩]
def f130:Fam:=a 121 [(0,(t B 0)),(1,(b 1))] [] [e10,B] [I]
def f133:Fam:=o 1 185 0 2 [(0,(t K 1)),(1,(f 168 [0]))] e724 [e10,e17] fun X Y Z=>[⟨.ret,[(0,(i 1))],e723,h Z [0]++m [I]⟩]
def f134:Fam:=o 2 159 6 0 [(0,(t D 1)),(3,e532),(4,(i 2)),(5,(i 3)),(6,(i 4)),(7,(b 5)),(8,(t I 6)),(9,(i 7))] [e603] [e10,e13,I,I,I,B,e9,I] fun X Y Z=>[⟨(.exit 6),[(0,(t D 1)),(3,e532),(4,(i 2)),(5,(i 3)),(6,(i 4)),(7,(b 5))],Y,h Z [0,1,2,3,4]++m [B]⟩]
def f135:Fam:=a 117 e629 [] e156 [B]
def f136:Fam:=o 2 160 4 0 [(2,(p 0)),(5,(p 1)),(8,(i 2))] e737 [P,F,I] fun X Y Z=>[⟨(.exit 4),[],[],[]⟩,⟨.ret,e658,[],k (.il 11) I⟩]
def f138:Fam:=o 2 192 0 4 [(0,(p 0)),(4,(q 3 I 0)),(6,(p 6)),(7,(p 7)),(8,(p 8)),(11,(t I 8)),(12,(i 9))] e710 e136 fun X Y Z=>[⟨(.exit 0),[(0,(p 0)),(6,(p 6)),(7,(p 7)),(8,(p 8))],Y,h Z [0,1,2,3,4,5,6,7]⟩,⟨.ret,[(10,(i 5))],(Y.take 6),h Z [0,1,2,3,4]++k (.il 9) I⟩]
def f140:Fam:=o 1 175 0 4 [(0,(p 0)),(1,(.agg (c N 12)))] e709 e152 fun X Y Z=>[⟨.ret,e690,e712,h Z [0]++m [e10]++h Z [2,3,4,5,6,7,8,9,10,11]++m [I]⟩]
def f142:Fam:=o 2 200 0 0 e638 e734 [e9,N,I] fun X Y Z=>[⟨(.exit 0),[(1,(p 0)),(3,e490)],Y,m [e9]++h Z [1]⟩]
def f143:Fam:=o 2 195 0 5 [(0,(t V 12)),(1,(f 173 [0])),(7,(i 13)),(8,(i 14))] e708 e151 fun X Y Z=>[⟨(.exit 0),[],Y,h Z [0,1,2,3,4,5,6,7,8,9,10,11]⟩,⟨.ret,e664,Y,h Z [0,1,2,3,4,5,6,7,8,9,10,11]++m [I]⟩]
def f145:Fam:=o 2 121 0 0 [(0,(t B 0)),(1,(b 1)),(7,(i 2)),(8,(i 3))] [] [e10,B,I,I] fun X Y Z=>[⟨.ret,e658,[],m [I]⟩,⟨(.exit 0),[],[],[]⟩]
def f146:Fam:=o 2 185 0 2 [(0,(t K 1)),(1,(f 168 [0])),(7,(i 2)),(8,(i 3))] e723 [e10,e17,I,I] fun X Y Z=>[⟨(.exit 0),[],Y,h Z [0]⟩,⟨.ret,[(4,(i 1))],Y,h Z [0]++m [I]⟩]
def f149:Fam:=a 55 e659 [] [N] [e9]
def f150:Fam:=a 191 e629 [] e156 [B]
def f152:Fam:=a 205 e655 [] [e9,I] [B]
def f153:Fam:=a 196 e659 [] [N] [B]
def f155:Fam:=o 1 173 0 5 [(0,(.agg (c V 12))),(1,(p 0))] e711 e153 fun X Y Z=>[⟨.ret,e644,Y,h Z [0,1,2,3,4,5,6,7,8,9,10,11]++m [B]⟩]
def f157:Fam:=o 1 168 0 2 [(0,(.agg (c K 1))),(1,(p 0))] e724 [e10,K] fun X Y Z=>[⟨.ret,e678,e723,h Z [0]++m [B]⟩]
def f158:Fam:=a 54 e659 [] [N] [e9]
def f161:Fam:=o 2 200 2 0 [(1,(p 0)),(3,e490),(5,(i 2))] e734 [e9,N,I] fun X Y Z=>[⟨(.exit 2),[(3,e506)],e731,m [e9]⟩]
def f162:Fam:=a 131 e659 [] [N] [e9]
def f166:Fam:=a 96 e659 [] [N] [e9]
def f167:Fam:=o 2 55 1 0 e638 e734 [e9,N,I] fun X Y Z=>[⟨(.exit 1),[(3,e506)],e731,m [e9]⟩]
def f168:Fam:=o 2 191 0 0 [(0,(t D 0)),(1,(i 1)),(5,(i 2))] [] [e13,I,I] fun X Y Z=>[⟨.ret,e695,[],k e96 B⟩,⟨(.exit 0),[],[],[]⟩]
def f169:Fam:=o 2 205 0 0 e702 [] [e9,I,I] fun X Y Z=>[⟨.ret,e695,[],k e120 B⟩,⟨(.exit 0),[],[],[]⟩]
def f170:Fam:=a 136 [(0,(i 0))] [] [I] [QG1,B]
def f172:Fam:=o 1 115 0 2 [(0,(t I 1)),(1,(f 169 [0]))] e724 [e10,e9] fun X Y Z=>[⟨.ret,e678,e723,h Z [0]++m [B]⟩]
def f173:Fam:=o 2 192 2 4 [(0,(p 0)),(6,(p 6)),(7,(p 7)),(8,(p 8)),(13,(t I 8)),(14,(i 9))] e710 e136 fun X Y Z=>[⟨.ret,[(10,(i 5))],(Y.take 6),h Z [0,1,2,3,4]++k (.il 2) I⟩,⟨(.exit 2),[(0,(p 0)),(6,(p 6)),(7,(p 7)),(8,(p 8)),(13,(t I 8))],Y,h Z [0,1,2,3,4,5,6,7,8]⟩]
def f175:Fam:=o 2 175 0 4 [(0,(p 0)),(3,(p 7)),(18,(t I 13)),(19,(i 14)),(20,(i 15))] e706 e137 fun X Y Z=>[⟨.ret,e664,(Y.take 7),h Z [0,1,2,3,4,5,6,7,8,9,10,11]++k (.il 9) I⟩,⟨(.exit 0),[(0,(p 0)),(3,(p 7))],Y,h Z [0,1,2,3,4,5,6,7,8,9,10,11,12]⟩]
def f177:Fam:=a 78 e659 [] [N] [e9]
def f179:Fam:=o 2 54 1 0 e638 e734 [e9,N,I] fun X Y Z=>[⟨(.exit 1),[(3,e506)],e731,m [e9]⟩]
def f182:Fam:=o 2 131 0 0 [(5,e506),(32,(q 1 I 1)),(33,(i 2)),(34,(i 3))] [e610,e615] [e9,e9,I,I] fun X Y Z=>[⟨(.exit 0),[(5,e506)],(Y.take 1),m [e9]⟩]
def f186:Fam:=o 2 96 0 0 e674 e731 ([e9,(L R),I,I]) fun X Y Z=>[⟨(.exit 0),[(5,e506)],Y,m [e9]⟩]
def f187:Fam:=o 3 178 0 0 [] [] [] fun X Y Z=>[⟨.ret,[(0,(.agg [(i 0),(b 1),(b 2),(b 3),(b 4),(b 5),(b 6),(b 7),(b 8),(i 9),(b 10),(b 11),(b 12),(b 13),(b 14),(b 15),(b 16),(b 17),(i 18),(b 19),(b 20),(b 21),(b 22),(b 23),(b 24),(b 25),(b 26),(i 27),(b 28),(b 29),(b 30),(b 31),(b 32),(b 33),(b 34),(b 35),(i 36),(b 37),(b 38),(b 39),(b 40),(b 41),(b 42),(b 43),(b 44),(i 45),(b 46),(b 47),(b 48),(b 49),(b 50),(b 51),(b 52),(b 53),(i 54),(b 55),(b 56),(b 57),(b 58),(b 59),(b 60),(b 61),(b 62),(i 63),(b 64),(b 65),(b 66),(b 67),(b 68),(b 69),(b 70),(b 71),(i 72),(b 73),(b 74),(b 75),(b 76),(b 77),(b 78),(b 79),(b 80),(i 81),(b 82),(b 83),(b 84),(b 85),(b 86),(b 87),(b 88),(b 89)]))],[],k (.il 1) I++k e96 B++k e96 B++k e96 B++k e96 B++k e96 B++k e96 B++k e96 B++k e96 B++k (.il 0) I++k e120 B++k e96 B++k e120 B++k e96 B++k e96 B++k e96 B++k e120 B++k e96 B++k (.il 2) I++k e120 B++k e96 B++k e120 B++k e96 B++k e96 B++k e96 B++k e120 B++k e96 B++k (.il (-1)) I++k e120 B++k e120 B++k e96 B++k e96 B++k e96 B++k e96 B++k e120 B++k e96 B++k (.il 1) I++k e120 B++k e96 B++k e96 B++k e96 B++k e96 B++k e96 B++k e120 B++k e96 B++k (.il 1) I++k e96 B++k e96 B++k e96 B++k e96 B++k e96 B++k e96 B++k e120 B++k e96 B++k (.il (-1)) I++k e120 B++k e96 B++k e96 B++k e120 B++k e96 B++k e96 B++k e120 B++k e96 B++k (.il (-1)) I++k e96 B++k e96 B++k e96 B++k e120 B++k e96 B++k e96 B++k e96 B++k e96 B++k (.il (-1)) I++k e96 B++k e120 B++k e120 B++k e120 B++k e120 B++k e96 B++k e96 B++k e96 B++k (.il 1) I++k e96 B++k e96 B++k e96 B++k e96 B++k e96 B++k e120 B++k e96 B++k e120 B⟩]
def f189:Fam:=o 1 167 0 2 [(0,(t I 1)),(1,(f 169 [0]))] e724 [e10,e9] fun X Y Z=>[⟨.ret,[(0,(i 1))],e723,h Z [0]++m [I]⟩]
def f190:Fam:=o 1 172 0 5 [(0,(t V 12)),(1,(f 174 [0]))] e711 e130 fun X Y Z=>[⟨.ret,e644,e708,h Z [0,1,2,3,4,5,6,7,8,9,10,11]++m [B]⟩]
def f191:Fam:=o 2 161 0 4 [(0,(p 0)),(4,(q 3 I 0)),(6,(p 6)),(7,(p 7)),(10,(p 8)),(11,(t I 8)),(12,(i 9))] e710 e136 fun X Y Z=>[⟨.ret,[],(Y.take 6),h Z [0]++m [e10]++h Z [2,3]++k (.il 3) I⟩,⟨(.exit 0),[(0,(p 0)),(4,(q 3 I 0)),(6,(p 6)),(7,(p 7)),(10,(p 8)),(11,(t I 8))],Y,h Z [0]++m [e10]++h Z [2,3,4,5,6,7,8]⟩]
def f193:Fam:=o 2 78 0 0 e674 e731 ([e9,(L R),I,I]) fun X Y Z=>[⟨(.exit 0),[(5,e506)],Y,m [e9]⟩]
def f197:Fam:=o 2 167 0 2 [(0,(t I 1)),(1,(f 169 [0])),(7,(i 2)),(8,(i 3))] e723 [e10,e9,I,I] fun X Y Z=>[⟨(.exit 0),[],Y,h Z [0]⟩,⟨.ret,[(4,(i 1))],Y,h Z [0]++m [I]⟩]
def f198:Fam:=o 2 108 2 0 [(7,(p 0)),(8,(p 1)),(11,(i 5))] [e651,e703,e603,e605] [e10,e10,F,I,I,I] fun X Y Z=>[⟨.ret,[(4,(i 0)),(5,(i 1))],[],m [I]++k (.il 3) I⟩,⟨(.exit 2),[(7,(p 0)),(8,(p 1))],Y,h Z [0,1,2,3,4]⟩]
def f199:Fam:=o 2 192 4 4 [(0,(p 0)),(6,(p 6)),(7,(p 7)),(8,(p 8)),(13,(t I 8)),(15,(i 9))] e710 e136 fun X Y Z=>[⟨.ret,[(10,(i 5))],(Y.take 6),h Z [0,1]++m [e10]++h Z [3,4]++k (.il 8) I⟩,⟨(.exit 4),[(6,(p 6)),(7,(p 7)),(8,(p 8))],Y,h Z [0,1]++m [e10]++h Z [3,4,5,6,7]⟩]
def f201:Fam:=o 2 175 2 4 [(0,(p 0)),(3,(p 7)),(7,(t I 13)),(48,(t I 14)),(49,(i 15)),(50,(i 16))] e706 e150 fun X Y Z=>[⟨.ret,e664,(Y.take 7),h Z [0,1,2,3,4,5,6,7,8,9,10,11]++k (.il 2) I⟩,⟨(.exit 2),e700,Y,h Z [0,1,2,3,4,5,6,7,8,9,10,11,12,13]⟩]
def f203:Fam:=o 1 195 0 5 [(0,(t V 12)),(1,(f 174 [0]))] e711 e130 fun X Y Z=>[⟨.ret,e690,e708,h Z [0,1,2,3,4,5,6,7,8,9,10,11]++m [I]⟩]
def f206:Fam:=o 1 169 0 2 [(0,(i 1)),(1,(p 0))] e724 [e10,I] fun X Y Z=>[⟨.ret,e678,Y,h Z [0]++m [B]⟩]
def f207:Fam:=o 2 161 2 4 [(0,(p 0)),(4,(q 3 I 0)),(6,(p 6)),(7,(p 7)),(10,(p 8)),(11,(t I 8)),(13,(i 9))] e710 e136 fun X Y Z=>[⟨.ret,[],(Y.take 6),h Z [0]++m [e10,e10,I,I]⟩,⟨(.exit 2),[],(Y.take 6),h Z [0]++m [e10,e10,I,I]⟩]
def f208:Fam:=o 2 120 0 4 [(0,(p 0)),(1,(i 13)),(6,(p 7)),(8,(t I 14)),(37,(t I 15)),(38,(i 16)),(39,(i 17))] e706 [e10,e10,e10,e13,e14,S,I,I,e11,e12,I,B,N,I,e9,e9,I,I] fun X Y Z=>[⟨.ret,[(4,(i 12)),(5,(i 13))],(Y.take 7),m [e10]++h Z [1,2,3,4,5,6,7,8,9,10,11,13]++k (.il 3) I⟩,⟨(.exit 0),[(0,(p 0)),(6,(p 7)),(8,(t I 13))],Y,m [e10]++h Z [1,2,3,4,5,6,7,8,9,10,11,12,14]⟩]
def f210:Fam:=o 2 195 0 5 [(0,(t V 12)),(1,(f 174 [0])),(7,(i 13)),(8,(i 14))] e708 e151 fun X Y Z=>[⟨(.exit 0),[],Y,h Z [0,1,2,3,4,5,6,7,8,9,10,11]⟩,⟨.ret,e664,Y,h Z [0,1,2,3,4,5,6,7,8,9,10,11]++m [I]⟩]
def f211:Fam:=o 2 108 4 0 [(7,(p 0)),(8,(p 1)),(12,(i 5))] [e651,e703,e603,e605] [e10,e10,F,I,I,I] fun X Y Z=>[⟨.ret,[(4,(i 0)),(5,(i 1))],[],k (.il (-1)) I++k (.il 3) I⟩,⟨(.exit 4),[],[],[]⟩]
def f212:Fam:=a 206 e642 [] [P,F,N] [B]
def f214:Fam:=o 2 175 4 4 [(0,(p 0)),(3,(p 7)),(7,(t I 13)),(103,(t I 14)),(104,(i 15)),(105,(i 16))] e706 e150 fun X Y Z=>[⟨.ret,e664,(Y.take 7),h Z [0]++m [e10]++h Z [2,3,4,5,6,7,8,9,10,11]++k (.il 8) I⟩,⟨(.exit 4),e700,Y,h Z [0]++m [e10]++h Z [2,3,4,5,6,7,8,9,10,11,12,13]⟩]
def f216:Fam:=o 1 174 0 5 [(0,(.agg (c V 12))),(1,(p 0))] e711 e153 fun X Y Z=>[⟨.ret,e644,e708,h Z [0,1,2,3,4,5,6,7,8,9,10,11]++m [B]⟩]
def f217:Fam:=a 207 e642 [] [P,F,N] [B]
def f218:Fam:=o 2 120 2 4 e660 e706 e137 fun X Y Z=>[⟨(.exit 2),[],(Y.take 7),m [e10,e10,e10]++h Z [3,4,5,6,7,8,9,10,11]⟩,⟨.ret,[(4,(i 12)),(5,(i 13))],(Y.take 7),m [e10,e10,e10]++h Z [3,4,5,6,7,8,9,10,11]++m [I,I]⟩]
def f219:Fam:=a 216 [(0,(.agg (c F 0))),(1,(i 1))] [] [F,I] [I]
def f220:Fam:=a 218 [(0,e601),(1,e602),(2,(i 2)),(3,(t I 3))] [] [P,F,I,e9] [B]
def f221:Fam:=a 217 [(0,e601),(1,e602),(2,(i 2)),(3,(i 3)),(4,(t I 4)),(5,(i 5))] [] [P,F,I,I,e9,I] [B]
def f222:Fam:=a 102 e629 [] e156 [B]
def f223:Fam:=o 1 197 0 4 [(0,(p 0)),(1,(.agg (c N 12)))] e709 e152 fun X Y Z=>[⟨.ret,e644,e712,h Z [0,1,2,3,4,5,6,7,8,9,10,11]++m [B]⟩]
def f224:Fam:=o 2 206 1 0 [(3,(p 0)),(4,(p 1)),(5,(p 2)),(8,(i 3)),(9,(i 4))] [e650,e677,e667] [P,F,N,I,I] fun X Y Z=>[⟨.ret,[(6,(b 0))],[],k e96 B⟩,⟨(.exit 1),[],[],[]⟩]
def f225:Fam:=o 2 207 0 0 [(3,(p 0)),(4,(p 1)),(5,(p 2)),(7,(t I 3)),(8,(i 4))] [e650,e677,e667] [P,F,N,e9,I] fun X Y Z=>[⟨.ret,[(6,(b 0))],[],k e96 B⟩,⟨(.exit 0),[],[],[]⟩]
def f226:Fam:=o 2 120 4 4 [(0,(p 0)),(6,(p 7)),(12,(i 13)),(13,(t I 14)),(72,(t I 15)),(73,(i 16)),(74,(i 17)),(90,(t I 18)),(91,(i 19)),(92,(i 20))] e706 [e10,e10,e10,e13,e14,S,I,I,e11,e12,I,B,N,I,e9,e9,I,I,e9,I,I] fun X Y Z=>[⟨(.exit 4),[(0,(p 0)),(6,(p 7)),(12,(i 13)),(13,(t I 14)),(72,(t I 15)),(73,(i 16)),(74,(i 17))],Y,h Z [0,1]++m [e10]++h Z [3,4,5,6,7,8,9,10,11,12,13,14,15,16,17]⟩]
def f227:Fam:=o 2 218 0 0 [(3,(t I 2)),(5,(p 0)),(9,(p 1)),(10,(i 3))] ([w 7 F 0,e677]) [F,F,e9,I] fun X Y Z=>[⟨.ret,[(8,(b 0))],[],k e96 B⟩,⟨(.exit 0),[],[],[]⟩]
def f228:Fam:=o 2 217 0 0 [(2,(i 2)),(3,(i 3)),(4,(t I 4)),(5,(i 5)),(6,(p 0)),(7,(p 1)),(13,(i 6))] e737 [P,F,I,I,e9,I,I] fun X Y Z=>[⟨.ret,[(12,(b 0))],[],k e96 B⟩,⟨(.exit 0),[],[],[]⟩]
def f229:Fam:=a 153 e629 [] e156 [e17]
def f231:Fam:=o 3 152 0 0 [(0,(t K 0)),(1,(.fn 154 []))] [] [e17] fun X Y Z=>[⟨.ret,[(0,(b 0))],[],m [B]⟩]
def f232:Fam:=o 1 210 0 5 [(0,(i 12)),(1,(p 0))] e711 e125 fun X Y Z=>[⟨.ret,e690,Y,h Z [0,1,2,3,4,5,6,7,8,9,10,11]++m [I]⟩]
def f233:Fam:=o 1 212 0 5 [(0,(p 0)),(1,(t I 13)),(2,(q 4 I 3)),(3,(i 14))] e730 [e10,e10,e10,e9,e13,e14,S,I,I,e11,e12,I,B,e9,I] fun X Y Z=>[⟨.ret,[(0,(b 13))],Y,h Z [0,1,2,3,4,5,6,7,8,9,10,11,12]++m [B]⟩]
def f234:Fam:=o 1 211 0 6 [(0,(i 12)),(1,(p 0)),(2,(p 5))] ([e619,e645,e603,e605,e604,y (f 210 [0])]) e125 fun X Y Z=>[⟨.ret,e644,[e619,g 12 C [(t D 3),(t F 4),(s 5),(i 6),(i 7),(t V 8),(t N 9),(i 10),(b 11),(q 6 B 0),(q 7 B 1),e539],d,d,d,y (f 210 [0]),e603,e605,e604],h Z [0,1,2,3,4,5,6,7,8,9,10,11]++m [B]⟩]
def f235:Fam:=o 1 214 0 4 [(0,(p 0)),(1,(i 12)),(2,(t I 13))] e709 [e10,e10,e10,e13,e14,S,I,I,e11,e12,I,B,I,e9] fun X Y Z=>[⟨.ret,e644,e712,h Z [0,1,2,3,4,5,6,7,8,9,10,11]++m [B]⟩]
def f236:Fam:=o 1 213 0 4 [(0,(p 0)),(1,(i 12)),(2,(i 13))] e709 [e10,e10,e10,e13,e14,S,I,I,e11,e12,I,B,I,I] fun X Y Z=>[⟨.ret,[(0,(.tup [(q 4 I 3),(b 13)]))],e730,h Z [0,1,2]++k .nl e9++h Z [3,4,5,6,7,8,9,10,11]++k e96 B⟩,⟨.ret,[(0,(.tup [(t I 12),(b 13)]))],Y,h Z [0,1,2,3,4,5,6,7,8,9,10,11]++m [e9]++k e120 B⟩]
def f237:Fam:=o 2 120 6 4 [(0,(p 0)),(6,(p 7)),(72,(t I 13)),(73,(i 14)),(74,(i 15)),(113,(t I 16)),(114,(i 17)),(115,(i 18))] e706 [e10,e10,e10,e13,e14,S,I,I,e11,e12,I,B,N,e9,I,I,e9,I,I] fun X Y Z=>[⟨(.exit 6),e660,Y,h Z [0,1]++m [e10]++h Z [3,4,5,6,7,8,9,10,11,12,13,14,15]⟩]
def f239:Fam:=o 3 185 0 0 [(0,(t K 0)),(1,(.fn 154 []))] [] [e17] fun X Y Z=>[⟨.ret,[(0,(i 0))],[],m [I]⟩]
def f240:Fam:=o 2 212 0 5 [(0,(p 0)),(2,(q 4 I 3)),(3,(i 13)),(16,(t I 14)),(17,(i 15)),(18,(i 16))] e730 [e10,e10,e10,e9,e13,e14,S,I,I,e11,e12,I,B,I,e9,I,I] fun X Y Z=>[⟨.ret,[(8,(b 13))],Y,h Z [0,1,2,3,4,5,6,7,8,9,10,11,12]++k e96 B⟩,⟨(.exit 0),[],Y,h Z [0,1,2,3,4,5,6,7,8,9,10,11,12]⟩]
def f241:Fam:=o 1 227 0 4 e657 e709 e125 fun X Y Z=>[⟨.ret,[(0,(.tup [(q 7 I 3),(b 13)]))],e735,h Z [0,1,2]++m [e9]++h Z [3,4,5,6,7,8,9,10,11]++m [B]⟩]
def f242:Fam:=o 1 212 0 4 [(0,(p 0)),(1,(t I 12)),(2,(t I 13)),(3,(i 14))] e709 [e10,e10,e10,e13,e14,S,I,I,e11,e12,I,B,e9,e9,I] fun X Y Z=>[⟨.ret,e644,Y,h Z [0,1,2,3,4,5,6,7,8,9,10,11]++m [B]⟩]
def f243:Fam:=o 2 197 1 4 [(2,(p 7)),(12,(i 12)),(259,(t R 13)),(260,(i 14)),(261,(i 15))] ([e607,d,d,d,e603,e605,e604,y (p 0)]) ([e10,e10,e10,e13,e14,S,I,I,e11,e12,I,B,I,(L R),I,I]) fun X Y Z=>[⟨.ret,[(4,(b 12))],(Y.take 7),h Z [0,1,2,3,4,5,6,7,8,9,10,11]++k e96 B⟩,⟨(.exit 1),[],(Y.take 7),h Z [0,1,2,3,4,5,6,7,8,9,10,11]⟩]
def f244:Fam:=o 2 185 0 0 [(0,(t K 0)),(1,(.fn 154 [])),(7,(i 1)),(8,(i 2))] [] [e17,I,I] fun X Y Z=>[⟨(.exit 0),[],[],[]⟩,⟨.ret,e658,[],m [I]⟩]
def f245:Fam:=o 2 227 0 4 [(7,(q 7 I 3)),(33,(t V 13)),(34,(i 14)),(35,(i 15))] e735 [e10,e10,e10,e9,e13,e14,S,I,I,e11,e12,I,B,e11,I,I] fun X Y Z=>[⟨(.exit 0),[(7,(q 7 I 3))],Y,h Z [0,1,2]++m [e9]++h Z [4,5,6,7,8,9,10,11,12]⟩]
def f246:Fam:=o 2 175 6 4 [(0,(p 0)),(3,(p 7)),(127,(t I 13)),(128,(i 14)),(129,(i 15))] e706 e137 fun X Y Z=>[⟨.ret,e664,(Y.take 7),h Z [0,1,2,3,4,5,6,7,8,9,10,11]++k (.il 11) I⟩,⟨(.exit 6),[],(Y.take 7),h Z [0,1,2,3,4,5,6,7,8,9,10,11]⟩]
def f247:Fam:=o 2 212 0 4 [(0,(p 0)),(2,(t I 12)),(3,(i 13)),(16,(t I 14)),(17,(i 15)),(18,(i 16))] e709 [e10,e10,e10,e13,e14,S,I,I,e11,e12,I,B,e9,I,e9,I,I] fun X Y Z=>[⟨.ret,[(8,(b 12))],Y,h Z [0,1,2,3,4,5,6,7,8,9,10,11]++k e96 B⟩,⟨(.exit 0),[],Y,h Z [0,1,2,3,4,5,6,7,8,9,10,11]⟩]
def f248:Fam:=a 154 e693 [] [K] [B]
def f254:Fam:=a 12 [] [] [] [B] true
def f255:Fam:=a 5 e623 [] [P,I] [B]
def f256:Fam:=a 13 [(0,e601)] [] [P] [B]
def f257:Fam:=a 18 e623 [] [P,I] [I,I]
def f258:Fam:=o 2 13 0 0 [(1,(p 0)),(3,(i 1))] [e650] [P,I] fun X Y Z=>[⟨.ret,e617,[],k e96 B⟩,⟨(.exit 0),[(1,(p 0))],Y,h Z [0]⟩]
def f259:Fam:=a 20 e623 [] [P,I] [I,I]
def f260:Fam:=o 1 40 0 0 e623 [] [P,I] fun X Y Z=>[⟨.ret,[(0,(p 0))],e722,m [e10,e9,e13,e14,S,I,I,e11,e12,I,B]⟩]
def f261:Fam:=a 21 [(0,e601)] [] [P] [I,I,I]
def f262:Fam:=o 2 13 2 0 e689 [e650] [P,I] fun X Y Z=>[⟨.ret,e617,[],k e96 B⟩,⟨(.exit 2),[(1,(p 0))],Y,h Z [0]⟩]
def f263:Fam:=a 43 [(0,e601),(1,(i 1)),(2,(b 2))] [] [P,I,B] [I,I]
def f264:Fam:=o 2 40 0 0 [(2,(p 0)),(5,(p 1)),(22,(t V 12)),(23,(i 13)),(24,(i 14))] ([w 2 P 2,y (p 2),g 11 U e587,e603,e615]) [e10,e9,P,e13,e14,S,I,I,e11,e12,I,B,e11,I,I] fun X Y Z=>[⟨(.exit 0),[(5,(p 0))],[e619,g 11 U e594,e603,e615],m [e10,e9]++h Z [3,4,5,6,7,8,9,10,11]⟩]
def f265:Fam:=a 22 [(0,e601)] [] [P] [I,I,I]
def f266:Fam:=a 37 [(0,e601),(1,(b 1))] [] [P,B] [I,I,I]
def f267:Fam:=o 2 13 4 0 [(1,(p 0)),(4,(i 2)),(5,(p 1)),(6,(i 3))] e737 [P,F,I,I] fun X Y Z=>[⟨.ret,e617,[],k e96 B⟩,⟨(.exit 4),e689,(Y.take 1),h Z [0,2]⟩]
def f268:Fam:=a 44 [(0,e601),(1,e602)] [] [P,F] [e9]
def f269:Fam:=o 1 103 0 5 [(0,(i 11)),(1,(p 0)),(2,(p 4))] ([e619,g 11 U e594,e603,e615,y e549]) [e10,e9,e13,e14,S,I,I,e11,e12,I,B,I] fun X Y Z=>[⟨.ret,e652,e740,h Z [0]++m [e9]++h Z [2,3,4,5,6,7,8,9,10]⟩]
def f270:Fam:=a 46 [(0,(.agg (c F 0)))] [] [F] [e9]
def f271:Fam:=o 2 22 0 0 [(1,(p 0)),(5,(i 1))] [e650] [P,I] fun X Y Z=>[⟨.ret,[(2,(i 0)),(3,(i 1)),(4,(i 2))],[],m [I,I,I]⟩,⟨(.exit 0),[],[],[]⟩]
def f272:Fam:=o 2 37 0 0 [(1,(b 1)),(2,(p 0)),(15,(i 2)),(16,(i 3))] [e650] [P,B,I,I] fun X Y Z=>[⟨(.exit 0),[],[],[]⟩,⟨.ret,[(4,(i 0)),(5,(i 1)),(6,(i 2))],[],m [I,I,I]⟩]
def f273:Fam:=o 2 44 0 0 [(2,(p 0)),(3,(p 1)),(5,(q 2 I 0)),(6,(i 3))] e732 [e9,P,F,I] fun X Y Z=>[⟨(.exit 0),[(2,(p 0)),(3,(p 1)),(5,(q 2 I 0))],Y,m [e9]++h Z [1,2]⟩]
def f274:Fam:=o 1 52 0 3 [(0,(p 0)),(1,(b 11))] e722 [e10,e9,e13,e14,S,I,I,e11,e12,I,B,B] fun X Y Z=>[⟨.ret,[(0,(.tup [(i 11),(i 12)]))],[g 11 U [(t D 2),(t F 3),(s 4),(i 5),(i 6),(t V 7),(t N 8),(i 9),(b 10),e494,e559],d,d,e603,e615],h Z [0,1,2,3,4,5,6,7,8,9,10]++m [I,I]⟩]
def f275:Fam:=a 45 [(0,e601),(1,e602),(2,(t I 2))] [] [P,F,e9] [e9]
def f276:Fam:=o 2 103 0 5 [(1,(p 0)),(2,(p 4)),(4,(p 7)),(26,(t I 12)),(27,(i 13)),(28,(i 14))] ([e619,e698,d,d,y e549,e603,e615,w 10 N 11]) [e10,e9,e13,e14,S,I,I,e11,e12,I,B,N,e9,I,I] fun X Y Z=>[⟨(.exit 0),[(2,(p 4)),(4,(p 7))],Y,h Z [0]++m [e9]++h Z [2,3,4,5,6,7,8,9,10,11]⟩]
def f277:Fam:=o 2 103 2 5 [(2,(p 4)),(58,(t I 11)),(59,(i 12)),(60,(i 13))] e740 [e10,e9,e13,e14,S,I,I,e11,e12,I,B,e9,I,I] fun X Y Z=>[⟨(.exit 2),[],Y,h Z [0]++m [e9]++h Z [2,3,4,5,6,7,8,9,10]⟩]
def f278:Fam:=o 2 46 0 0 e638 [e677,e610] [e9,F,I] fun X Y Z=>[⟨(.exit 0),[(3,e506)],e731,m [e9]⟩]
def f279:Fam:=a 110 [(0,e601),(1,e602),(2,(i 2))] [] [P,F,I] [B]
def f280:Fam:=o 1 109 0 1 [(0,(p 0)),(1,(i 1)),(2,.nils),(3,(t I 2))] e738 [W,I,e9] fun X Y Z=>[⟨.ret,e652,Y,m [W]⟩]
def f281:Fam:=o 1 111 0 1 [(0,(.agg (c P 1))),(1,(.agg (c F 2))),(2,(i 3)),(3,e506)] e731 [e9,P,F,I] fun X Y Z=>[⟨.ret,e652,Y,m [e9]⟩]
def f282:Fam:=o 1 80 0 3 [(0,(p 0))] e722 [e10,e9,e13,e14,S,I,I,e11,e12,I,B] fun X Y Z=>[⟨.ret,[(0,(.agg e597))],e707,h Z [0,1]++m [e10,e10]++h Z [2,3,4,5,6,7,8,9,10]⟩,⟨.ret,[(0,(.agg [e492,(.sl 4 e115 (v 13))]))],e707,h Z [0,1]++m [e10,e10]++h Z [2,3,4,5,6,7,8,9,10]++m [.nat]⟩]
def f283:Fam:=o 2 45 0 0 e666 e732 [e9,P,F,e9,I] fun X Y Z=>[⟨(.exit 0),[(7,e506)],e731,m [e9]⟩]
def f284:Fam:=a 163 e629 [] e156 [B]
def f285:Fam:=o 1 162 0 1 [(0,(p 0)),(1,(.agg (c N 1))),(2,.nils),(3,(t I 2))] e738 [W,N,e9] fun X Y Z=>[⟨.ret,[(0,(i 1))],Y,h Z [0]++m [I]⟩]
def f286:Fam:=o 2 111 0 1 e646 e725 ([e9,P,F,N,(L R),I,I]) fun X Y Z=>[⟨(.exit 0),[(3,e506),(4,(p 1)),(5,(p 2)),(8,(p 3))],Y,m [e9]++h Z [1,2,3]⟩]
def f287:Fam:=o 2 111 4 1 [(3,e506),(4,(p 1)),(5,(p 2)),(60,(t I 3)),(61,(i 4)),(62,(i 5))] [e610,e661,e651] [e9,P,F,e9,I,I] fun X Y Z=>[⟨(.exit 4),[],(Y.take 1),m [e9]⟩]
def f288:Fam:=o 2 80 0 3 [(0,(p 0)),(2,(p 3)),(3,(p 6)),(24,(i 15)),(25,(i 16))] ([e699,e603,e615,g 2 T e598,e604,e665,g 2 T [(q 7 B 4),(q 8 B 5)],r B 4,r B 5]) [e10,e9,e10,e10,e10,e10,e13,e14,S,I,I,e11,e12,I,B,I,I] fun X Y Z=>[⟨(.exit 0),e691,Y,h Z [0,1,2,3,4,5,6,7,8,9,10,11,12,13,14]⟩,⟨(.exit 0),e691,e727,h Z [0,1,2,3,4]++m [e10]++h Z [6,7,8,9,10,11,12,13,14]++m [.nat]⟩]
def f289:Fam:=o 2 163 0 0 [(5,(t K 0)),(6,(i 1))] [] [e17,I] fun X Y Z=>[⟨.ret,e695,[],k e96 B⟩,⟨(.exit 0),[],[],[]⟩]
def f290:Fam:=a 53 e642 [] [P,F,N] [e9]
def f291:Fam:=o 2 111 2 1 [(3,e506),(4,(p 1)),(5,(p 2)),(8,(p 3)),(29,(t R 4)),(30,(i 5)),(31,(i 6)),(36,(t I 7)),(37,(i 8)),(38,(i 9))] e725 ([e9,P,F,N,(L R),I,I,e9,I,I]) fun X Y Z=>[⟨(.exit 2),e646,Y,m [e9]++h Z [1,2,3,4,5,6]⟩]
def f292:Fam:=o 1 139 0 6 [(0,(p 0)),(1,(.agg e597)),(2,(q 5 I 4))] e741 [e10,e9,e10,e10,e9,e13,e14,S,I,I,e11,e12,I,B] fun X Y Z=>[⟨.ret,e652,Y,h Z [0,1,2]++m [e10]++h Z [4,5,6,7,8,9,10,11,12,13]⟩]
def f293:Fam:=a 142 e642 [] [P,F,N] [e9]
def f294:Fam:=o 1 125 0 0 [(0,e601),(1,e602),(2,(t I 2))] [] [P,F,e9] fun X Y Z=>[⟨.ret,[(0,e506)],e731,m [e9]⟩]
def f295:Fam:=a 126 [(0,e601),(1,e602),(2,(i 2)),(3,(t I 3)),(4,(b 4))] [] [P,F,I,e9,B] [e9]
def f296:Fam:=o 2 139 0 6 [(0,(p 0)),(4,(p 6)),(8,(q 5 I 4)),(9,(i 14)),(10,(i 15))] ([e662,e603,e615,e604,e665,r I 4,g 2 T e597]) [e10,e9,e10,e10,e9,e13,e14,S,I,I,e11,e12,I,B,I,I] fun X Y Z=>[⟨(.exit 0),[],(Y.take 6),h Z [0,1,2]++m [e10]++h Z [4,5,6,7,8,9,10,11,12,13]⟩]
def f297:Fam:=o 1 123 0 8 [(0,(i 14)),(1,(.agg [e532,(q 1 B 1)])),(2,(p 2)),(3,(p 6)),(4,(p 7))] e716 [e10,e10,e10,e9,e13,e14,S,I,I,e11,e12,I,B,B,I] fun X Y Z=>[⟨.ret,[(0,e551)],e717,h Z [0,1,2,3,4,5,6,7,8,9,10,11,12,13]++m [I,I]⟩]
def f298:Fam:=o 2 162 0 1 [(0,(p 0)),(2,e490),(3,(t I 3)),(5,(p 2)),(9,(t I 4)),(10,(t I 5)),(11,(i 6))] e726 [e9,W,N,e9,e9,e9,I] fun X Y Z=>[⟨.ret,e683,e738,h Z [1]++k (.il 11) I⟩,⟨(.exit 0),e620,Y,h Z [0,1,2,3,4,5]⟩]
def f299:Fam:=o 2 125 0 0 e666 e732 [e9,P,F,e9,I] fun X Y Z=>[⟨(.exit 0),[(7,e506)],e731,m [e9]⟩]
def f300:Fam:=o 2 126 0 0 [(2,(i 3)),(3,(t I 4)),(4,(b 5)),(5,(p 0)),(6,(p 1)),(11,(q 2 I 0)),(12,(i 6))] e732 [e9,P,F,I,e9,B,I] fun X Y Z=>[⟨(.exit 0),[(11,e506)],e731,m [e9]⟩]
def f301:Fam:=o 1 181 0 3 [(0,(p 0)),(1,(i 11))] e722 [e10,e9,e13,e14,S,I,I,e11,e12,I,B,I] fun X Y Z=>[⟨.ret,[(0,(b 11))],Y,h Z [0,1,2,3,4,5,6,7,8,9,10]++m [B]⟩]
def f302:Fam:=o 1 124 0 5 [(0,(p 0)),(1,e546),(2,(.agg e597)),(3,(b 14))] e707 [e10,e9,e10,e10,e13,e14,S,I,I,e11,e12,I,B,N,B] fun X Y Z=>[⟨.ret,[(0,(i 13))],e705,h Z [2,3,0,1,4,5,6,7,8,9,10,11,12]++m [I]⟩]
def f303:Fam:=o 2 162 2 1 [(0,(p 0)),(2,e490),(3,(t I 4)),(5,(p 2)),(9,(t I 5)),(10,(t I 6)),(12,(q 3 I 1)),(13,(i 7))] [e612,e610,e637,e615] [e9,e9,W,N,e9,e9,e9,I] fun X Y Z=>[⟨(.exit 2),e620,e726,h Z [0,2,3,4,5,6]⟩,⟨.ret,e683,e738,h Z [2]++k e129 I⟩]
def f304:Fam:=o 2 111 4 1 [(3,(.sl 0 e115 (v 3))),(4,(p 1)),(5,(p 2)),(60,(t I 4)),(61,(i 5)),(62,(i 6))] [e610,e661,e651] [e9,P,F,.nat,e9,I,I] fun X Y Z=>[⟨(.exit 4),[],(Y.take 1),m [e9]⟩]
def f305:Fam:=o 1 138 0 3 [(0,(p 0)),(1,(.agg (c N 11)))] e722 [e10,e9,e13,e14,S,I,I,e11,e12,I,B,N] fun X Y Z=>[⟨.ret,[(0,(.tup [e558,e472]))],[g 11 U [(t D 4),(t F 5),(s 6),(i 7),(i 8),(t V 9),(t N 10),(i 11),(b 12),e494,e559],d,d,e603,e615,r I 2,e614],h Z [0,1]++m [e9,e9]++h Z [2,3,4,5,6,7,8,9,10]⟩]
def f306:Fam:=a 84 e655 [] [e9,I] [B]
def f307:Fam:=o 1 111 0 1 [(0,(.agg (c P 1))),(1,(.agg (c F 2))),(2,(i 3)),(3,e547)] e731 [e9,P,F,I,.nat] fun X Y Z=>[⟨.ret,e652,Y,m [e9]⟩]
def f308:Fam:=o 1 180 0 3 [(0,(p 0)),(1,(t I 11))] e722 [e10,e9,e13,e14,S,I,I,e11,e12,I,B,e9] fun X Y Z=>[⟨.ret,[(0,e558)],e739,h Z [0,1]++m [e9]++h Z [2,3,4,5,6,7,8,9,10]⟩]
def f309:Fam:=o 1 179 0 9 [(0,(t I 14)),(1,(p 0)),(2,(p 4)),(3,(p 5)),(4,(p 7))] ([e619,g 11 U [(t D 4),(t F 5),(s 6),(i 7),(i 8),(t V 9),(t N 10),(i 11),(b 12),e521,(q 3 I 1)],e603,e615,w 10 N 13,x 6 I 2,r I 2,x 8 I 3,e614]) [e10,e9,e9,e9,e13,e14,S,I,I,e11,e12,I,B,N,e9] fun X Y Z=>[⟨.ret,e652,e720,h Z [0,1]++m [e9,e9]++h Z [4,5,6,7,8,9,10,11,12,13]⟩]
def f310:Fam:=o 2 162 4 1 e643 e726 [e9,W,N,e9,e9,e9,I] fun X Y Z=>[⟨.ret,e683,e738,h Z [1]++k e129 I⟩,⟨(.exit 4),e620,Y,h Z [0,1,2,3,4,5]⟩]
def f311:Fam:=o 2 80 0 3 [(0,(p 0)),(2,(p 3)),(3,(p 6)),(24,(i 16)),(25,(i 17))] e727 [e10,e9,e10,e10,e10,e10,e13,e14,S,I,I,e11,e12,I,B,.nat,I,I] fun X Y Z=>[⟨(.exit 0),e691,Y,h Z [0,1,2,3,4]++m [e10]++h Z [6,7,8,9,10,11,12,13,14,15]⟩]
def f312:Fam:=o 2 124 0 5 [(0,(p 0)),(3,(b 16)),(5,(p 7)),(6,(p 8)),(9,e489),(10,e491),(30,e489),(31,(i 17)),(32,(i 18))] ([e609,d,d,e603,e605,e604,e614,e618,e649,r I 4,r I 5]) e147 fun X Y Z=>[⟨.ret,e616,e705,h Z [0,1,2,3,6,7,8,9,10,11,12,13,14]++k (.il 11) I⟩,⟨(.exit 0),e624,Y,h Z [0,1,2,3,4,5,6,7,8,9,10,11,12,13,14,15,16]⟩]
def f313:Fam:=o 2 84 0 0 e702 [] [e9,I,I] fun X Y Z=>[⟨.ret,e695,[],k e120 B⟩,⟨(.exit 0),[],[],[]⟩]
def f314:Fam:=o 2 111 0 1 e647 e725 ([e9,P,F,N,.nat,(L R),I,I]) fun X Y Z=>[⟨(.exit 0),[(3,e547),(4,(p 1)),(5,(p 2)),(8,(p 3))],Y,m [e9]++h Z [1,2,3,4]⟩]
def f315:Fam:=o 2 180 0 3 [(0,(p 0)),(5,e558),(8,(t I 12)),(9,(i 13)),(10,(i 14))] e739 [e10,e9,e9,e13,e14,S,I,I,e11,e12,I,B,e9,I,I] fun X Y Z=>[⟨(.exit 0),[(5,e558)],Y,h Z [0,1]++m [e9]++h Z [3,4,5,6,7,8,9,10,11]⟩]
def f316:Fam:=o 2 179 0 9 [(1,(p 0)),(2,(p 4)),(3,(p 5)),(4,(p 7)),(8,(t I 14)),(9,(i 15)),(10,(i 16))] e720 [e10,e9,e9,e9,e13,e14,S,I,I,e11,e12,I,B,N,e9,I,I] fun X Y Z=>[⟨(.exit 0),[],Y,h Z [0,1]++m [e9,e9]++h Z [4,5,6,7,8,9,10,11,12,13]⟩]
def f317:Fam:=o 2 162 6 1 [(0,(p 0)),(2,e490),(3,(t I 3)),(5,(p 2)),(9,(t I 4)),(10,(t I 5)),(14,(i 6)),(15,(i 7))] e726 [e9,W,N,e9,e9,e9,I,I] fun X Y Z=>[⟨.ret,e683,e738,h Z [1]++k e129 I⟩,⟨(.exit 6),e643,Y,h Z [0,1,2,3,4,5,6]⟩]
def f318:Fam:=o 1 139 0 6 [(0,(p 0)),(1,(.agg [e492,e522])),(2,(q 5 I 4))] e741 [e10,e9,e10,e10,e9,e13,e14,S,I,I,e11,e12,I,B,.nat] fun X Y Z=>[⟨.ret,e652,Y,h Z [0,1,2]++m [e10]++h Z [4,5,6,7,8,9,10,11,12,13]⟩]
def f319:Fam:=o 2 111 2 1 [(3,e547),(4,(p 1)),(5,(p 2)),(8,(p 3)),(29,(t R 5)),(30,(i 6)),(31,(i 7)),(36,(t I 8)),(37,(i 9)),(38,(i 10))] e725 ([e9,P,F,N,.nat,(L R),I,I,e9,I,I]) fun X Y Z=>[⟨(.exit 2),e647,Y,m [e9]++h Z [1,2,3,4,5,6,7]⟩]
def f320:Fam:=o 2 109 0 1 [(0,(p 0)),(3,(t I 2)),(10,e490),(64,(t R 3)),(65,(i 4)),(66,(i 5))] [e640,e610] ([e9,W,e9,(L R),I,I]) fun X Y Z=>[⟨(.exit 0),[],e738,m [W]⟩]
def f321:Fam:=o 2 109 2 1 [(0,(p 0)),(10,e490),(14,e479),(109,(t I 3)),(110,(i 4)),(111,(i 5))] e718 [e9,e9,W,e9,I,I] fun X Y Z=>[⟨(.exit 2),[],e738,m [W]⟩]
def f322:Fam:=o 2 162 8 1 [(0,(p 0)),(2,e490),(3,(t I 3)),(5,(p 2)),(9,(t I 4)),(10,(t I 5)),(16,(i 6))] e726 [e9,W,N,e9,e9,e9,I] fun X Y Z=>[⟨.ret,e683,e738,h Z [1]++k e129 I⟩,⟨(.exit 8),[(0,(p 0)),(2,e490),(3,(t I 3)),(5,(p 2)),(9,(t I 4))],Y,h Z [0,1,2,3,4]⟩]
def f323:Fam:=o 2 162 10 1 [(2,e490),(3,(t I 2)),(9,(t I 3)),(18,(i 4))] [e640,e610] [e9,W,e9,e9,I] fun X Y Z=>[⟨.ret,e683,e738,h Z [1]++k e129 I⟩,⟨(.exit 10),[],e738,h Z [1]⟩]
def f324:Fam:=a 141 [(0,(t e9 0))] [] ([(L e9)]) [e9]
def f325:Fam:=o 2 139 0 6 [(0,(p 0)),(4,(p 6)),(8,(q 5 I 4)),(9,(i 15)),(10,(i 16))] ([e662,e603,e615,e604,e665,r I 4,g 2 T [e492,e522]]) [e10,e9,e10,e10,e9,e13,e14,S,I,I,e11,e12,I,B,.nat,I,I] fun X Y Z=>[⟨(.exit 0),[],(Y.take 6),h Z [0,1,2]++m [e10]++h Z [4,5,6,7,8,9,10,11,12,13]⟩]
def f326:Fam:=o 2 124 2 5 [(0,(p 0)),(3,(b 16)),(5,(p 7)),(6,(p 8)),(9,e489),(10,e491),(49,(t I 17)),(50,(i 18)),(51,(i 19))] e713 [e10,e10,e10,e9,e9,e9,e13,e14,S,I,I,e11,e12,I,B,N,B,e9,I,I] fun X Y Z=>[⟨.ret,e616,e705,h Z [0,1,2,3,6,7,8,9,10,11,12,13,14]++k e129 I⟩,⟨(.exit 2),e624,Y,h Z [0,1,2,3,4,5,6,7,8,9,10,11,12,13,14,15,16]⟩]
def f327:Fam:=o 1 109 0 3 [(0,(p 0)),(1,(i 3)),(2,e490),(3,e479)] e718 [e9,e9,W,I] fun X Y Z=>[⟨.ret,e652,Y,h Z [0,1]++m [W]⟩]
def f328:Fam:=o 2 141 0 0 [(0,(t e9 0)),(3,(i 1)),(9,(t e9 2)),(10,(i 3)),(11,(i 4))] [] ([(L e9),I,(L e9),I,I]) fun X Y Z=>[⟨(.exit 0),[(0,(t e9 0)),(3,(i 1))],[],h Z [0]++m [I]⟩]
def f329:Fam:=o 1 123 0 8 [(0,(i 14)),(1,(.agg [e532,(.sl 1 e115 (v 15))])),(2,(p 2)),(3,(p 6)),(4,(p 7))] e716 [e10,e10,e10,e9,e13,e14,S,I,I,e11,e12,I,B,B,I,.nat] fun X Y Z=>[⟨.ret,[(0,e551)],e717,h Z [0,1,2,3,4,5,6,7,8,9,10,11,12,13]++m [I,I]⟩]
def f330:Fam:=o 1 162 0 3 [(0,(p 0)),(1,(.agg (c N 3))),(2,e490),(3,e479)] e718 [e9,e9,W,N] fun X Y Z=>[⟨.ret,[(0,(i 3))],Y,h Z [0,1,2]++m [I]⟩]
def f331:Fam:=o 2 124 4 5 e632 e713 e147 fun X Y Z=>[⟨(.exit 4),e624,Y,h Z [0,1,2,3,4,5,6,7,8,9,10,11,12,13,14,15,16]⟩,⟨.ret,e616,e705,h Z [0,1,2,3,6,7,8,9,10,11,12,13,14]++k e129 I⟩]
def f332:Fam:=o 1 182 0 0 [(0,.nils),(1,(i 0))] [] [I] fun X Y Z=>[⟨.ret,[(0,e560)],e731,m [e9,.nat]⟩,⟨.ret,[(0,.nils)],[],[]⟩]
def f333:Fam:=o 1 124 0 5 [(0,(p 0)),(1,e546),(2,(.agg [e492,e522])),(3,(b 15))] e707 [e10,e9,e10,e10,e13,e14,S,I,I,e11,e12,I,B,N,.nat,B] fun X Y Z=>[⟨.ret,[(0,(i 13))],e705,h Z [2,3,0,1,4,5,6,7,8,9,10,11,12]++m [I]⟩]
def f334:Fam:=o 2 162 0 3 [(0,(p 0)),(2,e490),(3,e479),(5,(p 3)),(9,(t I 4)),(10,(t I 5)),(11,(i 6))] e721 [e9,e9,W,N,e9,e9,I] fun X Y Z=>[⟨.ret,e684,(Y.take 3),h Z [0,1,2]++k (.il 11) I⟩,⟨(.exit 0),e621,Y,h Z [0,1,2,3,4,5]⟩]
def f335:Fam:=o 2 123 0 8 [(2,(p 2)),(4,(p 7)),(6,(p 10)),(9,(p 11)),(33,(t I 15)),(34,(i 16)),(35,(i 17))] ([e603,e605,e663,e636,d,d,e630,e675,e604,e614,g 2 T [e532,(q 1 B 1)],w 10 N 14]) [e10,e10,e10,e9,e13,e14,S,I,I,e11,e12,I,B,B,N,e9,I,I] fun X Y Z=>[⟨(.exit 0),[],(Y.take 10),h Z [0,1,2,3,4,5,6,7,8,9,10,11,12,13]⟩,⟨.ret,e685,(Y.take 10),h Z [0,1,2,3,4,5,6,7,8,9,10,11,12,13]++m [I,I]⟩]
def f336:Fam:=a 60 e655 [] [e9,I] [B]
def f337:Fam:=o 2 124 0 5 [(0,(p 0)),(3,(b 17)),(5,(p 7)),(6,(p 8)),(9,e489),(10,e491),(30,e489),(31,(i 18)),(32,(i 19))] ([e609,d,d,e603,e605,e604,e614,e618,e668,r I 4,r I 5]) e146 fun X Y Z=>[⟨.ret,e616,e705,h Z [0,1,2,3,6,7,8,9,10,11,12,13,14]++k (.il 11) I⟩,⟨(.exit 0),e625,Y,h Z [0,1,2,3,4,5,6,7,8,9,10,11,12,13,14,15,16,17]⟩]
def f338:Fam:=a 176 e659 [] [N] [B]
def f339:Fam:=o 2 141 2 0 [(6,e560),(25,(t e9 2)),(26,(i 3)),(27,(i 4))] e731 ([e9,.nat,(L e9),I,I]) fun X Y Z=>[⟨(.exit 2),[(6,e560)],Y,h Z [0,1]⟩,⟨(.exit 2),[(6,e506)],Y,m [e9]⟩]
def f340:Fam:=o 2 141 2 0 [(6,e506),(25,(t e9 1)),(26,(i 2)),(27,(i 3))] e731 ([e9,(L e9),I,I]) fun X Y Z=>[⟨(.exit 2),[(6,e506)],Y,m [e9]⟩]
def f341:Fam:=o 2 162 2 3 [(0,(p 0)),(2,e490),(3,e479),(5,(p 3)),(9,(t I 5)),(10,(t I 6)),(12,(q 4 I 2)),(13,(i 7))] ([g 13 W e583,e610,e615,w 10 N 4,r I 2]) [e9,e9,e9,W,N,e9,e9,I] fun X Y Z=>[⟨.ret,e684,e718,h Z [0,1,3]++k e129 I⟩,⟨(.exit 2),e621,e721,h Z [0,1,3,4,5,6]⟩]
def f342:Fam:=o 2 124 6 5 [(0,(p 0)),(3,(b 16)),(5,(p 7)),(6,(p 8)),(9,e489),(10,e491),(16,(i 17)),(67,e489),(68,(i 18)),(69,(i 19)),(79,e491),(80,(i 20)),(81,(i 21))] e713 [e10,e10,e10,e9,e9,e9,e13,e14,S,I,I,e11,e12,I,B,N,B,I,I,I,I,I] fun X Y Z=>[⟨.ret,e616,e705,h Z [0,1,2,3,6,7,8,9,10,11,12,13,14]++k e129 I⟩,⟨(.exit 6),e632,Y,h Z [0,1,2,3,4,5,6,7,8,9,10,11,12,13,14,15,16,18,19]⟩]
def f343:Fam:=o 1 79 0 5 [(0,(p 0)),(1,e546),(2,(i 14)),(3,(.agg e597))] e707 [e10,e9,e10,e10,e13,e14,S,I,I,e11,e12,I,B,N,I] fun X Y Z=>[⟨.ret,[(0,e566)],e719,h Z [2,3,0,1]++m [e10,e10]++h Z [4,5,6,7,8,9,10,11,12]++m [.nat,.nat]⟩]
def f344:Fam:=a 132 e655 [] [e9,I] [I]
def f345:Fam:=o 2 124 10 5 [(6,(p 7)),(9,e550),(137,e493),(138,(i 14)),(139,(i 15))] e733 [e10,e10,e10,e9,e9,e13,e14,S,I,I,e11,e12,I,B,I,I] fun X Y Z=>[⟨.ret,e616,e705,h Z [0,1,2,3,5,6,7,8,9,10,11,12,13]++k e129 I⟩,⟨(.exit 10),[],e705,h Z [0,1,2,3,5,6,7,8,9,10,11,12,13]⟩]
def f346:Fam:=o 2 124 8 5 [(0,(p 0)),(3,(b 15)),(6,(p 7)),(9,e550),(102,(q 9 I 5)),(103,(i 16)),(104,(i 17))] [e609,d,d,e603,e605,e604,e614,e649,e606,e611] [e10,e10,e10,e9,e9,e9,e13,e14,S,I,I,e11,e12,I,B,B,I,I] fun X Y Z=>[⟨.ret,e616,e705,h Z [0,1,2,3,6,7,8,9,10,11,12,13,14]++k e129 I⟩,⟨(.exit 8),[(3,(b 14)),(6,(p 7)),(9,e550)],e733,h Z [0,1,2,3,4,6,7,8,9,10,11,12,13,14,15]⟩]
def f347:Fam:=o 2 124 2 5 [(0,(p 0)),(3,(b 17)),(5,(p 7)),(6,(p 8)),(9,e489),(10,e491),(49,(t I 18)),(50,(i 19)),(51,(i 20))] e714 [e10,e10,e10,e9,e9,e9,e13,e14,S,I,I,e11,e12,I,B,N,.nat,B,e9,I,I] fun X Y Z=>[⟨.ret,e616,e705,h Z [0,1,2,3,6,7,8,9,10,11,12,13,14]++k e129 I⟩,⟨(.exit 2),e625,Y,h Z [0,1,2,3,4,5,6,7,8,9,10,11,12,13,14,15,16,17]⟩]
def f348:Fam:=o 1 137 0 2 [(0,(.agg [e532,(q 1 B 1)]))] [e603,e605] [e10,e10] fun X Y Z=>[⟨.ret,[(0,e567)],e736,h Z [0,1]++m [e10,e10,.nat,.nat]⟩]
def f349:Fam:=o 2 132 0 0 [(0,(t I 0)),(1,(i 1)),(7,(i 2)),(8,(i 3))] [] [e9,I,I,I] fun X Y Z=>[⟨.ret,e658,[],m [I]⟩,⟨(.exit 0),[],[],[]⟩]
def f350:Fam:=o 2 162 4 3 e648 e721 [e9,e9,W,N,e9,e9,I] fun X Y Z=>[⟨.ret,e684,(Y.take 3),h Z [0,1,2]++k e129 I⟩,⟨(.exit 4),e621,Y,h Z [0,1,2,3,4,5]⟩]
def f351:Fam:=o 2 109 0 3 [(0,(p 0)),(3,e479),(10,(q 3 I 2)),(64,(t R 4)),(65,(i 5)),(66,(i 6))] ([g 13 W e583,e610,e615,r I 2]) ([e9,e9,e9,W,(L R),I,I]) fun X Y Z=>[⟨(.exit 0),[],e718,h Z [0,1]++m [W]⟩]
def f352:Fam:=o 2 109 2 3 [(0,(p 0)),(10,(q 3 I 2)),(14,(q 4 I 3)),(109,(t I 5)),(110,(i 6)),(111,(i 7))] ([g 13 W [(.tl D (.o1 (.fst e14) (.o1 (.fst e31) (v 4)))),(.tl F (.o1 (.snd e13) (.o1 (.fst e31) (v 4)))),(.ss (.o1 (.fst e34) e238)),(.ii .i64 (.o1 (.fst e32) e318)),(.ii .i64 (.o1 (.fst e29) e380)),(.tl V (.o1 (.fst e25) e423)),(.tl N (.o1 (.fst V) e447)),(.ii .i64 (.o1 (.fst B) (.o1 (.snd e12) e447))),(.bb (.o1 (.snd I) (.o1 (.snd e12) e447))),(.tl I (.o1 (.fst e20) e248)),(.bb (.o1 (.fst e3) e325)),(.ii .i64 (.o1 (.fst I) (.o1 (.snd B) e325))),(.ii .i64 (.o1 (.snd I) (.o1 (.snd B) e325)))],e610,e615,r I 2,e614]) [e9,e9,e9,e9,W,e9,I,I] fun X Y Z=>[⟨(.exit 2),[],e718,h Z [0,1]++m [W]⟩]
def f353:Fam:=o 2 124 4 5 e633 e714 e146 fun X Y Z=>[⟨.ret,e616,e705,h Z [0,1,2,3,6,7,8,9,10,11,12,13,14]++k e129 I⟩,⟨(.exit 4),e625,Y,h Z [0,1,2,3,4,5,6,7,8,9,10,11,12,13,14,15,16,17]⟩]
def f354:Fam:=o 2 79 0 5 [(0,(p 0)),(2,(i 21)),(5,(p 7)),(8,(p 8)),(9,(p 11)),(22,(q 14 I 8)),(23,(i 22)),(24,(i 23))] ([g 11 U [(t D 9),(t F 10),(s 11),(i 12),(i 13),(t V 14),(t N 15),(i 16),(b 17),e471,e472],d,d,e603,e605,e604,e614,w 10 N 18,g 2 T [(q 9 B 4),(q 10 B 5)],r B 4,r B 5,g 2 T [(.sl 12 e115 (v 19)),(.sl 13 e115 (v 20))],r B 6,r B 7,r I 8]) [e10,e10,e10,e9,e10,e10,e10,e10,e9,e13,e14,S,I,I,e11,e12,I,B,N,.nat,.nat,I,I,I] fun X Y Z=>[⟨(.exit 0),[(0,(p 0)),(2,(i 20)),(5,(p 7)),(8,(p 8)),(9,(p 11))],[g 11 U [(t D 8),(t F 9),(s 10),(i 11),(i 12),(t V 13),(t N 14),(i 15),(b 16),e471,e472],d,d,e603,e605,e604,e614,w 10 N 17,g 2 T [(q 9 B 4),(q 10 B 5)],r B 4,r B 5,g 2 T [(.sl 12 e115 (v 18)),(.sl 13 e115 (v 19))],r B 6,r B 7],h Z [0,1,2,3,4,5]++m [e10]++h Z [7,9,10,11,12,13,14,15,16,17,18,19,20,21]⟩]
def f355:Fam:=o 2 162 6 3 [(0,(p 0)),(2,e490),(3,e479),(5,(p 3)),(9,(t I 4)),(10,(t I 5)),(14,(i 6)),(15,(i 7))] e721 [e9,e9,W,N,e9,e9,I,I] fun X Y Z=>[⟨.ret,e684,(Y.take 3),h Z [0,1,2]++k e129 I⟩,⟨(.exit 6),e648,Y,h Z [0,1,2,3,4,5,6]⟩]
def f356:Fam:=o 2 123 0 8 [(2,(p 2)),(4,(p 7)),(6,(p 10)),(9,(p 11)),(33,(t I 16)),(34,(i 17)),(35,(i 18))] ([e603,e605,e663,e636,d,d,e630,e675,e604,e614,g 2 T [e532,(.sl 1 e115 (v 14))],e618]) [e10,e10,e10,e9,e13,e14,S,I,I,e11,e12,I,B,B,.nat,N,e9,I,I] fun X Y Z=>[⟨(.exit 0),[],(Y.take 10),h Z [0,1,2,3,4,5,6,7,8,9,10,11,12,13]⟩,⟨.ret,e685,(Y.take 10),h Z [0,1,2,3,4,5,6,7,8,9,10,11,12,13]++m [I,I]⟩]
def f357:Fam:=o 2 162 8 3 [(0,(p 0)),(2,e490),(3,e479),(5,(p 3)),(9,(t I 4)),(10,(t I 5)),(16,(i 6))] e721 [e9,e9,W,N,e9,e9,I] fun X Y Z=>[⟨.ret,e684,(Y.take 3),h Z [0,1,2]++k e129 I⟩,⟨(.exit 8),[(0,(p 0)),(2,e490),(3,e479),(5,(p 3)),(9,(t I 4))],Y,h Z [0,1,2,3,4]⟩]
def f358:Fam:=o 2 162 10 3 [(2,e490),(3,e479),(9,(t I 3)),(18,(i 4))] e718 [e9,e9,W,e9,I] fun X Y Z=>[⟨.ret,e684,Y,h Z [0,1,2]++k e129 I⟩,⟨(.exit 10),[],Y,h Z [0,1,2]⟩]
def f359:Fam:=o 2 124 6 5 [(0,(p 0)),(3,(b 17)),(5,(p 7)),(6,(p 8)),(9,e489),(10,e491),(16,(i 18)),(67,e489),(68,(i 19)),(69,(i 20)),(79,e491),(80,(i 21)),(81,(i 22))] e714 [e10,e10,e10,e9,e9,e9,e13,e14,S,I,I,e11,e12,I,B,N,.nat,B,I,I,I,I,I] fun X Y Z=>[⟨.ret,e616,e705,h Z [0,1,2,3,6,7,8,9,10,11,12,13,14]++k e129 I⟩,⟨(.exit 6),e633,Y,h Z [0,1,2,3,4,5,6,7,8,9,10,11,12,13,14,15,16,17,19,20]⟩]
def f360:Fam:=o 2 124 10 5 [(6,(p 7)),(9,e550),(137,e537),(138,(i 16)),(139,(i 17))] e728 [e10,e10,e10,e9,e9,e13,e14,S,I,I,e11,e12,I,B,.nat,.nat,I,I] fun X Y Z=>[⟨.ret,e616,e705,h Z [0,1,2,3,5,6,7,8,9,10,11,12,13]++k e129 I⟩,⟨(.exit 10),[],e705,h Z [0,1,2,3,5,6,7,8,9,10,11,12,13]⟩]
def f361:Fam:=o 2 124 8 5 [(0,(p 0)),(3,(b 16)),(6,(p 7)),(9,e550),(102,(q 9 I 5)),(103,(i 17)),(104,(i 18))] ([e609,d,d,e603,e605,e604,e614,g 2 T [e494,e537],e606,e611]) [e10,e10,e10,e9,e9,e9,e13,e14,S,I,I,e11,e12,I,B,.nat,B,I,I] fun X Y Z=>[⟨.ret,e616,e705,h Z [0,1,2,3,6,7,8,9,10,11,12,13,14]++k e129 I⟩,⟨(.exit 8),[(3,(b 15)),(6,(p 7)),(9,e550)],e728,h Z [0,1,2,3,4,6,7,8,9,10,11,12,13,14,15,16]⟩]
def f362:Fam:=o 1 139 0 5 [(0,(p 0)),(1,(.agg [(.sl 3 e115 (v 13)),e522])),(2,(t I 15))] e707 [e10,e9,e10,e10,e13,e14,S,I,I,e11,e12,I,B,.nat,.nat,e9] fun X Y Z=>[⟨.ret,e652,Y,h Z [0,1,2]++m [e10]++h Z [4,5,6,7,8,9,10,11,12]⟩]
def f363:Fam:=o 1 79 0 5 [(0,(p 0)),(1,e546),(2,(i 14)),(3,(.agg [e492,e537]))] e707 [e10,e9,e10,e10,e13,e14,S,I,I,e11,e12,I,B,N,I,.nat] fun X Y Z=>[⟨.ret,[(0,e566)],e719,h Z [2,3,0,1]++m [e10,e10]++h Z [4,5,6,7,8,9,10,11,12]++m [.nat,.nat]⟩]
def f364:Fam:=o 2 139 0 5 [(0,(p 0)),(4,(p 5)),(8,(t I 15)),(9,(i 16)),(10,(i 17))] ([e635,e603,e615,e604,e665,g 2 T [(.sl 3 e115 (v 13)),e522]]) [e10,e9,e10,e10,e13,e14,S,I,I,e11,e12,I,B,.nat,.nat,e9,I,I] fun X Y Z=>[⟨(.exit 0),[],(Y.take 5),h Z [0,1,2]++m [e10]++h Z [4,5,6,7,8,9,10,11,12]⟩]
def f365:Fam:=o 1 137 0 2 [(0,(.agg [e532,(.sl 1 e115 (v 2))]))] [e603,e605] [e10,e10,.nat] fun X Y Z=>[⟨.ret,[(0,e567)],e736,h Z [0,1]++m [e10,e10,.nat,.nat]⟩]
def f366:Fam:=o 1 123 0 8 [(0,(i 14)),(1,(.agg [(.sl 0 e115 (v 15)),(.sl 1 e115 (v 16))])),(2,(p 2)),(3,(p 6)),(4,(p 7))] e716 [e10,e10,e10,e9,e13,e14,S,I,I,e11,e12,I,B,B,I,.nat,.nat] fun X Y Z=>[⟨.ret,[(0,e551)],e717,h Z [0,1,2,3,4,5,6,7,8,9,10,11,12,13]++m [I,I]⟩]
def f367:Fam:=o 1 124 0 5 [(0,(p 0)),(1,e546),(2,(.agg [e557,e537])),(3,(b 16))] e707 [e10,e9,e10,e10,e13,e14,S,I,I,e11,e12,I,B,N,.nat,.nat,B] fun X Y Z=>[⟨.ret,[(0,(i 13))],e705,h Z [2,3,0,1,4,5,6,7,8,9,10,11,12]++m [I]⟩]
def f368:Fam:=o 2 124 0 5 [(0,(p 0)),(3,(b 18)),(5,(p 7)),(6,(p 8)),(9,e489),(10,e491),(30,e489),(31,(i 19)),(32,(i 20))] ([e609,d,d,e603,e605,e604,e614,e618,e669,r I 4,r I 5]) e144 fun X Y Z=>[⟨.ret,e616,e705,h Z [0,1,2,3,6,7,8,9,10,11,12,13,14]++k (.il 11) I⟩,⟨(.exit 0),e626,Y,h Z [0,1,2,3,4,5,6,7,8,9,10,11,12,13,14,15,16,17,18]⟩]
def f369:Fam:=o 2 124 2 5 [(0,(p 0)),(3,(b 18)),(5,(p 7)),(6,(p 8)),(9,e489),(10,e491),(49,(t I 19)),(50,(i 20)),(51,(i 21))] e715 [e10,e10,e10,e9,e9,e9,e13,e14,S,I,I,e11,e12,I,B,N,.nat,.nat,B,e9,I,I] fun X Y Z=>[⟨.ret,e616,e705,h Z [0,1,2,3,6,7,8,9,10,11,12,13,14]++k e129 I⟩,⟨(.exit 2),e626,Y,h Z [0,1,2,3,4,5,6,7,8,9,10,11,12,13,14,15,16,17,18]⟩]
def f370:Fam:=o 2 124 4 5 e634 e715 e144 fun X Y Z=>[⟨.ret,e616,e705,h Z [0,1,2,3,6,7,8,9,10,11,12,13,14]++k e129 I⟩,⟨(.exit 4),e626,Y,h Z [0,1,2,3,4,5,6,7,8,9,10,11,12,13,14,15,16,17,18]⟩]
def f371:Fam:=o 2 123 0 8 [(2,(p 2)),(4,(p 7)),(6,(p 10)),(9,(p 11)),(33,(t I 17)),(34,(i 18)),(35,(i 19))] ([e603,e605,e663,e636,d,d,e630,e675,e604,e614,g 2 T [(.sl 0 e115 (v 14)),(.sl 1 e115 (v 15))],w 10 N 16]) [e10,e10,e10,e9,e13,e14,S,I,I,e11,e12,I,B,B,.nat,.nat,N,e9,I,I] fun X Y Z=>[⟨(.exit 0),[],(Y.take 10),h Z [0,1,2,3,4,5,6,7,8,9,10,11,12,13]⟩,⟨.ret,e685,(Y.take 10),h Z [0,1,2,3,4,5,6,7,8,9,10,11,12,13]++m [I,I]⟩]
def f372:Fam:=o 2 124 6 5 [(0,(p 0)),(3,(b 18)),(5,(p 7)),(6,(p 8)),(9,e489),(10,e491),(16,(i 19)),(67,e489),(68,(i 20)),(69,(i 21)),(79,e491),(80,(i 22)),(81,(i 23))] e715 [e10,e10,e10,e9,e9,e9,e13,e14,S,I,I,e11,e12,I,B,N,.nat,.nat,B,I,I,I,I,I] fun X Y Z=>[⟨.ret,e616,e705,h Z [0,1,2,3,6,7,8,9,10,11,12,13,14]++k e129 I⟩,⟨(.exit 6),e634,Y,h Z [0,1,2,3,4,5,6,7,8,9,10,11,12,13,14,15,16,17,18,20,21]⟩]
def f373:Fam:=o 2 124 10 5 [(6,(p 7)),(9,e550),(137,e499),(138,(i 17)),(139,(i 18))] e729 [e10,e10,e10,e9,e9,e13,e14,S,I,I,e11,e12,I,B,.nat,.nat,.nat,I,I] fun X Y Z=>[⟨.ret,e616,e705,h Z [0,1,2,3,5,6,7,8,9,10,11,12,13]++k e129 I⟩,⟨(.exit 10),[],e705,h Z [0,1,2,3,5,6,7,8,9,10,11,12,13]⟩]
def f374:Fam:=o 2 124 8 5 [(0,(p 0)),(3,(b 17)),(6,(p 7)),(9,e550),(102,(q 9 I 5)),(103,(i 18)),(104,(i 19))] ([e609,d,d,e603,e605,e604,e614,g 2 T [(.sl 3 e115 (v 15)),e499],e606,e611]) [e10,e10,e10,e9,e9,e9,e13,e14,S,I,I,e11,e12,I,B,.nat,.nat,B,I,I] fun X Y Z=>[⟨.ret,e616,e705,h Z [0,1,2,3,6,7,8,9,10,11,12,13,14]++k e129 I⟩,⟨(.exit 8),[(3,(b 16)),(6,(p 7)),(9,e550)],e729,h Z [0,1,2,3,4,6,7,8,9,10,11,12,13,14,15,16,17]⟩]
def f375:Fam:=o 1 79 0 5 [(0,(p 0)),(1,e546),(2,(i 14)),(3,(.agg [(.sl 3 e115 (v 15)),e499]))] e707 [e10,e9,e10,e10,e13,e14,S,I,I,e11,e12,I,B,N,I,.nat,.nat] fun X Y Z=>[⟨.ret,[(0,e566)],e719,h Z [2,3,0,1]++m [e10,e10]++h Z [4,5,6,7,8,9,10,11,12]++m [.nat,.nat]⟩]
def f376:Fam:=o 1 137 0 2 [(0,(.agg [(.sl 0 e115 (v 2)),(.sl 1 e115 (v 3))]))] [e603,e605] [e10,e10,.nat,.nat] fun X Y Z=>[⟨.ret,[(0,e567)],e736,h Z [0,1]++m [e10,e10,.nat,.nat]⟩]
end T
open T
namespace Tfams
def n:Nat→Tr Fam→Tr Fam→Tr Fam:=.node
def l:Fam→Tr Fam:=.leaf
end Tfams
open Tfams in
def fams:Tr Fam:=
 (n 192 (n 96 (n 48 (n 24 (n 12 (n 6 (n 3 (n 1 (l f376) (n 2 (l f376) (l f2))) (n 4 (l f3) (l f376))) (n 9 (n 7 (l f376) (n 8 (l f376) (l f8))) (l f376))) (n 18 (n 15 (n 13 (l f12) (n 14 (l f13) (l f376))) (n 16 (l f15) (l f376))) (n 21 (n 19 (l f18) (n 20 (l f19) (l f376))) (n 22 (l f21) (n 23 (l f22) (l f376)))))) (n 36 (n 30 (n 27 (n 25 (l f24) (l f376)) (n 28 (l f27) (n 29 (l f28) (l f29)))) (n 33 (n 31 (l f30) (n 32 (l f376) (l f32))) (n 34 (l f33) (n 35 (l f376) (l f35))))) (n 42 (n 39 (n 37 (l f376) (n 38 (l f37) (l f38))) (n 40 (l f376) (n 41 (l f40) (l f41)))) (n 45 (n 43 (l f376) (n 44 (l f43) (l f44))) (n 46 (l f376) (n 47 (l f46) (l f47))))))) (n 72 (n 60 (n 54 (n 51 (n 49 (l f376) (n 50 (l f49) (l f376))) (n 52 (l f51) (n 53 (l f52) (l f53)))) (n 57 (n 55 (l f54) (n 56 (l f55) (l f56))) (n 58 (l f376) (n 59 (l f58) (l f59))))) (n 66 (n 63 (n 61 (l f376) (n 62 (l f61) (l f62))) (n 64 (l f376) (n 65 (l f64) (l f65)))) (n 69 (n 67 (l f66) (n 68 (l f376) (l f68))) (n 70 (l f69) (n 71 (l f70) (l f71)))))) (n 84 (n 78 (n 75 (n 73 (l f72) (n 74 (l f73) (l f74))) (n 76 (l f376) (n 77 (l f76) (l f77)))) (n 81 (n 79 (l f78) (n 80 (l f79) (l f376))) (n 82 (l f81) (n 83 (l f82) (l f83))))) (n 90 (n 87 (n 85 (l f376) (n 86 (l f376) (l f86))) (n 88 (l f87) (n 89 (l f88) (l f89)))) (n 93 (n 91 (l f90) (n 92 (l f376) (l f92))) (n 94 (l f93) (n 95 (l f94) (l f376)))))))) (n 144 (n 120 (n 108 (n 102 (n 99 (n 97 (l f96) (n 98 (l f97) (l f376))) (n 100 (l f99) (n 101 (l f376) (l f101)))) (n 105 (n 103 (l f102) (n 104 (l f103) (l f104))) (n 106 (l f376) (n 107 (l f106) (l f107))))) (n 114 (n 111 (n 109 (l f108) (n 110 (l f376) (l f110))) (n 112 (l f111) (n 113 (l f112) (l f376)))) (n 117 (n 115 (l f376) (n 116 (l f115) (l f376))) (n 118 (l f117) (n 119 (l f118) (l f119)))))) (n 132 (n 126 (n 123 (n 121 (l f376) (n 122 (l f121) (l f122))) (n 124 (l f123) (l f376))) (n 129 (n 127 (l f126) (n 128 (l f376) (l f128))) (n 130 (l f376) (n 131 (l f130) (l f376))))) (n 138 (n 135 (n 133 (l f376) (n 134 (l f133) (l f134))) (n 136 (l f135) (n 137 (l f136) (l f376)))) (n 141 (n 139 (l f138) (n 140 (l f376) (l f140))) (n 142 (l f376) (n 143 (l f142) (l f143))))))) (n 168 (n 156 (n 150 (n 147 (n 145 (l f376) (n 146 (l f145) (l f146))) (n 148 (l f376) (n 149 (l f376) (l f149)))) (n 153 (n 151 (l f150) (n 152 (l f376) (l f152))) (n 154 (l f153) (n 155 (l f376) (l f155))))) (n 162 (n 159 (n 157 (l f376) (n 158 (l f157) (l f158))) (n 160 (l f376) (n 161 (l f376) (l f161)))) (n 165 (n 163 (l f162) (l f376)) (n 166 (l f376) (n 167 (l f166) (l f167)))))) (n 180 (n 174 (n 171 (n 169 (l f168) (n 170 (l f169) (l f170))) (n 172 (l f376) (n 173 (l f172) (l f173)))) (n 177 (n 175 (l f376) (n 176 (l f175) (l f376))) (n 178 (l f177) (n 179 (l f376) (l f179))))) (n 186 (n 183 (n 181 (l f376) (n 182 (l f376) (l f182))) (l f376)) (n 189 (n 187 (l f186) (n 188 (l f187) (l f376))) (n 190 (l f189) (n 191 (l f190) (l f191))))))))) (n 288 (n 240 (n 216 (n 204 (n 198 (n 195 (n 193 (l f376)
 (n 194 (l f193) (l f376))) (n 196 (l f376) (n 197 (l f376) (l f197)))) (n 201 (n 199 (l f198) (n 200 (l f199) (l f376))) (n 202 (l f201) (n 203 (l f376) (l f203))))) (n 210 (n 207 (n 205 (l f376) (n 206 (l f376) (l f206))) (n 208 (l f207) (n 209 (l f208) (l f376)))) (n 213 (n 211 (l f210) (n 212 (l f211) (l f212))) (n 214 (l f376) (n 215 (l f214) (l f376)))))) (n 228 (n 222 (n 219 (n 217 (l f216) (n 218 (l f217) (l f218))) (n 220 (l f219) (n 221 (l f220) (l f221)))) (n 225 (n 223 (l f222) (n 224 (l f223) (l f224))) (n 226 (l f225) (n 227 (l f226) (l f227))))) (n 234 (n 231 (n 229 (l f228) (n 230 (l f229) (l f376))) (n 232 (l f231) (n 233 (l f232) (l f233)))) (n 237 (n 235 (l f234) (n 236 (l f235) (l f236))) (n 238 (l f237) (n 239 (l f376) (l f239))))))) (n 264 (n 252 (n 246 (n 243 (n 241 (l f240) (n 242 (l f241) (l f242))) (n 244 (l f243) (n 245 (l f244) (l f245)))) (n 249 (n 247 (l f246) (n 248 (l f247) (l f248))) (l f376))) (n 258 (n 255 (n 253 (l f376) (n 254 (l f376) (l f254))) (n 256 (l f255) (n 257 (l f256) (l f257)))) (n 261 (n 259 (l f258) (n 260 (l f259) (l f260))) (n 262 (l f261) (n 263 (l f262) (l f263)))))) (n 276 (n 270 (n 267 (n 265 (l f264) (n 266 (l f265) (l f266))) (n 268 (l f267) (n 269 (l f268) (l f269)))) (n 273 (n 271 (l f270) (n 272 (l f271) (l f272))) (n 274 (l f273) (n 275 (l f274) (l f275))))) (n 282 (n 279 (n 277 (l f276) (n 278 (l f277) (l f278))) (n 280 (l f279) (n 281 (l f280) (l f281)))) (n 285 (n 283 (l f282) (n 284 (l f283) (l f284))) (n 286 (l f285) (n 287 (l f286) (l f287)))))))) (n 336 (n 312 (n 300 (n 294 (n 291 (n 289 (l f288) (n 290 (l f289) (l f290))) (n 292 (l f291) (n 293 (l f292) (l f293)))) (n 297 (n 295 (l f294) (n 296 (l f295) (l f296))) (n 298 (l f297) (n 299 (l f298) (l f299))))) (n 306 (n 303 (n 301 (l f300) (n 302 (l f301) (l f302))) (n 304 (l f303) (n 305 (l f304) (l f305)))) (n 309 (n 307 (l f306) (n 308 (l f307) (l f308))) (n 310 (l f309) (n 311 (l f310) (l f311)))))) (n 324 (n 318 (n 315 (n 313 (l f312) (n 314 (l f313) (l f314))) (n 316 (l f315) (n 317 (l f316) (l f317)))) (n 321 (n 319 (l f318) (n 320 (l f319) (l f320))) (n 322 (l f321) (n 323 (l f322) (l f323))))) (n 330 (n 327 (n 325 (l f324) (n 326 (l f325) (l f326))) (n 328 (l f327) (n 329 (l f328) (l f329)))) (n 333 (n 331 (l f330) (n 332 (l f331) (l f332))) (n 334 (l f333) (n 335 (l f334) (l f335))))))) (n 360 (n 348 (n 342 (n 339 (n 337 (l f336) (n 338 (l f337) (l f338))) (n 340 (l f339) (n 341 (l f340) (l f341)))) (n 345 (n 343 (l f342) (n 344 (l f343) (l f344))) (n 346 (l f345) (n 347 (l f346) (l f347))))) (n 354 (n 351 (n 349 (l f348) (n 350 (l f349) (l f350))) (n 352 (l f351) (n 353 (l f352) (l f353)))) (n 357 (n 355 (l f354) (n 356 (l f355) (l f356))) (n 358 (l f357) (n 359 (l f358) (l f359)))))) (n 372 (n 366 (n 363 (n 361 (l f360) (n 362 (l f361) (l f362))) (n 364 (l f363) (n 365 (l f364) (l f365)))) (n 369 (n 367 (l f366) (n 368 (l f367) (l f368))) (n 370 (l f369) (n 371 (l f370) (l f371))))) (n 378 (n 375 (n 373 (l f372)
 (n 374 (l f373) (l f374))) (n 376 (l f375) (l f376))) (l f376)))))))
namespace Tpfns
def z:Tr (Option Nat):=.leaf none
def n:Nat→Tr (Option Nat)→Tr (Option Nat)→Tr (Option Nat):=.node
def l:(Option Nat)→Tr (Option Nat):=.leaf
end Tpfns
open Tpfns in
def pfns:Tr (Option Nat):=
 (n 132 (n 66 (n 33 (n 16 (n 8 (n 4 z (n 6 (n 5 z (l (some 255))) z)) (n 12 z (n 14 (n 13 (l (some 254)) (l (some 256))) z))) (n 24 (n 20 (n 18 (n 17 z (l (some 8))) (n 19 (l (some 257)) z)) (n 22 (n 21 (l (some 259)) (l (some 261))) (n 23 (l (some 265)) z))) z)) (n 49 (n 41 (n 37 z (n 39 (n 38 (l (some 266)) z) z)) (n 45 (n 43 (n 42 z (l (some 12))) (n 44 (l (some 263)) (l (some 268)))) (n 47 (n 46 (l (some 275)) (l (some 270))) z))) (n 57 (n 53 (n 51 (n 50 z (l (some 13))) (n 52 (l (some 24)) z)) (n 55 (n 54 (l (some 290)) (l (some 158))) (n 56 (l (some 149)) z))) (n 61 (n 59 z (n 60 z (l (some 336)))) z)))) (n 99 (n 82 (n 74 z (n 78 z (n 80 (n 79 (l (some 177)) z) z))) (n 90 (n 86 (n 84 z (n 85 (l (some 306)) z)) z) (n 94 z (n 96 z (n 97 (l (some 166)) z))))) (n 115 (n 107 (n 103 (n 101 z (n 102 z (l (some 222)))) z) (n 111 (n 109 (n 108 (l (some 18)) (l (some 32))) (n 110 z (l (some 279)))) (n 113 (n 112 z (l (some 19))) (n 114 (l (some 22)) (l (some 29)))))) (n 123 (n 119 (n 117 z (n 118 (l (some 135)) (l (some 69)))) (n 121 z (n 122 (l (some 130)) (l (some 111))))) (n 127 (n 125 z (n 126 z (l (some 295)))) (n 129 z (n 130 z (n 131 z (l (some 162)))))))))) (n 198 (n 165 (n 148 (n 140 (n 136 (n 134 (n 133 (l (some 344)) z) z) (n 138 (n 137 (l (some 170)) z) z)) (n 144 (n 142 (n 141 z (l (some 324))) (n 143 (l (some 293)) z)) z)) (n 156 (n 152 z (n 154 (n 153 z (l (some 229))) (n 155 (l (some 248)) (l (some 27))))) (n 160 (n 158 (n 157 (l (some 30)) (l (some 41))) (n 159 (l (some 53)) (l (some 70)))) (n 162 (n 161 (l (some 46)) z) (n 163 z (n 164 (l (some 284)) (l (some 81)))))))) (n 181 (n 173 (n 169 (n 167 (n 166 (l (some 47)) (l (some 104))) z) (n 171 (n 170 z (l (some 49))) z)) (n 177 (n 175 z (n 176 z (l (some 338)))) (n 179 (n 178 z (l (some 187))) z))) (n 189 (n 185 z (n 187 (n 186 z (l (some 62))) (n 188 (l (some 77)) (l (some 119))))) (n 193 (n 191 (n 190 (l (some 64)) (l (some 97))) (n 192 (l (some 150)) z)) (n 195 (n 194 (l (some 2)) (l (some 66))) (n 196 z (n 197 (l (some 153)) z))))))) (n 231 (n 214 (n 206 (n 202 (n 200 z (n 201 (l (some 126)) z)) (n 204 (n 203 z (l (some 94))) (n 205 (l (some 115)) (l (some 152))))) (n 210 (n 208 (n 207 (l (some 212)) (l (some 217))) (n 209 z (l (some 3)))) z)) (n 222 (n 218 (n 216 (n 215 z (l (some 122))) (n 217 (l (some 219)) (l (some 221)))) (n 220 (n 219 (l (some 220)) z) z)) z)) z)))
namespace Tfnss
def z:Tr (List Nat):=.leaf []
def n:Nat→Tr (List Nat)→Tr (List Nat)→Tr (List Nat):=.node
def l:(List Nat)→Tr (List Nat):=.leaf
end Tfnss
open Tfnss in
def fnss:Tr (List Nat):=
 (n 132 (n 66 (n 33 z (n 49 (n 41 (n 37 z (n 39 z (n 40 z (l [260])))) z) (n 57 (n 53 (n 51 z (n 52 z (l [274]))) z) z))) (n 99 (n 82 (n 74 z (n 78 z (n 80 (n 79 z (l [343,363,375])) (n 81 (l [282]) z)))) z) (n 115 (n 107 (n 103 z (n 105 (n 104 (l [269]) z) z)) (n 111 (n 109 z (n 110 (l [280,327]) z)) (n 113 (n 112 (l [281,307]) z) z))) (n 123 (n 119 (n 117 (n 116 (l [76,172]) (l [121])) z) (n 121 (n 120 (l [35]) (l [123])) z)) (n 127 (n 125 (n 124 (l [297,329,366]) (l [302,333,367])) (n 126 (l [294]) z)) z))))) (n 198 (n 165 (n 148 (n 140 (n 136 z (n 138 (n 137 z (l [348,365,376])) (n 139 (l [305]) (l [292,318,362])))) z) (n 156 (n 152 z (n 154 (n 153 (l [38,55,117,231]) z) z)) (n 160 z (n 162 (n 161 z (l [82])) (n 163 (l [285,330]) z))))) (n 181 (n 173 (n 169 (n 167 z (n 168 (l [92,189]) (l [157]))) (n 171 (n 170 (l [206]) z) (n 172 (l [83]) (l [108,190])))) (n 177 (n 175 (n 174 (l [155]) (l [216])) (n 176 (l [140]) z)) (n 179 z (n 180 (l [309]) (l [308]))))) (n 189 (n 185 (n 183 (n 182 (l [301]) (l [332])) z) (n 187 (n 186 (l [52,74,133,239]) z) z)) (n 193 (n 191 z (n 192 z (l [99]))) (n 195 z (n 196 (l [128,203]) (n 197 z (l [223])))))))) (n 231 (n 214 (n 206 z (n 210 z (n 212 (n 211 (l [232]) (l [234])) (n 213 (l [233,242]) (l [236]))))) (n 222 (n 218 (n 216 (n 215 (l [235]) z) z) z) (n 226 z (n 228 (n 227 z (l [241])) z)))) z)))
namespace Tloopss
def z:Tr (List (Nat×Nat)):=.leaf []
def n:Nat→Tr (List (Nat×Nat))→Tr (List (Nat×Nat))→Tr (List (Nat×Nat)):=.node
def l:(List (Nat×Nat))→Tr (List (Nat×Nat)):=.leaf
end Tloopss
open Tloopss in
def QG4:Tr (List (Nat×Nat)):=
 (n 132 (n 66 (n 33 (n 16 (n 8 z (n 12 z (n 14 (n 13 z (l [(0,258),(2,262),(4,267)])) z))) (n 24 (n 20 (n 18 (n 17 z (l [(0,15)])) z) (n 22 z (n 23 (l [(0,271)]) z))) z)) (n 49 (n 41 (n 37 z (n 39 (n 38 (l [(0,272)]) z) (n 40 z (l [(0,264)])))) (n 45 (n 43 (n 42 z (l [(0,21)])) (n 44 z (l [(0,273)]))) (n 47 (n 46 (l [(0,283)]) (l [(0,278)])) z))) (n 57 (n 53 (n 51 (n 50 z (l [(0,40),(2,58)])) (n 52 (l [(0,96)]) z)) (n 55 (n 54 z (l [(1,179)])) (n 56 (l [(1,167)]) z))) z))) (n 99 (n 82 (n 74 z (n 78 z (n 80 (n 79 (l [(0,193)]) (l [(0,354)])) (n 81 (l [(0,288),(0,311)]) z)))) (n 90 (n 86 (n 84 z (n 85 (l [(0,313)]) z)) z) (n 94 z (n 96 z (n 97 (l [(0,186)]) z))))) (n 115 (n 107 (n 103 z (n 105 (n 104 (l [(0,276),(2,277)]) z) z)) (n 111 (n 109 (n 108 z (l [(0,54),(2,198),(4,211)])) (n 110 (l [(0,320),(2,321),(0,351),(2,352)]) z)) (n 113 (n 112 (l [(0,286),(4,287),(2,291),(4,304),(0,314),(2,319)]) (l [(0,28)])) (n 114 (l [(0,33)]) (l [(0,43),(2,61)]))))) (n 123 (n 119 (n 117 z (n 118 z (l [(0,87),(2,101)]))) (n 121 (n 120 (l [(0,56)]) (l [(0,208),(2,218),(4,226),(6,237)])) (n 122 (l [(0,145)]) z))) (n 127 (n 125 (n 124 (l [(0,335),(0,356),(0,371)]) (l [(0,312),(2,326),(4,331),(0,337),(6,342),(10,345),(8,346),(2,347),(4,353),(6,359),(10,360),(8,361),(0,368),(2,369),(4,370),(6,372),(10,373),(8,374)])) (n 126 (l [(0,299)]) (l [(0,300)]))) (n 129 z (n 130 z (n 131 z (l [(0,182)]))))))))) (n 198 (n 165 (n 148 (n 140 (n 136 (n 134 (n 133 (l [(0,349)]) z) z) (n 138 z (n 139 z (l [(0,296),(0,325),(0,364)])))) (n 144 (n 142 (n 141 z (l [(0,328),(2,339),(2,340)])) z) z)) (n 156 (n 152 z (n 154 z (n 155 z (l [(0,37),(2,51)])))) (n 160 (n 158 (n 157 (l [(0,44),(2,71)]) (l [(0,59),(2,86)])) (n 159 (l [(0,73),(2,89),(4,103)]) (l [(0,88),(2,102),(8,112),(4,118),(6,134)]))) (n 162 (n 161 (l [(0,72),(2,110),(4,136)]) (l [(0,191),(2,207)])) (n 163 (l [(0,298),(2,303),(4,310),(6,317),(8,322),(10,323),(0,334),(2,341),(4,350),(6,355),(8,357),(10,358)]) (n 164 (l [(0,289)]) z)))))) (n 181 (n 173 (n 169 (n 167 (n 166 (l [(0,65)]) z) (n 168 (l [(0,106),(0,197)]) z)) z) (n 177 (n 175 z (n 176 (l [(0,175),(2,201),(4,214),(6,246)]) z)) (n 179 z (n 180 (l [(0,316)]) (l [(0,315)]))))) (n 189 (n 185 z (n 187 (n 186 (l [(0,68),(0,90),(0,146),(0,244)]) (l [(0,78)])) (n 188 (l [(0,93)]) z))) (n 193 (n 191 (n 190 (l [(0,79)]) z) (n 192 (l [(0,168)]) (l [(0,138),(2,173),(4,199)]))) (n 195 z (n 196 (l [(0,143),(0,210)]) (n 197 z (l [(1,243)])))))))) (n 231 (n 214 (n 206 (n 202 (n 200 z (n 201 (l [(0,142),(2,161)]) z)) (n 204 (n 203 z (l [(0,107)])) (n 205 z (l [(0,169)])))) (n 210 (n 208 (n 207 (l [(1,224)]) (l [(0,225)])) z) (n 212 z (n 213 (l [(0,240),(0,247)]) z)))) (n 222 (n 218 (n 216 z (n 217 z (l [(0,228)]))) (n 220 (n 219 (l [(0,227)]) z) z)) (n 226 z (n 228 (n 227 z (l [(0,245)])) z)))) z)))
def QFL:List (Nat×Nat)→Nat→List Nat
 | [],_=>[]
 | (a,b)::r,k=>match Nat.beq a k with |true=>b::QFL r k |false=>QFL r k
def tb:Tab:=⟨fun i=>match Nat.blt i 384 with |true=>fams.get i |false=>default,pfns.get,fnss.get,fun f b=>QFL (QG4.get f) b⟩
end Go.Proofs.YtkecfadnfnnfaaaGreatDoor.LabB
