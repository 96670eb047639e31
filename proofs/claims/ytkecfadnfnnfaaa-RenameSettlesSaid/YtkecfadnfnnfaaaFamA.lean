/- The families of functions and loops of this program: tables, nothing is claimed here. -/
import Derived.Test.YtkecfadnfnnfaaaTabA
import Derived.Test.YtkecfadnfnnfaaaSyC
set_option maxRecDepth 100000
noncomputable section
namespace Go.Proofs.Ytkecfadnfnnfaaa.LabA
open Go Go.Ev Go.Sy
def tGerrorAddressString : Ty := (.pair .str (.int .u64))
def tGVar : Ty := (.pair (.int .i64) .bool)
def tGBranch : Ty := (.pair (.lst (.int .i64)) (.int .i64))
def tGCon : Ty := (.pair .str (.lst (.int .i64)))
def tGboundsError : Ty := (.pair (.int .i64) (.pair (.int .i64) (.pair .bool (.int .u8))))
def tGData : Ty := (.pair .str (.lst tGCon))
def tGform : Ty := (.pair (.int .i64) (.pair .bool (.pair .bool (.pair .bool (.pair .bool (.pair .bool (.pair .bool (.pair .bool .bool))))))))
def tGNode : Ty := (.pair (.int .i64) (.pair (.int .i64) (.pair (.lst (.int .i64)) (.pair (.int .i64) (.pair (.int .i64) (.pair (.int .i64) (.pair (.lst (.int .i64)) (.pair .bool (.pair (.lst tGBranch) (.int .i64))))))))))
def tGFun : Ty := (.pair .str (.pair (.int .i64) (.pair (.int .i64) (.pair (.lst tGVar) (.pair (.lst tGNode) tGVar)))))
def tGwriter : Ty := (.pair tGFun (.pair (.lst (.int .i64)) .bool))
def tGProgram : Ty := (.pair (.lst tGData) (.lst tGFun))
def fam0 : Fam := ⟨0, 3, 0, 0, [(0, (.agg (cellsOf tGFun (.v 0))))], [], [tGFun], [outOf [.bool]], false⟩
def fam1 : Fam := ⟨0, 4, 0, 0, [], [], [], [outOf [.bool]], true⟩
def fam2 : Fam := ⟨0, 5, 0, 0, [(0, (.agg (cellsOf tGFun (.v 0))))], [], [tGFun], [outOf [.bool]], false⟩
def fam3 : Fam := ⟨0, 6, 0, 0, [(0, (.agg (cellsOf tGFun (.v 0))))], [], [tGFun], [outOf [tGFun, (.int .i64)]], false⟩
def fam4 : Fam := ⟨0, 11, 0, 0, [(0, (.agg (cellsOf tGProgram (.v 0))))], [], [tGProgram], [outOf [.bool]], false⟩
def fam5 : Fam := ⟨0, 7, 0, 0, [(0, (.agg (cellsOf tGFun (.v 0))))], [], [tGFun], [outOf [(.lst (.int .i64)), (.lst (.int .i64)), (.int .i64)]], false⟩
def fam6 : Fam := ⟨0, 12, 0, 0, [(0, (.agg (cellsOf tGFun (.v 0))))], [], [tGFun], [outOf [(.lst (.int .i64)), (.lst (.int .i64)), .bool]], false⟩
def fam7 : Fam := ⟨2, 11, 0, 0, [(1, (.ptr 0 (.nn 0) 0)), (24, (.tl tGData (.v 1))), (25, (.ii .i64 (.v 2))), (26, (.ii .i64 (.v 3)))], [.box 2 (some tGProgram) [(cellsOf tGProgram (.v 0))]], [tGProgram, (.lst tGData), (.int .i64), (.int .i64)], [⟨.ret, [(2, (.bb (.v 0)))], [], [(.con (.bl false), .bool)]⟩, ⟨(.exit 0), [(1, (.ptr 0 (.nn 0) 0))], [.box 2 (some tGProgram) [(cellsOf tGProgram (.v 0))]], [(.par 0, tGProgram)]⟩], false⟩
def fam8 : Fam := ⟨0, 8, 0, 0, [(0, (.agg (cellsOf tGFun (.v 0)))), (1, (.agg (cellsOf tGFun (.v 1))))], [], [tGFun, tGFun], [outOf [.bool]], false⟩
def fam9 : Fam := ⟨2, 6, 0, 0, [(1, (.ptr 0 (.nn 0) 0)), (2, (.ptr 1 (.nn 0) 0)), (4, (.tl (.int .i64) (.v 15))), (7, (.ptr 4 (.nn 0) 0)), (44, (.tl (.int .i64) (.v 16))), (45, (.ii .i64 (.v 17))), (46, (.ii .i64 (.v 18)))], [.box 7 (some tGFun) [(cellsOf tGFun (.v 4))], .box 7 (some tGFun) [[(.ss (.v 5)), (.ii .i64 (.v 6)), (.ii .i64 (.v 7)), (.sl 2 (.nn 0) (.o1 (.len tGVar) (.v 0))), (.sl 3 (.nn 0) (.o1 (.len tGNode) (.v 1))), (.ii .i64 (.v 8)), (.bb (.v 9))]], .rows 2 tGVar (.v 0), .rows 10 tGNode (.v 1), .box 7 (some tGFun) [[(.ss (.v 10)), (.ii .i64 (.v 11)), (.ii .i64 (.v 12)), (.sl 5 (.nn 0) (.o1 (.len tGVar) (.v 2))), (.sl 6 (.nn 0) (.o1 (.len tGNode) (.v 3))), (.ii .i64 (.v 13)), (.bb (.v 14))]], .rows 2 tGVar (.v 2), .rows 10 tGNode (.v 3)], [(.lst tGVar), (.lst tGNode), (.lst tGVar), (.lst tGNode), tGFun, .str, (.int .i64), (.int .i64), (.int .i64), .bool, .str, (.int .i64), (.int .i64), (.int .i64), .bool, (.lst (.int .i64)), (.lst (.int .i64)), (.int .i64), (.int .i64)], [⟨(.exit 0), [(1, (.ptr 0 (.nn 0) 0)), (2, (.ptr 1 (.nn 0) 0)), (4, (.tl (.int .i64) (.v 15))), (7, (.ptr 4 (.nn 0) 0))], [.box 7 (some tGFun) [(cellsOf tGFun (.v 4))], .box 7 (some tGFun) [[(.ss (.v 5)), (.ii .i64 (.v 6)), (.ii .i64 (.v 7)), (.sl 2 (.nn 0) (.o1 (.len tGVar) (.v 0))), (.sl 3 (.nn 0) (.o1 (.len tGNode) (.v 1))), (.ii .i64 (.v 8)), (.bb (.v 9))]], .rows 2 tGVar (.v 0), .rows 10 tGNode (.v 1), .box 7 (some tGFun) [[(.ss (.v 10)), (.ii .i64 (.v 11)), (.ii .i64 (.v 12)), (.sl 5 (.nn 0) (.o1 (.len tGVar) (.v 2))), (.sl 6 (.nn 0) (.o1 (.len tGNode) (.v 3))), (.ii .i64 (.v 13)), (.bb (.v 14))]], .rows 2 tGVar (.v 2), .rows 10 tGNode (.v 3)], [(.par 0, (.lst tGVar)), (.par 1, (.lst tGNode)), (.new, (.lst tGVar)), (.par 3, (.lst tGNode)), (.par 4, tGFun), (.par 5, .str), (.par 6, (.int .i64)), (.par 7, (.int .i64)), (.par 8, (.int .i64)), (.par 9, .bool), (.par 10, .str), (.par 11, (.int .i64)), (.par 12, (.int .i64)), (.par 13, (.int .i64)), (.par 14, .bool), (.par 15, (.lst (.int .i64)))]⟩], false⟩
def fam10 : Fam := ⟨2, 7, 0, 0, [(1, (.ptr 0 (.nn 0) 0)), (5, (.tl (.int .i64) (.v 3))), (6, (.tl (.int .i64) (.v 4))), (8, (.sl 1 (.nn 0) (.o1 (.len (.int .i64)) (.v 0)))), (9, (.sl 2 (.nn 0) (.o1 (.len (.int .i64)) (.v 1)))), (33, (.ii .i64 (.v 5))), (34, (.ii .i64 (.v 6)))], [.box 7 (some tGFun) [(cellsOf tGFun (.v 2))], .rows 1 (.int .i64) (.v 0), .rows 1 (.int .i64) (.v 1)], [(.lst (.int .i64)), (.lst (.int .i64)), tGFun, (.lst (.int .i64)), (.lst (.int .i64)), (.int .i64), (.int .i64)], [⟨(.exit 0), [(1, (.ptr 0 (.nn 0) 0)), (5, (.tl (.int .i64) (.v 3))), (6, (.tl (.int .i64) (.v 4))), (8, (.sl 1 (.nn 0) (.o1 (.len (.int .i64)) (.v 0)))), (9, (.sl 2 (.nn 0) (.o1 (.len (.int .i64)) (.v 1))))], [.box 7 (some tGFun) [(cellsOf tGFun (.v 2))], .rows 1 (.int .i64) (.v 0), .rows 1 (.int .i64) (.v 1)], [(.new, (.lst (.int .i64))), (.par 1, (.lst (.int .i64))), (.par 2, tGFun), (.par 3, (.lst (.int .i64))), (.par 4, (.lst (.int .i64)))]⟩], false⟩
def fam11 : Fam := ⟨2, 12, 0, 0, [(1, (.ptr 0 (.nn 0) 0)), (5, (.ptr 1 (.nn 0) 0)), (6, (.ptr 3 (.nn 0) 0)), (7, (.ptr 5 (.nn 0) 0)), (8, (.ptr 7 (.nn 0) 0)), (9, (.ptr 9 (.nn 0) 0)), (42, (.ii .i64 (.v 6))), (43, (.ii .i64 (.v 7)))], [.box 7 (some tGFun) [(cellsOf tGFun (.v 5))], .box 1 (some (.lst (.int .i64))) [[(.sl 2 (.nn 0) (.o1 (.len (.int .i64)) (.v 0)))]], .rows 1 (.int .i64) (.v 0), .box 1 (some (.lst (.int .i64))) [[(.sl 4 (.nn 0) (.o1 (.len (.int .i64)) (.v 1)))]], .rows 1 (.int .i64) (.v 1), .box 1 (some (.lst .bool)) [[(.sl 6 (.nn 0) (.o1 (.len .bool) (.v 2)))]], .rows 1 .bool (.v 2), .box 1 (some (.lst .bool)) [[(.sl 8 (.nn 0) (.o1 (.len .bool) (.v 3)))]], .rows 1 .bool (.v 3), .box 1 (some (.lst .bool)) [[(.sl 10 (.nn 0) (.o1 (.len .bool) (.v 4)))]], .rows 1 .bool (.v 4)], [(.lst (.int .i64)), (.lst (.int .i64)), (.lst .bool), (.lst .bool), (.lst .bool), tGFun, (.int .i64), (.int .i64)], [⟨(.exit 0), [(1, (.ptr 0 (.nn 0) 0)), (5, (.ptr 1 (.nn 0) 0)), (6, (.ptr 3 (.nn 0) 0)), (7, (.ptr 5 (.nn 0) 0)), (8, (.ptr 7 (.nn 0) 0)), (9, (.ptr 9 (.nn 0) 0))], [.box 7 (some tGFun) [(cellsOf tGFun (.v 5))], .box 1 (some (.lst (.int .i64))) [[(.sl 2 (.nn 0) (.o1 (.len (.int .i64)) (.v 0)))]], .rows 1 (.int .i64) (.v 0), .box 1 (some (.lst (.int .i64))) [[(.sl 4 (.nn 0) (.o1 (.len (.int .i64)) (.v 1)))]], .rows 1 (.int .i64) (.v 1), .box 1 (some (.lst .bool)) [[(.sl 6 (.nn 0) (.o1 (.len .bool) (.v 2)))]], .rows 1 .bool (.v 2), .box 1 (some (.lst .bool)) [[(.sl 8 (.nn 0) (.o1 (.len .bool) (.v 3)))]], .rows 1 .bool (.v 3), .box 1 (some (.lst .bool)) [[(.sl 10 (.nn 0) (.o1 (.len .bool) (.v 4)))]], .rows 1 .bool (.v 4)], [(.par 0, (.lst (.int .i64))), (.par 1, (.lst (.int .i64))), (.par 2, (.lst .bool)), (.new, (.lst .bool)), (.new, (.lst .bool)), (.par 5, tGFun)]⟩], false⟩
def fam12 : Fam := ⟨2, 11, 2, 0, [(1, (.ptr 0 (.nn 0) 0)), (24, (.tl tGData (.v 1))), (25, (.ii .i64 (.v 2))), (26, (.ii .i64 (.v 3))), (41, (.tl tGCon (.v 4))), (42, (.ii .i64 (.v 5))), (43, (.ii .i64 (.v 6)))], [.box 2 (some tGProgram) [(cellsOf tGProgram (.v 0))]], [tGProgram, (.lst tGData), (.int .i64), (.int .i64), (.lst tGCon), (.int .i64), (.int .i64)], [⟨.ret, [(2, (.bb (.v 0)))], [], [(.con (.bl false), .bool)]⟩, ⟨(.exit 2), [(1, (.ptr 0 (.nn 0) 0)), (24, (.tl tGData (.v 1))), (25, (.ii .i64 (.v 2))), (26, (.ii .i64 (.v 3)))], [.box 2 (some tGProgram) [(cellsOf tGProgram (.v 0))]], [(.par 0, tGProgram), (.par 1, (.lst tGData)), (.par 2, (.int .i64)), (.par 3, (.int .i64))]⟩], false⟩
def fam13 : Fam := ⟨2, 3, 0, 0, [(7, (.tl (.int .i64) (.v 0))), (8, (.tl (.int .i64) (.v 1))), (10, (.ii .i64 (.v 2)))], [], [(.lst (.int .i64)), (.lst (.int .i64)), (.int .i64)], [⟨.ret, [(2, (.bb (.v 0)))], [], [(.con (.bl false), .bool)]⟩, ⟨(.exit 0), [(8, (.tl (.int .i64) (.v 0)))], [], [(.par 1, (.lst (.int .i64)))]⟩], false⟩
def fam14 : Fam := ⟨2, 11, 4, 0, [(60, (.tl tGFun (.v 0))), (61, (.ii .i64 (.v 1))), (62, (.ii .i64 (.v 2)))], [], [(.lst tGFun), (.int .i64), (.int .i64)], [⟨.ret, [(2, (.bb (.v 0)))], [], [(.con (.bl false), .bool)]⟩, ⟨(.exit 4), [], [], []⟩], false⟩
def fam15 : Fam := ⟨2, 8, 0, 0, [(2, (.ptr 0 (.nn 0) 0)), (3, (.ptr 1 (.nn 0) 0)), (5, (.ii .i64 (.v 2)))], [.box 7 (some tGFun) [(cellsOf tGFun (.v 0))], .box 7 (some tGFun) [(cellsOf tGFun (.v 1))]], [tGFun, tGFun, (.int .i64)], [⟨.ret, [(4, (.bb (.v 0)))], [], [(.con (.bl false), .bool)]⟩, ⟨(.exit 0), [(2, (.ptr 0 (.nn 0) 0)), (3, (.ptr 1 (.nn 0) 0))], [.box 7 (some tGFun) [(cellsOf tGFun (.v 0))], .box 7 (some tGFun) [(cellsOf tGFun (.v 1))]], [(.par 0, tGFun), (.par 1, tGFun)]⟩], false⟩
def fam16 : Fam := ⟨2, 6, 2, 0, [(1, (.ptr 0 (.nn 0) 0)), (2, (.ptr 1 (.nn 0) 0)), (7, (.ptr 4 (.nn 0) 0)), (10, (.tl (.int .i64) (.v 15))), (13, (.tl (.int .i64) (.v 16))), (68, (.tl (.int .i64) (.v 17))), (69, (.ii .i64 (.v 18))), (70, (.ii .i64 (.v 19)))], [.box 7 (some tGFun) [(cellsOf tGFun (.v 4))], .box 7 (some tGFun) [[(.ss (.v 5)), (.ii .i64 (.v 6)), (.ii .i64 (.v 7)), (.sl 2 (.nn 0) (.o1 (.len tGVar) (.v 0))), (.sl 3 (.nn 0) (.o1 (.len tGNode) (.v 1))), (.ii .i64 (.v 8)), (.bb (.v 9))]], .rows 2 tGVar (.v 0), .rows 10 tGNode (.v 1), .box 7 (some tGFun) [[(.ss (.v 10)), (.ii .i64 (.v 11)), (.ii .i64 (.v 12)), (.sl 5 (.nn 0) (.o1 (.len tGVar) (.v 2))), (.sl 6 (.nn 0) (.o1 (.len tGNode) (.v 3))), (.ii .i64 (.v 13)), (.bb (.v 14))]], .rows 2 tGVar (.v 2), .rows 10 tGNode (.v 3)], [(.lst tGVar), (.lst tGNode), (.lst tGVar), (.lst tGNode), tGFun, .str, (.int .i64), (.int .i64), (.int .i64), .bool, .str, (.int .i64), (.int .i64), (.int .i64), .bool, (.lst (.int .i64)), (.lst (.int .i64)), (.lst (.int .i64)), (.int .i64), (.int .i64)], [⟨(.exit 2), [(2, (.ptr 0 (.nn 0) 0)), (7, (.ptr 3 (.nn 0) 0))], [.box 7 (some tGFun) [[(.ss (.v 4)), (.ii .i64 (.v 5)), (.ii .i64 (.v 6)), (.sl 1 (.nn 0) (.o1 (.len tGVar) (.v 0))), (.sl 2 (.nn 0) (.o1 (.len tGNode) (.v 1))), (.ii .i64 (.v 7)), (.bb (.v 8))]], .rows 2 tGVar (.v 0), .rows 10 tGNode (.v 1), .box 7 (some tGFun) [[(.ss (.v 9)), (.ii .i64 (.v 10)), (.ii .i64 (.v 11)), (.sl 4 (.nn 0) (.o1 (.len tGVar) (.v 2))), (.sl 5 (.nn 0) (.o1 (.len tGNode) (.v 3))), (.ii .i64 (.v 12)), (.bb (.v 13))]], .rows 2 tGVar (.v 2), .rows 10 tGNode (.v 3)], [(.par 0, (.lst tGVar)), (.par 1, (.lst tGNode)), (.par 2, (.lst tGVar)), (.new, (.lst tGNode)), (.par 5, .str), (.par 6, (.int .i64)), (.par 7, (.int .i64)), (.par 8, (.int .i64)), (.par 9, .bool), (.par 10, .str), (.par 11, (.int .i64)), (.par 12, (.int .i64)), (.par 13, (.int .i64)), (.par 14, .bool)]⟩], false⟩
def fam17 : Fam := ⟨2, 7, 2, 0, [(1, (.ptr 0 (.nn 0) 0)), (5, (.tl (.int .i64) (.v 3))), (6, (.tl (.int .i64) (.v 4))), (8, (.sl 1 (.nn 0) (.o1 (.len (.int .i64)) (.v 0)))), (9, (.sl 2 (.nn 0) (.o1 (.len (.int .i64)) (.v 1)))), (42, (.ii .i64 (.v 5))), (43, (.ii .i64 (.v 6)))], [.box 7 (some tGFun) [(cellsOf tGFun (.v 2))], .rows 1 (.int .i64) (.v 0), .rows 1 (.int .i64) (.v 1)], [(.lst (.int .i64)), (.lst (.int .i64)), tGFun, (.lst (.int .i64)), (.lst (.int .i64)), (.int .i64), (.int .i64)], [⟨(.exit 2), [(1, (.ptr 0 (.nn 0) 0)), (5, (.tl (.int .i64) (.v 3))), (6, (.tl (.int .i64) (.v 4))), (8, (.sl 1 (.nn 0) (.o1 (.len (.int .i64)) (.v 0)))), (9, (.sl 2 (.nn 0) (.o1 (.len (.int .i64)) (.v 1))))], [.box 7 (some tGFun) [(cellsOf tGFun (.v 2))], .rows 1 (.int .i64) (.v 0), .rows 1 (.int .i64) (.v 1)], [(.par 0, (.lst (.int .i64))), (.new, (.lst (.int .i64))), (.par 2, tGFun), (.par 3, (.lst (.int .i64))), (.par 4, (.lst (.int .i64)))]⟩], false⟩
def fam18 : Fam := ⟨1, 35, 0, 3, [(0, (.ii .i64 (.v 2))), (1, (.ptr 0 (.nn 0) 0)), (2, (.ptr 1 (.nn 0) 0))], [.box 7 (some tGFun) [(cellsOf tGFun (.v 1))], .box 1 (some (.lst .bool)) [[(.sl 2 (.nn 0) (.o1 (.len .bool) (.v 0)))]], .rows 1 .bool (.v 0)], [(.lst .bool), tGFun, (.int .i64)], [⟨.ret, [(0, (.bb (.v 2)))], [.box 7 (some tGFun) [(cellsOf tGFun (.v 1))], .box 1 (some (.lst .bool)) [[(.sl 2 (.nn 0) (.o1 (.len .bool) (.v 0)))]], .rows 1 .bool (.v 0)], [(.new, (.lst .bool)), (.par 1, tGFun), (.new, .bool)]⟩], false⟩
def fam19 : Fam := ⟨2, 11, 6, 0, [(60, (.tl tGFun (.v 0))), (61, (.ii .i64 (.v 1))), (62, (.ii .i64 (.v 2))), (88, (.tl tGNode (.v 3))), (89, (.ii .i64 (.v 4))), (90, (.ii .i64 (.v 5)))], [], [(.lst tGFun), (.int .i64), (.int .i64), (.lst tGNode), (.int .i64), (.int .i64)], [⟨.ret, [(2, (.bb (.v 0)))], [], [(.con (.bl false), .bool)]⟩, ⟨(.exit 6), [(60, (.tl tGFun (.v 0))), (61, (.ii .i64 (.v 1))), (62, (.ii .i64 (.v 2)))], [], [(.par 0, (.lst tGFun)), (.par 1, (.int .i64)), (.par 2, (.int .i64))]⟩], false⟩
def fam20 : Fam := ⟨2, 3, 2, 0, [(8, (.tl (.int .i64) (.v 0))), (11, (.ii .i64 (.v 1)))], [], [(.lst (.int .i64)), (.int .i64)], [⟨.ret, [(2, (.bb (.v 0)))], [], [(.con (.bl false), .bool)]⟩, ⟨(.exit 2), [], [], []⟩], false⟩
def fam21 : Fam := ⟨2, 8, 2, 0, [(2, (.ptr 0 (.nn 0) 0)), (3, (.ptr 1 (.nn 0) 0)), (6, (.ii .i64 (.v 2)))], [.box 7 (some tGFun) [(cellsOf tGFun (.v 0))], .box 7 (some tGFun) [(cellsOf tGFun (.v 1))]], [tGFun, tGFun, (.int .i64)], [⟨(.exit 2), [], [], []⟩, ⟨.ret, [(4, (.bb (.v 0)))], [], [(.con (.bl false), .bool)]⟩], false⟩
def fam22 : Fam := ⟨0, 14, 0, 0, [(0, (.tl (.int .i64) (.v 0))), (1, (.tl (.int .i64) (.v 1)))], [], [(.lst (.int .i64)), (.lst (.int .i64))], [outOf [(.lst (.int .i64))]], false⟩
def fam23 : Fam := ⟨2, 6, 4, 0, [(1, (.ptr 0 (.nn 0) 0)), (2, (.ptr 1 (.nn 0) 0)), (7, (.ptr 4 (.nn 0) 0)), (10, (.tl (.int .i64) (.v 25))), (13, (.tl (.int .i64) (.v 26))), (16, (.ptr 7 (.nn 0) 0)), (68, (.tl (.int .i64) (.v 27))), (69, (.ii .i64 (.v 28))), (70, (.ii .i64 (.v 29))), (138, (.tl tGBranch (.v 30))), (139, (.ii .i64 (.v 31))), (140, (.ii .i64 (.v 32)))], [.box 7 (some tGFun) [(cellsOf tGFun (.v 5))], .box 7 (some tGFun) [[(.ss (.v 6)), (.ii .i64 (.v 7)), (.ii .i64 (.v 8)), (.sl 2 (.nn 0) (.o1 (.len tGVar) (.v 0))), (.sl 3 (.nn 0) (.o1 (.len tGNode) (.v 1))), (.ii .i64 (.v 9)), (.bb (.v 10))]], .rows 2 tGVar (.v 0), .rows 10 tGNode (.v 1), .box 7 (some tGFun) [[(.ss (.v 11)), (.ii .i64 (.v 12)), (.ii .i64 (.v 13)), (.sl 5 (.nn 0) (.o1 (.len tGVar) (.v 2))), (.sl 6 (.nn 0) (.o1 (.len tGNode) (.v 3))), (.ii .i64 (.v 14)), (.bb (.v 15))]], .rows 2 tGVar (.v 2), .rows 10 tGNode (.v 3), .box 10 (some tGNode) [[(.ii .i64 (.v 16)), (.ii .i64 (.v 17)), (.tl (.int .i64) (.v 18)), (.ii .i64 (.v 19)), (.ii .i64 (.v 20)), (.ii .i64 (.v 21)), (.tl (.int .i64) (.v 22)), (.bb (.v 23)), (.sl 8 (.nn 0) (.o1 (.len tGBranch) (.v 4))), (.ii .i64 (.v 24))]], .rows 2 tGBranch (.v 4)], [(.lst tGVar), (.lst tGNode), (.lst tGVar), (.lst tGNode), (.lst tGBranch), tGFun, .str, (.int .i64), (.int .i64), (.int .i64), .bool, .str, (.int .i64), (.int .i64), (.int .i64), .bool, (.int .i64), (.int .i64), (.lst (.int .i64)), (.int .i64), (.int .i64), (.int .i64), (.lst (.int .i64)), .bool, (.int .i64), (.lst (.int .i64)), (.lst (.int .i64)), (.lst (.int .i64)), (.int .i64), (.int .i64), (.lst tGBranch), (.int .i64), (.int .i64)], [⟨(.exit 4), [(1, (.ptr 0 (.nn 0) 0)), (2, (.ptr 1 (.nn 0) 0)), (7, (.ptr 4 (.nn 0) 0)), (10, (.tl (.int .i64) (.v 25))), (13, (.tl (.int .i64) (.v 26))), (16, (.ptr 7 (.nn 0) 0)), (68, (.tl (.int .i64) (.v 27))), (69, (.ii .i64 (.v 28))), (70, (.ii .i64 (.v 29)))], [.box 7 (some tGFun) [(cellsOf tGFun (.v 5))], .box 7 (some tGFun) [[(.ss (.v 6)), (.ii .i64 (.v 7)), (.ii .i64 (.v 8)), (.sl 2 (.nn 0) (.o1 (.len tGVar) (.v 0))), (.sl 3 (.nn 0) (.o1 (.len tGNode) (.v 1))), (.ii .i64 (.v 9)), (.bb (.v 10))]], .rows 2 tGVar (.v 0), .rows 10 tGNode (.v 1), .box 7 (some tGFun) [[(.ss (.v 11)), (.ii .i64 (.v 12)), (.ii .i64 (.v 13)), (.sl 5 (.nn 0) (.o1 (.len tGVar) (.v 2))), (.sl 6 (.nn 0) (.o1 (.len tGNode) (.v 3))), (.ii .i64 (.v 14)), (.bb (.v 15))]], .rows 2 tGVar (.v 2), .rows 10 tGNode (.v 3), .box 10 (some tGNode) [[(.ii .i64 (.v 16)), (.ii .i64 (.v 17)), (.tl (.int .i64) (.v 18)), (.ii .i64 (.v 19)), (.ii .i64 (.v 20)), (.ii .i64 (.v 21)), (.tl (.int .i64) (.v 22)), (.bb (.v 23)), (.sl 8 (.nn 0) (.o1 (.len tGBranch) (.v 4))), (.ii .i64 (.v 24))]], .rows 2 tGBranch (.v 4)], [(.par 0, (.lst tGVar)), (.par 1, (.lst tGNode)), (.par 2, (.lst tGVar)), (.par 3, (.lst tGNode)), (.new, (.lst tGBranch)), (.par 5, tGFun), (.par 6, .str), (.par 7, (.int .i64)), (.par 8, (.int .i64)), (.par 9, (.int .i64)), (.par 10, .bool), (.par 11, .str), (.par 12, (.int .i64)), (.par 13, (.int .i64)), (.par 14, (.int .i64)), (.par 15, .bool), (.par 16, (.int .i64)), (.par 17, (.int .i64)), (.par 18, (.lst (.int .i64))), (.par 19, (.int .i64)), (.par 20, (.int .i64)), (.par 21, (.int .i64)), (.par 22, (.lst (.int .i64))), (.par 23, .bool), (.par 24, (.int .i64)), (.par 25, (.lst (.int .i64))), (.par 26, (.lst (.int .i64))), (.par 27, (.lst (.int .i64))), (.par 28, (.int .i64)), (.par 29, (.int .i64))]⟩], false⟩
def fam24 : Fam := ⟨0, 15, 0, 0, [(0, (.agg (cellsOf tGNode (.v 0))))], [], [tGNode], [outOf [(.lst (.int .i64))]], false⟩
def fam25 : Fam := ⟨2, 11, 8, 0, [(60, (.tl tGFun (.v 0))), (61, (.ii .i64 (.v 1))), (62, (.ii .i64 (.v 2))), (88, (.tl tGNode (.v 3))), (89, (.ii .i64 (.v 4))), (90, (.ii .i64 (.v 5))), (111, (.tl tGBranch (.v 6))), (112, (.ii .i64 (.v 7))), (113, (.ii .i64 (.v 8)))], [], [(.lst tGFun), (.int .i64), (.int .i64), (.lst tGNode), (.int .i64), (.int .i64), (.lst tGBranch), (.int .i64), (.int .i64)], [⟨.ret, [(2, (.bb (.v 0)))], [], [(.con (.bl false), .bool)]⟩, ⟨(.exit 8), [(60, (.tl tGFun (.v 0))), (61, (.ii .i64 (.v 1))), (62, (.ii .i64 (.v 2))), (88, (.tl tGNode (.v 3))), (89, (.ii .i64 (.v 4))), (90, (.ii .i64 (.v 5)))], [], [(.par 0, (.lst tGFun)), (.par 1, (.int .i64)), (.par 2, (.int .i64)), (.par 3, (.lst tGNode)), (.par 4, (.int .i64)), (.par 5, (.int .i64))]⟩], false⟩
def fam26 : Fam := ⟨2, 7, 4, 0, [(1, (.ptr 0 (.nn 0) 0)), (6, (.tl (.int .i64) (.v 3))), (8, (.sl 1 (.nn 0) (.o1 (.len (.int .i64)) (.v 0)))), (9, (.sl 2 (.nn 0) (.o1 (.len (.int .i64)) (.v 1)))), (58, (.tl (.int .i64) (.v 4))), (59, (.ii .i64 (.v 5))), (60, (.ii .i64 (.v 6)))], [.box 7 (some tGFun) [(cellsOf tGFun (.v 2))], .rows 1 (.int .i64) (.v 0), .rows 1 (.int .i64) (.v 1)], [(.lst (.int .i64)), (.lst (.int .i64)), tGFun, (.lst (.int .i64)), (.lst (.int .i64)), (.int .i64), (.int .i64)], [⟨(.exit 4), [(1, (.ptr 0 (.nn 0) 0)), (6, (.tl (.int .i64) (.v 3))), (8, (.sl 1 (.nn 0) (.o1 (.len (.int .i64)) (.v 0)))), (9, (.sl 2 (.nn 0) (.o1 (.len (.int .i64)) (.v 1))))], [.box 7 (some tGFun) [(cellsOf tGFun (.v 2))], .rows 1 (.int .i64) (.v 0), .rows 1 (.int .i64) (.v 1)], [(.new, (.lst (.int .i64))), (.par 1, (.lst (.int .i64))), (.par 2, tGFun), (.par 3, (.lst (.int .i64)))]⟩], false⟩
def fam27 : Fam := ⟨1, 38, 0, 16, [(0, (.ii .i64 (.v 7))), (1, (.ptr 0 (.nn 0) 0)), (2, (.ptr 1 (.nn 0) 0)), (3, (.ptr 3 (.nn 0) 0)), (4, (.ptr 5 (.nn 0) 0)), (5, (.ptr 6 (.nn 0) 0)), (6, (.ptr 9 (.nn 0) 0)), (7, (.ptr 14 (.nn 0) 0)), (8, (.ptr 15 (.nn 0) 0))], [.box 7 (some tGFun) [(cellsOf tGFun (.v 5))], .box 1 (some (.lst (.int .i64))) [[(.sl 2 (.nn 0) (.o1 (.len (.int .i64)) (.v 0)))]], .rows 1 (.int .i64) (.v 0), .box 1 (some (.lst .bool)) [[(.sl 4 (.nn 0) (.o1 (.len .bool) (.v 1)))]], .rows 1 .bool (.v 1), .box 1 (some .bool) [[(.bb (.v 6))]], .box 1 none [[(.fn 35 [(.ptr 0 (.nn 0) 0), (.ptr 7 (.nn 0) 0)])]], .box 1 (some (.lst .bool)) [[(.sl 8 (.nn 0) (.o1 (.len .bool) (.v 2)))]], .rows 1 .bool (.v 2), .box 1 none [[(.fn 36 [(.ptr 0 (.nn 0) 0), (.ptr 10 (.nn 0) 0), (.ptr 3 (.nn 0) 0), (.ptr 12 (.nn 0) 0)])]], .box 1 (some (.lst .bool)) [[(.sl 11 (.nn 0) (.o1 (.len .bool) (.v 3)))]], .rows 1 .bool (.v 3), .box 1 (some (.lst (.int .i64))) [[(.sl 13 (.nn 0) (.o1 (.len (.int .i64)) (.v 4)))]], .rows 1 (.int .i64) (.v 4), .box 1 none [[(.fn 38 [(.ptr 0 (.nn 0) 0), (.ptr 1 (.nn 0) 0), (.ptr 3 (.nn 0) 0), (.ptr 5 (.nn 0) 0), (.ptr 6 (.nn 0) 0), (.ptr 9 (.nn 0) 0), (.ptr 14 (.nn 0) 0), (.ptr 15 (.nn 0) 0)])]], .box 1 none [[(.fn 37 [(.ptr 3 (.nn 0) 0)])]]], [(.lst (.int .i64)), (.lst .bool), (.lst .bool), (.lst .bool), (.lst (.int .i64)), tGFun, .bool, (.int .i64)], [⟨.ret, [(0, (.tup []))], [.box 7 (some tGFun) [(cellsOf tGFun (.v 5))], .box 1 (some (.lst (.int .i64))) [[(.sl 16 (.nn 0) (.o1 (.len (.int .i64)) (.v 0)))]], .dead, .box 1 (some (.lst .bool)) [[(.sl 17 (.nn 0) (.o1 (.len .bool) (.v 1)))]], .dead, .box 1 (some .bool) [[(.bb (.v 6))]], .box 1 none [[(.fn 35 [(.ptr 0 (.nn 0) 0), (.ptr 7 (.nn 0) 0)])]], .box 1 (some (.lst .bool)) [[(.sl 18 (.nn 0) (.o1 (.len .bool) (.v 2)))]], .dead, .box 1 none [[(.fn 36 [(.ptr 0 (.nn 0) 0), (.ptr 10 (.nn 0) 0), (.ptr 3 (.nn 0) 0), (.ptr 12 (.nn 0) 0)])]], .box 1 (some (.lst .bool)) [[(.sl 19 (.nn 0) (.o1 (.len .bool) (.v 3)))]], .dead, .box 1 (some (.lst (.int .i64))) [[(.sl 20 (.nn 0) (.o1 (.len (.int .i64)) (.v 4)))]], .dead, .box 1 none [[(.fn 38 [(.ptr 0 (.nn 0) 0), (.ptr 1 (.nn 0) 0), (.ptr 3 (.nn 0) 0), (.ptr 5 (.nn 0) 0), (.ptr 6 (.nn 0) 0), (.ptr 9 (.nn 0) 0), (.ptr 14 (.nn 0) 0), (.ptr 15 (.nn 0) 0)])]], .box 1 none [[(.fn 37 [(.ptr 3 (.nn 0) 0)])]], .rows 1 (.int .i64) (.v 0), .rows 1 .bool (.v 1), .rows 1 .bool (.v 2), .rows 1 .bool (.v 3), .rows 1 (.int .i64) (.v 4)], [(.new, (.lst (.int .i64))), (.new, (.lst .bool)), (.new, (.lst .bool)), (.new, (.lst .bool)), (.new, (.lst (.int .i64))), (.par 5, tGFun), (.new, .bool)]⟩], false⟩
def fam28 : Fam := ⟨0, 16, 0, 0, [(0, (.agg (cellsOf tGNode (.v 0))))], [], [tGNode], [outOf [(.lst (.int .i64))]], false⟩
def fam29 : Fam := ⟨0, 19, 0, 0, [(0, (.agg (cellsOf tGNode (.v 0)))), (1, (.agg (cellsOf tGNode (.v 1))))], [], [tGNode, tGNode], [outOf [.bool]], false⟩
def fam30 : Fam := ⟨2, 14, 0, 0, [(0, (.tl (.int .i64) (.v 1))), (5, (.sl 0 (.nn 0) (.o1 (.len (.int .i64)) (.v 0)))), (8, (.tl (.int .i64) (.v 2))), (9, (.ii .i64 (.v 3))), (10, (.ii .i64 (.v 4)))], [.rows 1 (.int .i64) (.v 0)], [(.lst (.int .i64)), (.lst (.int .i64)), (.lst (.int .i64)), (.int .i64), (.int .i64)], [⟨(.exit 0), [(5, (.sl 0 (.nn 0) (.o1 (.len (.int .i64)) (.v 0))))], [.rows 1 (.int .i64) (.v 0)], [(.new, (.lst (.int .i64)))]⟩], false⟩
def fam31 : Fam := ⟨0, 40, 0, 0, [(0, (.ii .i64 (.v 0)))], [], [(.int .i64)], [outOf [tGform, .bool]], false⟩
def fam32 : Fam := ⟨0, 17, 0, 0, [(0, (.tl tGBranch (.v 0)))], [], [(.lst tGBranch)], [outOf [(.lst tGBranch)]], false⟩
def fam33 : Fam := ⟨2, 15, 0, 0, [(5, (.sl 0 (.nn 0) (.o1 (.len (.int .i64)) (.v 0)))), (24, (.tl tGBranch (.v 1))), (25, (.ii .i64 (.v 2))), (26, (.ii .i64 (.v 3)))], [.rows 1 (.int .i64) (.v 0)], [(.lst (.int .i64)), (.lst tGBranch), (.int .i64), (.int .i64)], [⟨(.exit 0), [(5, (.sl 0 (.nn 0) (.o1 (.len (.int .i64)) (.v 0))))], [.rows 1 (.int .i64) (.v 0)], [(.new, (.lst (.int .i64)))]⟩], false⟩
def fam34 : Fam := ⟨0, 39, 0, 0, [(0, (.agg (cellsOf tGNode (.v 0))))], [], [tGNode], [outOf [(.lst (.int .i64))]], false⟩
def fam35 : Fam := ⟨2, 16, 0, 0, [(5, (.sl 0 (.nn 0) (.o1 (.len (.int .i64)) (.v 0)))), (24, (.tl tGBranch (.v 1))), (25, (.ii .i64 (.v 2))), (26, (.ii .i64 (.v 3)))], [.rows 1 (.int .i64) (.v 0)], [(.lst (.int .i64)), (.lst tGBranch), (.int .i64), (.int .i64)], [⟨(.exit 0), [(5, (.sl 0 (.nn 0) (.o1 (.len (.int .i64)) (.v 0))))], [.rows 1 (.int .i64) (.v 0)], [(.new, (.lst (.int .i64)))]⟩], false⟩
def fam36 : Fam := ⟨0, 10, 0, 0, [(0, (.tl (.int .i64) (.v 0))), (1, (.tl (.int .i64) (.v 1)))], [], [(.lst (.int .i64)), (.lst (.int .i64))], [outOf [.bool]], false⟩
def fam37 : Fam := ⟨3, 45, 0, 0, [], [], [], [⟨.ret, [(0, (.agg [(.ii .i64 (.v 0)), (.bb (.v 1)), (.bb (.v 2)), (.bb (.v 3)), (.bb (.v 4)), (.bb (.v 5)), (.bb (.v 6)), (.bb (.v 7)), (.bb (.v 8)), (.ii .i64 (.v 9)), (.bb (.v 10)), (.bb (.v 11)), (.bb (.v 12)), (.bb (.v 13)), (.bb (.v 14)), (.bb (.v 15)), (.bb (.v 16)), (.bb (.v 17)), (.ii .i64 (.v 18)), (.bb (.v 19)), (.bb (.v 20)), (.bb (.v 21)), (.bb (.v 22)), (.bb (.v 23)), (.bb (.v 24)), (.bb (.v 25)), (.bb (.v 26)), (.ii .i64 (.v 27)), (.bb (.v 28)), (.bb (.v 29)), (.bb (.v 30)), (.bb (.v 31)), (.bb (.v 32)), (.bb (.v 33)), (.bb (.v 34)), (.bb (.v 35)), (.ii .i64 (.v 36)), (.bb (.v 37)), (.bb (.v 38)), (.bb (.v 39)), (.bb (.v 40)), (.bb (.v 41)), (.bb (.v 42)), (.bb (.v 43)), (.bb (.v 44)), (.ii .i64 (.v 45)), (.bb (.v 46)), (.bb (.v 47)), (.bb (.v 48)), (.bb (.v 49)), (.bb (.v 50)), (.bb (.v 51)), (.bb (.v 52)), (.bb (.v 53)), (.ii .i64 (.v 54)), (.bb (.v 55)), (.bb (.v 56)), (.bb (.v 57)), (.bb (.v 58)), (.bb (.v 59)), (.bb (.v 60)), (.bb (.v 61)), (.bb (.v 62)), (.ii .i64 (.v 63)), (.bb (.v 64)), (.bb (.v 65)), (.bb (.v 66)), (.bb (.v 67)), (.bb (.v 68)), (.bb (.v 69)), (.bb (.v 70)), (.bb (.v 71)), (.ii .i64 (.v 72)), (.bb (.v 73)), (.bb (.v 74)), (.bb (.v 75)), (.bb (.v 76)), (.bb (.v 77)), (.bb (.v 78)), (.bb (.v 79)), (.bb (.v 80)), (.ii .i64 (.v 81)), (.bb (.v 82)), (.bb (.v 83)), (.bb (.v 84)), (.bb (.v 85)), (.bb (.v 86)), (.bb (.v 87)), (.bb (.v 88)), (.bb (.v 89))]))], [], [(.con (.il 1), (.int .i64)), (.con (.bl false), .bool), (.con (.bl false), .bool), (.con (.bl false), .bool), (.con (.bl false), .bool), (.con (.bl false), .bool), (.con (.bl false), .bool), (.con (.bl false), .bool), (.con (.bl false), .bool), (.con (.il 0), (.int .i64)), (.con (.bl true), .bool), (.con (.bl false), .bool), (.con (.bl true), .bool), (.con (.bl false), .bool), (.con (.bl false), .bool), (.con (.bl false), .bool), (.con (.bl true), .bool), (.con (.bl false), .bool), (.con (.il 2), (.int .i64)), (.con (.bl true), .bool), (.con (.bl false), .bool), (.con (.bl true), .bool), (.con (.bl false), .bool), (.con (.bl false), .bool), (.con (.bl false), .bool), (.con (.bl true), .bool), (.con (.bl false), .bool), (.con (.il (-1)), (.int .i64)), (.con (.bl true), .bool), (.con (.bl true), .bool), (.con (.bl false), .bool), (.con (.bl false), .bool), (.con (.bl false), .bool), (.con (.bl false), .bool), (.con (.bl true), .bool), (.con (.bl false), .bool), (.con (.il 1), (.int .i64)), (.con (.bl true), .bool), (.con (.bl false), .bool), (.con (.bl false), .bool), (.con (.bl false), .bool), (.con (.bl false), .bool), (.con (.bl false), .bool), (.con (.bl true), .bool), (.con (.bl false), .bool), (.con (.il 1), (.int .i64)), (.con (.bl false), .bool), (.con (.bl false), .bool), (.con (.bl false), .bool), (.con (.bl false), .bool), (.con (.bl false), .bool), (.con (.bl false), .bool), (.con (.bl true), .bool), (.con (.bl false), .bool), (.con (.il (-1)), (.int .i64)), (.con (.bl true), .bool), (.con (.bl false), .bool), (.con (.bl false), .bool), (.con (.bl true), .bool), (.con (.bl false), .bool), (.con (.bl false), .bool), (.con (.bl true), .bool), (.con (.bl false), .bool), (.con (.il (-1)), (.int .i64)), (.con (.bl false), .bool), (.con (.bl false), .bool), (.con (.bl false), .bool), (.con (.bl true), .bool), (.con (.bl false), .bool), (.con (.bl false), .bool), (.con (.bl false), .bool), (.con (.bl false), .bool), (.con (.il (-1)), (.int .i64)), (.con (.bl false), .bool), (.con (.bl true), .bool), (.con (.bl true), .bool), (.con (.bl true), .bool), (.con (.bl true), .bool), (.con (.bl false), .bool), (.con (.bl false), .bool), (.con (.bl false), .bool), (.con (.il 1), (.int .i64)), (.con (.bl false), .bool), (.con (.bl false), .bool), (.con (.bl false), .bool), (.con (.bl false), .bool), (.con (.bl false), .bool), (.con (.bl true), .bool), (.con (.bl false), .bool), (.con (.bl true), .bool)]⟩], false⟩
def fam38 : Fam := ⟨2, 7, 6, 0, [(1, (.ptr 0 (.nn 0) 0)), (8, (.sl 1 (.nn 0) (.o1 (.len (.int .i64)) (.v 0)))), (9, (.sl 2 (.nn 0) (.o1 (.len (.int .i64)) (.v 1)))), (70, (.tl (.int .i64) (.v 3))), (71, (.ii .i64 (.v 4))), (72, (.ii .i64 (.v 5)))], [.box 7 (some tGFun) [(cellsOf tGFun (.v 2))], .rows 1 (.int .i64) (.v 0), .rows 1 (.int .i64) (.v 1)], [(.lst (.int .i64)), (.lst (.int .i64)), tGFun, (.lst (.int .i64)), (.int .i64), (.int .i64)], [⟨(.exit 6), [(8, (.sl 0 (.nn 0) (.o1 (.len (.int .i64)) (.v 0)))), (9, (.sl 1 (.nn 0) (.o1 (.len (.int .i64)) (.v 1))))], [.rows 1 (.int .i64) (.v 0), .rows 1 (.int .i64) (.v 1)], [(.par 0, (.lst (.int .i64))), (.new, (.lst (.int .i64)))]⟩], false⟩
def fam39 : Fam := ⟨2, 38, 0, 16, [(1, (.ptr 0 (.nn 0) 0)), (3, (.ptr 3 (.nn 0) 0)), (4, (.ptr 5 (.nn 0) 0)), (5, (.ptr 6 (.nn 0) 0)), (6, (.ptr 9 (.nn 0) 0)), (7, (.ptr 14 (.nn 0) 0)), (8, (.ptr 15 (.nn 0) 0)), (10, (.ptr 21 (.nn 0) 0)), (26, (.tl (.int .i64) (.v 8))), (27, (.ii .i64 (.v 9))), (28, (.ii .i64 (.v 10)))], [.box 7 (some tGFun) [(cellsOf tGFun (.v 5))], .box 1 (some (.lst (.int .i64))) [[(.sl 16 (.nn 0) (.o1 (.len (.int .i64)) (.v 0)))]], .dead, .box 1 (some (.lst .bool)) [[(.sl 17 (.nn 0) (.o1 (.len .bool) (.v 1)))]], .dead, .box 1 (some .bool) [[(.bb (.v 6))]], .box 1 none [[(.fn 35 [(.ptr 0 (.nn 0) 0), (.ptr 7 (.nn 0) 0)])]], .box 1 (some (.lst .bool)) [[(.sl 18 (.nn 0) (.o1 (.len .bool) (.v 2)))]], .dead, .box 1 none [[(.fn 36 [(.ptr 0 (.nn 0) 0), (.ptr 10 (.nn 0) 0), (.ptr 3 (.nn 0) 0), (.ptr 12 (.nn 0) 0)])]], .box 1 (some (.lst .bool)) [[(.sl 19 (.nn 0) (.o1 (.len .bool) (.v 3)))]], .dead, .box 1 (some (.lst (.int .i64))) [[(.sl 20 (.nn 0) (.o1 (.len (.int .i64)) (.v 4)))]], .dead, .box 1 none [[(.fn 38 [(.ptr 0 (.nn 0) 0), (.ptr 1 (.nn 0) 0), (.ptr 3 (.nn 0) 0), (.ptr 5 (.nn 0) 0), (.ptr 6 (.nn 0) 0), (.ptr 9 (.nn 0) 0), (.ptr 14 (.nn 0) 0), (.ptr 15 (.nn 0) 0)])]], .box 1 none [[(.fn 37 [(.ptr 3 (.nn 0) 0)])]], .rows 1 (.int .i64) (.v 0), .rows 1 .bool (.v 1), .rows 1 .bool (.v 2), .rows 1 .bool (.v 3), .rows 1 (.int .i64) (.v 4), .box 10 (some tGNode) [(cellsOf tGNode (.v 7))]], [(.lst (.int .i64)), (.lst .bool), (.lst .bool), (.lst .bool), (.lst (.int .i64)), tGFun, .bool, tGNode, (.lst (.int .i64)), (.int .i64), (.int .i64)], [⟨.ret, [], [.box 7 (some tGFun) [(cellsOf tGFun (.v 5))], .box 1 (some (.lst (.int .i64))) [[(.sl 16 (.nn 0) (.o1 (.len (.int .i64)) (.v 0)))]], .dead, .box 1 (some (.lst .bool)) [[(.sl 17 (.nn 0) (.o1 (.len .bool) (.v 1)))]], .dead, .box 1 (some .bool) [[(.bb (.v 6))]], .box 1 none [[(.fn 35 [(.ptr 0 (.nn 0) 0), (.ptr 7 (.nn 0) 0)])]], .box 1 (some (.lst .bool)) [[(.sl 18 (.nn 0) (.o1 (.len .bool) (.v 2)))]], .dead, .box 1 none [[(.fn 36 [(.ptr 0 (.nn 0) 0), (.ptr 10 (.nn 0) 0), (.ptr 3 (.nn 0) 0), (.ptr 12 (.nn 0) 0)])]], .box 1 (some (.lst .bool)) [[(.sl 19 (.nn 0) (.o1 (.len .bool) (.v 3)))]], .dead, .box 1 (some (.lst (.int .i64))) [[(.sl 20 (.nn 0) (.o1 (.len (.int .i64)) (.v 4)))]], .dead, .box 1 none [[(.fn 38 [(.ptr 0 (.nn 0) 0), (.ptr 1 (.nn 0) 0), (.ptr 3 (.nn 0) 0), (.ptr 5 (.nn 0) 0), (.ptr 6 (.nn 0) 0), (.ptr 9 (.nn 0) 0), (.ptr 14 (.nn 0) 0), (.ptr 15 (.nn 0) 0)])]], .box 1 none [[(.fn 37 [(.ptr 3 (.nn 0) 0)])]], .rows 1 (.int .i64) (.v 0), .rows 1 .bool (.v 1), .rows 1 .bool (.v 2), .rows 1 .bool (.v 3), .rows 1 (.int .i64) (.v 4)], [(.par 0, (.lst (.int .i64))), (.par 1, (.lst .bool)), (.par 2, (.lst .bool)), (.par 3, (.lst .bool)), (.par 4, (.lst (.int .i64))), (.par 5, tGFun), (.con (.bl false), .bool)]⟩, ⟨(.exit 0), [(4, (.ptr 5 (.nn 0) 0)), (5, (.ptr 6 (.nn 0) 0)), (6, (.ptr 9 (.nn 0) 0)), (7, (.ptr 14 (.nn 0) 0)), (8, (.ptr 15 (.nn 0) 0)), (10, (.ptr 21 (.nn 0) 0))], [.box 7 (some tGFun) [(cellsOf tGFun (.v 5))], .box 1 (some (.lst (.int .i64))) [[(.sl 16 (.nn 0) (.o1 (.len (.int .i64)) (.v 0)))]], .dead, .box 1 (some (.lst .bool)) [[(.sl 17 (.nn 0) (.o1 (.len .bool) (.v 1)))]], .dead, .box 1 (some .bool) [[(.bb (.v 6))]], .box 1 none [[(.fn 35 [(.ptr 0 (.nn 0) 0), (.ptr 7 (.nn 0) 0)])]], .box 1 (some (.lst .bool)) [[(.sl 18 (.nn 0) (.o1 (.len .bool) (.v 2)))]], .dead, .box 1 none [[(.fn 36 [(.ptr 0 (.nn 0) 0), (.ptr 10 (.nn 0) 0), (.ptr 3 (.nn 0) 0), (.ptr 12 (.nn 0) 0)])]], .box 1 (some (.lst .bool)) [[(.sl 19 (.nn 0) (.o1 (.len .bool) (.v 3)))]], .dead, .box 1 (some (.lst (.int .i64))) [[(.sl 20 (.nn 0) (.o1 (.len (.int .i64)) (.v 4)))]], .dead, .box 1 none [[(.fn 38 [(.ptr 0 (.nn 0) 0), (.ptr 1 (.nn 0) 0), (.ptr 3 (.nn 0) 0), (.ptr 5 (.nn 0) 0), (.ptr 6 (.nn 0) 0), (.ptr 9 (.nn 0) 0), (.ptr 14 (.nn 0) 0), (.ptr 15 (.nn 0) 0)])]], .box 1 none [[(.fn 37 [(.ptr 3 (.nn 0) 0)])]], .rows 1 (.int .i64) (.v 0), .rows 1 .bool (.v 1), .rows 1 .bool (.v 2), .rows 1 .bool (.v 3), .rows 1 (.int .i64) (.v 4), .box 10 (some tGNode) [(cellsOf tGNode (.v 7))]], [(.par 0, (.lst (.int .i64))), (.par 1, (.lst .bool)), (.par 2, (.lst .bool)), (.par 3, (.lst .bool)), (.par 4, (.lst (.int .i64))), (.par 5, tGFun), (.par 6, .bool), (.par 7, tGNode)]⟩], false⟩
def fam40 : Fam := ⟨2, 19, 0, 0, [(2, (.ptr 0 (.nn 0) 0)), (3, (.ptr 1 (.nn 0) 0)), (5, (.ii .i64 (.v 2)))], [.box 10 (some tGNode) [(cellsOf tGNode (.v 0))], .box 10 (some tGNode) [(cellsOf tGNode (.v 1))]], [tGNode, tGNode, (.int .i64)], [⟨.ret, [(4, (.bb (.v 0)))], [], [(.con (.bl false), .bool)]⟩, ⟨(.exit 0), [], [], []⟩], false⟩
def fam41 : Fam := ⟨2, 17, 0, 0, [(3, (.sl 0 (.nn 0) (.o1 (.len tGBranch) (.v 0)))), (6, (.tl tGBranch (.v 1))), (7, (.ii .i64 (.v 2))), (8, (.ii .i64 (.v 3)))], [.rows 2 tGBranch (.v 0)], [(.lst tGBranch), (.lst tGBranch), (.int .i64), (.int .i64)], [⟨(.exit 0), [(3, (.sl 0 (.nn 0) (.o1 (.len tGBranch) (.v 0))))], [.rows 2 tGBranch (.v 0)], [(.new, (.lst tGBranch))]⟩], false⟩
def fam42 : Fam := ⟨2, 39, 0, 0, [(5, (.sl 0 (.nn 0) (.o1 (.len (.int .i64)) (.v 0)))), (32, (.sl 1 (.nn 0) (.o1 (.len (.int .i64)) (.v 1)))), (33, (.ii .i64 (.v 2))), (34, (.ii .i64 (.v 3)))], [.rows 1 (.int .i64) (.v 0), .rows 1 (.int .i64) (.v 1)], [(.lst (.int .i64)), (.lst (.int .i64)), (.int .i64), (.int .i64)], [⟨(.exit 0), [(5, (.sl 0 (.nn 0) (.o1 (.len (.int .i64)) (.v 0))))], [.rows 1 (.int .i64) (.v 0)], [(.new, (.lst (.int .i64)))]⟩], false⟩
def fam43 : Fam := ⟨2, 10, 0, 0, [(0, (.tl (.int .i64) (.v 0))), (1, (.tl (.int .i64) (.v 1))), (5, (.ii .i64 (.v 2)))], [], [(.lst (.int .i64)), (.lst (.int .i64)), (.int .i64)], [⟨.ret, [(4, (.bb (.v 0)))], [], [(.con (.bl false), .bool)]⟩, ⟨(.exit 0), [], [], []⟩], false⟩
def fam44 : Fam := ⟨2, 38, 2, 16, [(4, (.ptr 5 (.nn 0) 0)), (5, (.ptr 6 (.nn 0) 0)), (6, (.ptr 9 (.nn 0) 0)), (7, (.ptr 14 (.nn 0) 0)), (8, (.ptr 15 (.nn 0) 0)), (10, (.ptr 21 (.nn 0) 0)), (50, (.tl (.int .i64) (.v 8))), (51, (.ii .i64 (.v 9))), (52, (.ii .i64 (.v 10)))], [.box 7 (some tGFun) [(cellsOf tGFun (.v 5))], .box 1 (some (.lst (.int .i64))) [[(.sl 16 (.nn 0) (.o1 (.len (.int .i64)) (.v 0)))]], .dead, .box 1 (some (.lst .bool)) [[(.sl 17 (.nn 0) (.o1 (.len .bool) (.v 1)))]], .dead, .box 1 (some .bool) [[(.bb (.v 6))]], .box 1 none [[(.fn 35 [(.ptr 0 (.nn 0) 0), (.ptr 7 (.nn 0) 0)])]], .box 1 (some (.lst .bool)) [[(.sl 18 (.nn 0) (.o1 (.len .bool) (.v 2)))]], .dead, .box 1 none [[(.fn 36 [(.ptr 0 (.nn 0) 0), (.ptr 10 (.nn 0) 0), (.ptr 3 (.nn 0) 0), (.ptr 12 (.nn 0) 0)])]], .box 1 (some (.lst .bool)) [[(.sl 19 (.nn 0) (.o1 (.len .bool) (.v 3)))]], .dead, .box 1 (some (.lst (.int .i64))) [[(.sl 20 (.nn 0) (.o1 (.len (.int .i64)) (.v 4)))]], .dead, .box 1 none [[(.fn 38 [(.ptr 0 (.nn 0) 0), (.ptr 1 (.nn 0) 0), (.ptr 3 (.nn 0) 0), (.ptr 5 (.nn 0) 0), (.ptr 6 (.nn 0) 0), (.ptr 9 (.nn 0) 0), (.ptr 14 (.nn 0) 0), (.ptr 15 (.nn 0) 0)])]], .box 1 none [[(.fn 37 [(.ptr 3 (.nn 0) 0)])]], .rows 1 (.int .i64) (.v 0), .rows 1 .bool (.v 1), .rows 1 .bool (.v 2), .rows 1 .bool (.v 3), .rows 1 (.int .i64) (.v 4), .box 10 (some tGNode) [(cellsOf tGNode (.v 7))]], [(.lst (.int .i64)), (.lst .bool), (.lst .bool), (.lst .bool), (.lst (.int .i64)), tGFun, .bool, tGNode, (.lst (.int .i64)), (.int .i64), (.int .i64)], [⟨.ret, [], [.box 7 (some tGFun) [(cellsOf tGFun (.v 5))], .box 1 (some (.lst (.int .i64))) [[(.sl 16 (.nn 0) (.o1 (.len (.int .i64)) (.v 0)))]], .dead, .box 1 (some (.lst .bool)) [[(.sl 17 (.nn 0) (.o1 (.len .bool) (.v 1)))]], .dead, .box 1 (some .bool) [[(.bb (.v 6))]], .box 1 none [[(.fn 35 [(.ptr 0 (.nn 0) 0), (.ptr 7 (.nn 0) 0)])]], .box 1 (some (.lst .bool)) [[(.sl 18 (.nn 0) (.o1 (.len .bool) (.v 2)))]], .dead, .box 1 none [[(.fn 36 [(.ptr 0 (.nn 0) 0), (.ptr 10 (.nn 0) 0), (.ptr 3 (.nn 0) 0), (.ptr 12 (.nn 0) 0)])]], .box 1 (some (.lst .bool)) [[(.sl 19 (.nn 0) (.o1 (.len .bool) (.v 3)))]], .dead, .box 1 (some (.lst (.int .i64))) [[(.sl 20 (.nn 0) (.o1 (.len (.int .i64)) (.v 4)))]], .dead, .box 1 none [[(.fn 38 [(.ptr 0 (.nn 0) 0), (.ptr 1 (.nn 0) 0), (.ptr 3 (.nn 0) 0), (.ptr 5 (.nn 0) 0), (.ptr 6 (.nn 0) 0), (.ptr 9 (.nn 0) 0), (.ptr 14 (.nn 0) 0), (.ptr 15 (.nn 0) 0)])]], .box 1 none [[(.fn 37 [(.ptr 3 (.nn 0) 0)])]], .rows 1 (.int .i64) (.v 0), .rows 1 .bool (.v 1), .rows 1 .bool (.v 2), .rows 1 .bool (.v 3), .rows 1 (.int .i64) (.v 4)], [(.new, (.lst (.int .i64))), (.new, (.lst .bool)), (.new, (.lst .bool)), (.new, (.lst .bool)), (.new, (.lst (.int .i64))), (.par 5, tGFun), (.new, .bool)]⟩, ⟨(.exit 2), [], [.box 7 (some tGFun) [(cellsOf tGFun (.v 5))], .box 1 (some (.lst (.int .i64))) [[(.sl 16 (.nn 0) (.o1 (.len (.int .i64)) (.v 0)))]], .dead, .box 1 (some (.lst .bool)) [[(.sl 17 (.nn 0) (.o1 (.len .bool) (.v 1)))]], .dead, .box 1 (some .bool) [[(.bb (.v 6))]], .box 1 none [[(.fn 35 [(.ptr 0 (.nn 0) 0), (.ptr 7 (.nn 0) 0)])]], .box 1 (some (.lst .bool)) [[(.sl 18 (.nn 0) (.o1 (.len .bool) (.v 2)))]], .dead, .box 1 none [[(.fn 36 [(.ptr 0 (.nn 0) 0), (.ptr 10 (.nn 0) 0), (.ptr 3 (.nn 0) 0), (.ptr 12 (.nn 0) 0)])]], .box 1 (some (.lst .bool)) [[(.sl 19 (.nn 0) (.o1 (.len .bool) (.v 3)))]], .dead, .box 1 (some (.lst (.int .i64))) [[(.sl 20 (.nn 0) (.o1 (.len (.int .i64)) (.v 4)))]], .dead, .box 1 none [[(.fn 38 [(.ptr 0 (.nn 0) 0), (.ptr 1 (.nn 0) 0), (.ptr 3 (.nn 0) 0), (.ptr 5 (.nn 0) 0), (.ptr 6 (.nn 0) 0), (.ptr 9 (.nn 0) 0), (.ptr 14 (.nn 0) 0), (.ptr 15 (.nn 0) 0)])]], .box 1 none [[(.fn 37 [(.ptr 3 (.nn 0) 0)])]], .rows 1 (.int .i64) (.v 0), .rows 1 .bool (.v 1), .rows 1 .bool (.v 2), .rows 1 .bool (.v 3), .rows 1 (.int .i64) (.v 4)], [(.new, (.lst (.int .i64))), (.new, (.lst .bool)), (.new, (.lst .bool)), (.new, (.lst .bool)), (.new, (.lst (.int .i64))), (.par 5, tGFun), (.new, .bool)]⟩], false⟩
def fam45 : Fam := ⟨1, 36, 0, 7, [(0, (.tl (.int .i64) (.v 4))), (1, (.ptr 0 (.nn 0) 0)), (2, (.ptr 1 (.nn 0) 0)), (3, (.ptr 3 (.nn 0) 0)), (4, (.ptr 5 (.nn 0) 0))], [.box 7 (some tGFun) [(cellsOf tGFun (.v 3))], .box 1 (some (.lst .bool)) [[(.sl 2 (.nn 0) (.o1 (.len .bool) (.v 0)))]], .rows 1 .bool (.v 0), .box 1 (some (.lst .bool)) [[(.sl 4 (.nn 0) (.o1 (.len .bool) (.v 1)))]], .rows 1 .bool (.v 1), .box 1 (some (.lst (.int .i64))) [[(.sl 6 (.nn 0) (.o1 (.len (.int .i64)) (.v 2)))]], .rows 1 (.int .i64) (.v 2)], [(.lst .bool), (.lst .bool), (.lst (.int .i64)), tGFun, (.lst (.int .i64))], [⟨.ret, [(0, (.bb (.v 4)))], [.box 7 (some tGFun) [(cellsOf tGFun (.v 3))], .box 1 (some (.lst .bool)) [[(.sl 7 (.nn 0) (.o1 (.len .bool) (.v 0)))]], .dead, .box 1 (some (.lst .bool)) [[(.sl 8 (.nn 0) (.o1 (.len .bool) (.v 1)))]], .dead, .box 1 (some (.lst (.int .i64))) [[(.sl 9 (.nn 0) (.o1 (.len (.int .i64)) (.v 2)))]], .dead, .rows 1 .bool (.v 0), .rows 1 .bool (.v 1), .rows 1 (.int .i64) (.v 2)], [(.new, (.lst .bool)), (.new, (.lst .bool)), (.new, (.lst (.int .i64))), (.par 3, tGFun), (.new, .bool)]⟩], false⟩
def fam46 : Fam := ⟨2, 36, 0, 7, [(1, (.ptr 0 (.nn 0) 0)), (2, (.ptr 1 (.nn 0) 0)), (3, (.ptr 3 (.nn 0) 0)), (4, (.ptr 5 (.nn 0) 0)), (9, (.tl (.int .i64) (.v 4))), (10, (.ii .i64 (.v 5))), (11, (.ii .i64 (.v 6)))], [.box 7 (some tGFun) [(cellsOf tGFun (.v 3))], .box 1 (some (.lst .bool)) [[(.sl 7 (.nn 0) (.o1 (.len .bool) (.v 0)))]], .dead, .box 1 (some (.lst .bool)) [[(.sl 8 (.nn 0) (.o1 (.len .bool) (.v 1)))]], .dead, .box 1 (some (.lst (.int .i64))) [[(.sl 9 (.nn 0) (.o1 (.len (.int .i64)) (.v 2)))]], .dead, .rows 1 .bool (.v 0), .rows 1 .bool (.v 1), .rows 1 (.int .i64) (.v 2)], [(.lst .bool), (.lst .bool), (.lst (.int .i64)), tGFun, (.lst (.int .i64)), (.int .i64), (.int .i64)], [⟨.ret, [(6, (.bb (.v 4)))], [.box 7 (some tGFun) [(cellsOf tGFun (.v 3))], .box 1 (some (.lst .bool)) [[(.sl 7 (.nn 0) (.o1 (.len .bool) (.v 0)))]], .dead, .box 1 (some (.lst .bool)) [[(.sl 8 (.nn 0) (.o1 (.len .bool) (.v 1)))]], .dead, .box 1 (some (.lst (.int .i64))) [[(.sl 9 (.nn 0) (.o1 (.len (.int .i64)) (.v 2)))]], .dead, .rows 1 .bool (.v 0), .rows 1 .bool (.v 1), .rows 1 (.int .i64) (.v 2)], [(.new, (.lst .bool)), (.new, (.lst .bool)), (.new, (.lst (.int .i64))), (.par 3, tGFun), (.con (.bl false), .bool)]⟩, ⟨(.exit 0), [], [.box 7 (some tGFun) [(cellsOf tGFun (.v 3))], .box 1 (some (.lst .bool)) [[(.sl 7 (.nn 0) (.o1 (.len .bool) (.v 0)))]], .dead, .box 1 (some (.lst .bool)) [[(.sl 8 (.nn 0) (.o1 (.len .bool) (.v 1)))]], .dead, .box 1 (some (.lst (.int .i64))) [[(.sl 9 (.nn 0) (.o1 (.len (.int .i64)) (.v 2)))]], .dead, .rows 1 .bool (.v 0), .rows 1 .bool (.v 1), .rows 1 (.int .i64) (.v 2)], [(.new, (.lst .bool)), (.new, (.lst .bool)), (.new, (.lst (.int .i64))), (.par 3, tGFun)]⟩], false⟩
def fam47 : Fam := ⟨1, 37, 0, 2, [(0, (.tl (.int .i64) (.v 1))), (1, (.ptr 0 (.nn 0) 0))], [.box 1 (some (.lst .bool)) [[(.sl 1 (.nn 0) (.o1 (.len .bool) (.v 0)))]], .rows 1 .bool (.v 0)], [(.lst .bool), (.lst (.int .i64))], [⟨.ret, [(0, (.tup []))], [.box 1 (some (.lst .bool)) [[(.sl 1 (.nn 0) (.o1 (.len .bool) (.v 0)))]], .rows 1 .bool (.v 0)], [(.new, (.lst .bool))]⟩], false⟩
def fam48 : Fam := ⟨2, 37, 0, 2, [(1, (.ptr 0 (.nn 0) 0)), (5, (.tl (.int .i64) (.v 1))), (6, (.ii .i64 (.v 2))), (7, (.ii .i64 (.v 3)))], [.box 1 (some (.lst .bool)) [[(.sl 1 (.nn 0) (.o1 (.len .bool) (.v 0)))]], .rows 1 .bool (.v 0)], [(.lst .bool), (.lst (.int .i64)), (.int .i64), (.int .i64)], [⟨(.exit 0), [], [.box 1 (some (.lst .bool)) [[(.sl 1 (.nn 0) (.o1 (.len .bool) (.v 0)))]], .rows 1 .bool (.v 0)], [(.new, (.lst .bool))]⟩], false⟩
def fams : Tr Fam :=
 (.node 24 (.node 12 (.node 6 (.node 3 (.node 1 (.leaf fam0)
 (.node 2 (.leaf fam1)
 (.leaf fam2)))
 (.node 4 (.leaf fam3)
 (.node 5 (.leaf fam4)
 (.leaf fam5))))
 (.node 9 (.node 7 (.leaf fam6)
 (.node 8 (.leaf fam7)
 (.leaf fam8)))
 (.node 10 (.leaf fam9)
 (.node 11 (.leaf fam10)
 (.leaf fam11)))))
 (.node 18 (.node 15 (.node 13 (.leaf fam12)
 (.node 14 (.leaf fam13)
 (.leaf fam14)))
 (.node 16 (.leaf fam15)
 (.node 17 (.leaf fam16)
 (.leaf fam17))))
 (.node 21 (.node 19 (.leaf fam18)
 (.node 20 (.leaf fam19)
 (.leaf fam20)))
 (.node 22 (.leaf fam21)
 (.node 23 (.leaf fam22)
 (.leaf fam23))))))
 (.node 36 (.node 30 (.node 27 (.node 25 (.leaf fam24)
 (.node 26 (.leaf fam25)
 (.leaf fam26)))
 (.node 28 (.leaf fam27)
 (.node 29 (.leaf fam28)
 (.leaf fam29))))
 (.node 33 (.node 31 (.leaf fam30)
 (.node 32 (.leaf fam31)
 (.leaf fam32)))
 (.node 34 (.leaf fam33)
 (.node 35 (.leaf fam34)
 (.leaf fam35)))))
 (.node 42 (.node 39 (.node 37 (.leaf fam36)
 (.node 38 (.leaf fam37)
 (.leaf fam38)))
 (.node 40 (.leaf fam39)
 (.node 41 (.leaf fam40)
 (.leaf fam41))))
 (.node 45 (.node 43 (.leaf fam42)
 (.node 44 (.leaf fam43)
 (.leaf fam44)))
 (.node 47 (.node 46 (.leaf fam45)
 (.leaf fam46))
 (.node 48 (.leaf fam47)
 (.leaf fam48)))))))
def pfns : Tr (Option Nat) :=
 (.node 32 (.node 16 (.node 8 (.node 4 (.node 2 (.node 1 (.leaf none)
 (.leaf none))
 (.node 3 (.leaf none)
 (.leaf (some 0))))
 (.node 6 (.node 5 (.leaf (some 1))
 (.leaf (some 2)))
 (.node 7 (.leaf (some 3))
 (.leaf (some 5)))))
 (.node 12 (.node 10 (.node 9 (.leaf (some 8))
 (.leaf none))
 (.node 11 (.leaf (some 36))
 (.leaf (some 4))))
 (.node 14 (.node 13 (.leaf (some 6))
 (.leaf none))
 (.node 15 (.leaf (some 22))
 (.leaf (some 24))))))
 (.node 24 (.node 20 (.node 18 (.node 17 (.leaf (some 28))
 (.leaf (some 32)))
 (.node 19 (.leaf none)
 (.leaf (some 29))))
 (.node 22 (.node 21 (.leaf none)
 (.leaf none))
 (.node 23 (.leaf none)
 (.leaf none))))
 (.node 28 (.node 26 (.node 25 (.leaf none)
 (.leaf none))
 (.node 27 (.leaf none)
 (.leaf none)))
 (.node 30 (.node 29 (.leaf none)
 (.leaf none))
 (.node 31 (.leaf none)
 (.leaf none))))))
 (.node 48 (.node 40 (.node 36 (.node 34 (.node 33 (.leaf none)
 (.leaf none))
 (.node 35 (.leaf none)
 (.leaf none)))
 (.node 38 (.node 37 (.leaf none)
 (.leaf none))
 (.node 39 (.leaf none)
 (.leaf (some 34)))))
 (.node 44 (.node 42 (.node 41 (.leaf (some 31))
 (.leaf none))
 (.node 43 (.leaf none)
 (.leaf none)))
 (.node 46 (.node 45 (.leaf none)
 (.leaf (some 37)))
 (.node 47 (.leaf none)
 (.leaf none)))))
 (.node 56 (.node 52 (.node 50 (.node 49 (.leaf none)
 (.leaf none))
 (.node 51 (.leaf none)
 (.leaf none)))
 (.node 54 (.node 53 (.leaf none)
 (.leaf none))
 (.node 55 (.leaf none)
 (.leaf none))))
 (.node 60 (.node 58 (.node 57 (.leaf none)
 (.leaf none))
 (.node 59 (.leaf none)
 (.leaf none)))
 (.node 62 (.node 61 (.leaf none)
 (.leaf none))
 (.node 63 (.leaf none)
 (.node 64 (.leaf none)
 (.leaf none))))))))
def fnss : Tr (List Nat) :=
 (.node 32 (.node 16 (.node 8 (.node 4 (.node 2 (.node 1 (.leaf [])
 (.leaf []))
 (.node 3 (.leaf [])
 (.leaf [])))
 (.node 6 (.node 5 (.leaf [])
 (.leaf []))
 (.node 7 (.leaf [])
 (.leaf []))))
 (.node 12 (.node 10 (.node 9 (.leaf [])
 (.leaf []))
 (.node 11 (.leaf [])
 (.leaf [])))
 (.node 14 (.node 13 (.leaf [])
 (.leaf []))
 (.node 15 (.leaf [])
 (.leaf [])))))
 (.node 24 (.node 20 (.node 18 (.node 17 (.leaf [])
 (.leaf []))
 (.node 19 (.leaf [])
 (.leaf [])))
 (.node 22 (.node 21 (.leaf [])
 (.leaf []))
 (.node 23 (.leaf [])
 (.leaf []))))
 (.node 28 (.node 26 (.node 25 (.leaf [])
 (.leaf []))
 (.node 27 (.leaf [])
 (.leaf [])))
 (.node 30 (.node 29 (.leaf [])
 (.leaf []))
 (.node 31 (.leaf [])
 (.leaf []))))))
 (.node 48 (.node 40 (.node 36 (.node 34 (.node 33 (.leaf [])
 (.leaf []))
 (.node 35 (.leaf [])
 (.leaf [18])))
 (.node 38 (.node 37 (.leaf [45])
 (.leaf [47]))
 (.node 39 (.leaf [27])
 (.leaf []))))
 (.node 44 (.node 42 (.node 41 (.leaf [])
 (.leaf []))
 (.node 43 (.leaf [])
 (.leaf [])))
 (.node 46 (.node 45 (.leaf [])
 (.leaf []))
 (.node 47 (.leaf [])
 (.leaf [])))))
 (.node 56 (.node 52 (.node 50 (.node 49 (.leaf [])
 (.leaf []))
 (.node 51 (.leaf [])
 (.leaf [])))
 (.node 54 (.node 53 (.leaf [])
 (.leaf []))
 (.node 55 (.leaf [])
 (.leaf []))))
 (.node 60 (.node 58 (.node 57 (.leaf [])
 (.leaf []))
 (.node 59 (.leaf [])
 (.leaf [])))
 (.node 62 (.node 61 (.leaf [])
 (.leaf []))
 (.node 63 (.leaf [])
 (.node 64 (.leaf [])
 (.leaf []))))))))
def loopss : Tr (List (Nat × Nat)) :=
 (.node 32 (.node 16 (.node 8 (.node 4 (.node 2 (.node 1 (.leaf [])
 (.leaf []))
 (.node 3 (.leaf [])
 (.leaf [(0, 13), (2, 20)])))
 (.node 6 (.node 5 (.leaf [])
 (.leaf []))
 (.node 7 (.leaf [(0, 9), (2, 16), (4, 23)])
 (.leaf [(0, 10), (2, 17), (4, 26), (6, 38)]))))
 (.node 12 (.node 10 (.node 9 (.leaf [(0, 15), (2, 21)])
 (.leaf []))
 (.node 11 (.leaf [(0, 43)])
 (.leaf [(0, 7), (2, 12), (4, 14), (6, 19), (8, 25)])))
 (.node 14 (.node 13 (.leaf [(0, 11)])
 (.leaf []))
 (.node 15 (.leaf [(0, 30)])
 (.leaf [(0, 33)])))))
 (.node 24 (.node 20 (.node 18 (.node 17 (.leaf [(0, 35)])
 (.leaf [(0, 41)]))
 (.node 19 (.leaf [])
 (.leaf [(0, 40)])))
 (.node 22 (.node 21 (.leaf [])
 (.leaf []))
 (.node 23 (.leaf [])
 (.leaf []))))
 (.node 28 (.node 26 (.node 25 (.leaf [])
 (.leaf []))
 (.node 27 (.leaf [])
 (.leaf [])))
 (.node 30 (.node 29 (.leaf [])
 (.leaf []))
 (.node 31 (.leaf [])
 (.leaf []))))))
 (.node 48 (.node 40 (.node 36 (.node 34 (.node 33 (.leaf [])
 (.leaf []))
 (.node 35 (.leaf [])
 (.leaf [])))
 (.node 38 (.node 37 (.leaf [(0, 46)])
 (.leaf [(0, 48)]))
 (.node 39 (.leaf [(0, 39), (2, 44)])
 (.leaf [(0, 42)]))))
 (.node 44 (.node 42 (.node 41 (.leaf [])
 (.leaf []))
 (.node 43 (.leaf [])
 (.leaf [])))
 (.node 46 (.node 45 (.leaf [])
 (.leaf []))
 (.node 47 (.leaf [])
 (.leaf [])))))
 (.node 56 (.node 52 (.node 50 (.node 49 (.leaf [])
 (.leaf []))
 (.node 51 (.leaf [])
 (.leaf [])))
 (.node 54 (.node 53 (.leaf [])
 (.leaf []))
 (.node 55 (.leaf [])
 (.leaf []))))
 (.node 60 (.node 58 (.node 57 (.leaf [])
 (.leaf []))
 (.node 59 (.leaf [])
 (.leaf [])))
 (.node 62 (.node 61 (.leaf [])
 (.leaf []))
 (.node 63 (.leaf [])
 (.node 64 (.leaf [])
 (.leaf []))))))))
def look2 : List (Nat × Nat) → Nat → List Nat
  | [], _ => []
  | (a, b) :: r, k => match Nat.beq a k with | true => b :: look2 r k | false => look2 r k
def tb : Tab := ⟨fun i => match Nat.blt i 49 with | true => fams.get i | false => default, pfns.get, fnss.get, fun f b => look2 (loopss.get f) b⟩
end Go.Proofs.Ytkecfadnfnnfaaa.LabA
