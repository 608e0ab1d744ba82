/- A reading of the loaded code over plain data, its soundness, and what functions answer by it (part 2; joined by program). No condition. -/
import Derived.Test.YtdcgfapededocaaGreatKRx1
import Derived.Test.YtdcgfapededocaaGreatProg
set_option linter.all false
namespace Go.Proofs.YtdcgfapededocaaGreat
open Go
def an5 : Ann := { vars := [0, 1, 2, 3, 4, 5, 6, 7, 8], np := 1, outs := [(1000000, [2], [])] }
def an7 : Ann := { vars := [0, 1, 2, 4], np := 2, outs := [(1000000, [4], [])] }
def an8 : Ann := { vars := [0, 1, 2, 3, 4], np := 1, keep := [(0, [1, 3], [[1]])], outs := [(0, [], []), (1000000, [2], [])] }
def an9 : Ann := { vars := [0, 1, 2, 3], np := 1, outs := [(1000000, [2], [[2]])] }
def an10 : Ann := { vars := [0, 1, 2], np := 1, outs := [(1000000, [2], [])] }
def an11 : Ann := { vars := [0, 1, 2, 3, 4], np := 2, outs := [(1000000, [4], [])] }
def an14 : Ann := { vars := [0, 1, 2, 3, 4, 5], np := 1, outs := [(1000000, [2, 3], [])] }
def an15 : Ann := { vars := [0, 1, 2, 3, 4, 5], np := 1, outs := [(1000000, [2, 3], [])] }
def an17 : Ann := { vars := [0, 1, 2, 3], np := 1, outs := [(1000000, [2], [[2]])] }
def an21 : Ann := { vars := [0, 1, 2, 4], np := 2, outs := [(1000000, [4], [])] }
def an22 : Ann := { vars := [0, 1, 4], np := 2, outs := [(1000000, [4], [])] }
def an23 : Ann := { vars := [0, 1, 2, 4], np := 2, outs := [(1000000, [4], [])] }
def an24 : Ann := { vars := [0, 1, 2, 4], np := 2, outs := [(1000000, [4], [])] }
def an25 : Ann := { vars := [0, 1, 2, 3, 4], np := 1, keep := [(0, [1, 3], [[1]]), (2, [1, 4], [[1]])], outs := [(0, [1], [[1]]), (2, [], []), (1000000, [2], [])] }
def an26 : Ann := { vars := [0, 1, 2], np := 1, outs := [(1000000, [2], [])] }
def an27 : Ann := { vars := [0, 1, 2, 6], np := 3, outs := [(1000000, [6], [])] }
def an28 : Ann := { vars := [0, 1, 2, 3, 4], np := 1, keep := [(0, [1, 3], [[1]]), (2, [1, 3, 4], [[1]])], outs := [(0, [], []), (2, [1, 3], [[1]]), (1000000, [2], [])] }
def an29 : Ann := { vars := [0, 1, 2, 14, 15], np := 1, outs := [(1000000, [2], [])] }
def an30 : Ann := { vars := [0, 1, 2, 3], np := 1, outs := [(1000000, [2], [[2], [60], [61]])], own := [(6, [[60]]), (10, [[61]])] }
def an31 : Ann := { vars := [0, 2, 3, 4], np := 1, keep := [(0, [0, 3, 4], [[7]])], outs := [(0, [3], [[7]]), (1000000, [2], [[7]])] }
def an32 : Ann := { vars := [0, 1, 2, 3], np := 1, outs := [(1000000, [2], [[2], [60], [61]])], own := [(6, [[60]]), (10, [[61]])] }
def an33 : Ann := { vars := [0, 1, 2, 3], np := 1, outs := [(1000000, [2], [[2]])] }
def an34 : Ann := { vars := [0, 1, 2], np := 1, outs := [(1000000, [2], [])] }
def an35 : Ann := { vars := [0, 1, 2], np := 1, outs := [(1000000, [2], [])] }
def an36 : Ann := { vars := [0, 1, 2, 6], np := 3, outs := [(1000000, [6], [])] }
def an37 : Ann := { vars := [0, 1, 3, 4], np := 2, outs := [(1000000, [4], [])] }
def an38 : Ann := { vars := [0, 1, 2, 3], np := 2, outs := [(1000000, [3], [])] }
def an39 : Ann := { vars := [0, 1, 2], np := 1, outs := [(1000000, [2], [])] }
def an40 : Ann := { vars := [0, 1, 2], np := 1, outs := [(1000000, [2], [])] }
def an41 : Ann := { vars := [0, 1, 2, 3, 4], np := 2, outs := [(1000000, [4], [])] }
def an42 : Ann := { vars := [0, 1, 2, 3, 4], np := 2, outs := [(1000000, [4], [])] }
def an43 : Ann := { vars := [0, 1, 4, 5], np := 2, keep := [(0, [0, 1, 5], [])], outs := [(0, [], []), (1000000, [4], [])] }
def an44 : Ann := { vars := [0, 1, 2, 3, 4], np := 2, outs := [(1000000, [4], [])] }
def an45 : Ann := { vars := [0, 1, 2, 3, 4], np := 2, outs := [(1000000, [4], [])] }
def an49 : Ann := { vars := [0, 2], np := 1, outs := [(1000000, [2], [])] }
def an51 : Ann := { vars := [0, 1, 2, 4, 5, 6, 7, 8, 9, 10, 11, 12, 13, 14, 15, 16, 17], np := 2, keep := [(0, [1, 2, 4, 6, 7, 9, 12], [[2], [4], [6], [18], [19], [121]]), (2, [1, 2, 4, 6, 9, 15], [[2], [4], [6], [18], [19], [121]])], outs := [(0, [1, 2, 4, 6, 9], [[2], [4], [6], [18], [19], [121]]), (2, [4, 6], [[4], [6], [18], [19], [121]]), (1000000, [4, 5], [[4], [18], [19], [121]])], hw := [((17, 0), [[120]], []), ((17, 1), [[120]], []), ((17, 11), [], [[18], [19], [121]]), ((17, 13), [], [[6]]), ((25, 7), [], [[18], [19], [121]]), ((26, 3), [], [[4]])], vk := [((25, 7), [], [])] }
def an52 : Ann := { vars := [0, 1, 2, 3, 4, 5], np := 2, keep := [(0, [2, 3, 5], [[2], [3]])], outs := [(0, [], []), (1000000, [4], [])] }
def an53 : Ann := { vars := [0, 1, 2, 3, 4], np := 1, keep := [(0, [1, 2, 3, 4], [[1], [2], [3], [9], [36]])], outs := [(0, [2, 3], [[2], [3], [9], [36]]), (1000000, [2], [[2], [9], [36]])], hw := [((5, 0), [[35]], []), ((5, 1), [[35]], []), ((5, 18), [], [[9], [36]]), ((5, 20), [], [[3]])] }
def an54 : Ann := { vars := [0, 1, 2, 4, 5, 6, 7, 8, 9, 10, 11, 12, 13, 14, 15, 16, 17, 18, 75, 76, 77, 105, 106, 107], np := 2, keep := [(0, [1, 2, 4, 8, 75, 76, 77], [[2], [4], [8], [49], [101]]), (2, [1, 2, 4, 8, 105, 106, 107], [[2], [4], [8], [49], [101]])], outs := [(0, [1, 2, 4, 8], [[2], [4], [8], [49], [101]]), (2, [4, 8], [[4], [8], [49], [101]]), (1000000, [4, 5], [[4], [49], [101]])], hw := [((16, 0), [[100]], []), ((16, 1), [[100]], []), ((16, 7), [], [[49], [101]]), ((16, 9), [], [[8]]), ((25, 7), [], [[49], [101]]), ((27, 3), [], [[4]])], vk := [((25, 7), [], [])] }
def an55 : Ann := { vars := [0, 1, 2, 3, 4], np := 2, outs := [(1000000, [4], [])] }
def an56 : Ann := { vars := [0, 1, 2, 3, 4, 6, 14, 15, 16], np := 1, keep := [(0, [2, 3, 4, 14, 15, 16], [[2], [1], [4], [30]])], outs := [(0, [2, 4], [[2], [4], [30]]), (1000000, [2], [[2], [30]])], hw := [((6, 0), [[29]], []), ((6, 1), [[29]], []), ((6, 10), [], [[30]]), ((6, 12), [], [[4]])] }
def an66 : Ann := { vars := [0, 1, 4, 5], np := 2, keep := [(0, [0, 1, 5], [])], outs := [(0, [1], []), (1000000, [4], [])] }
def an67 : Ann := { vars := [0, 1, 4, 5], np := 2, keep := [(0, [0, 1, 5], [])], outs := [(0, [1], []), (1000000, [4], [])] }
def an68 : Ann := { vars := [0, 1, 4], np := 2, outs := [(1000000, [4], [])] }
def an69 : Ann := { vars := [0, 1, 4, 5], np := 2, keep := [(0, [0, 1, 5], [])], outs := [(0, [1], []), (1000000, [4], [])] }
def an70 : Ann := { vars := [0, 1, 2], np := 1, outs := [(1000000, [2], [])] }
def an71 : Ann := { vars := [0, 1, 2], np := 1, outs := [(1000000, [2], [])] }
def an72 : Ann := { vars := [0, 1, 4], np := 2, outs := [(1000000, [4], [])] }
def an73 : Ann := { vars := [0, 1, 4], np := 2, outs := [(1000000, [4], [])] }
def an74 : Ann := { vars := [0, 2, 3], np := 1, keep := [(0, [0, 3], [])], outs := [(0, [0], []), (1000000, [2], [])] }
def an75 : Ann := { vars := [0, 2, 3], np := 1, keep := [(0, [0, 3], [])], outs := [(0, [0], []), (1000000, [2], [])] }
def an76 : Ann := { vars := [0, 2, 3, 4], np := 1, keep := [(0, [0, 3, 4], [[7]])], outs := [(0, [3], [[7]]), (1000000, [2], [[7]])] }
def an77 : Ann := { vars := [0, 2, 3, 4], np := 1, keep := [(0, [0, 3, 4], [[7]])], outs := [(0, [3], [[7]]), (1000000, [2], [[7]])] }
def an78 : Ann := { vars := [0, 1, 2, 3], np := 1, outs := [(1000000, [2], [[2]])] }
def an79 : Ann := { vars := [0, 2, 3, 4], np := 1, keep := [(0, [0, 3, 4], [[7]])], outs := [(0, [3], [[7]]), (1000000, [2], [[7]])] }
def an80 : Ann := { vars := [0, 2, 3, 4], np := 1, keep := [(0, [0, 3, 4], [[7], [60]])], outs := [(0, [3], [[7], [60]]), (1000000, [2], [[7], [60]])], own := [(20, [[60]])], dp := true }
def an81 : Ann := { vars := [0, 1, 3, 4], np := 2, outs := [(1000000, [4], [])] }
def an82 : Ann := { vars := [0, 2], np := 1, outs := [(1000000, [2], [])] }
def an83 : Ann := { vars := [0, 1, 3, 4], np := 2, outs := [(1000000, [4], [])] }
def an84 : Ann := { vars := [0, 1, 2], np := 1, outs := [(1000000, [2], [])] }
def an85 : Ann := { vars := [0, 2], np := 1, outs := [(1000000, [2], [])] }
def an86 : Ann := { vars := [0, 1, 2], np := 1, outs := [(1000000, [2], [])] }
def an87 : Ann := { vars := [0, 1, 2, 4], np := 2, outs := [(1000000, [4], [])] }
def an88 : Ann := { vars := [0, 1, 2, 4], np := 2, outs := [(1000000, [4], [])] }
def an89 : Ann := { vars := [0, 1, 4], np := 2, outs := [(1000000, [4], [])] }
def an90 : Ann := { vars := [0, 1, 2, 3], np := 2, outs := [(1000000, [3], [])] }
def an91 : Ann := { vars := [0, 2], np := 1, outs := [(1000000, [2], [])] }
def an92 : Ann := { vars := [0, 2, 3], np := 1, outs := [(1000000, [2], [])], own := [(5, [[5]])] }
def an93 : Ann := { vars := [0, 1, 2, 3, 5, 8, 9, 10], np := 1, keep := [(0, [3, 8, 9, 10], [[6], [18]])], outs := [(0, [3], [[6], [18]]), (1000000, [2], [[6], [18]])] }
def an94 : Ann := { vars := [0, 1, 3, 4], np := 2, outs := [(1000000, [4], [])] }
def an95 : Ann := { vars := [0, 1, 2], np := 1, outs := [(1000000, [2], [])] }
def an96 : Ann := { vars := [0, 2], np := 1, outs := [(1000000, [2], [])] }
def an97 : Ann := { vars := [0, 1, 2, 4, 5, 23], np := 1, outs := [(1000000, [2], [[2]])] }
def an98 : Ann := { vars := [0, 1, 4, 5], np := 2, keep := [(0, [0, 1, 5], [])], outs := [(0, [], []), (1000000, [4], [])] }
def an99 : Ann := { vars := [0, 1, 4, 5], np := 2, keep := [(0, [0, 1, 5], [])], outs := [(0, [], []), (1000000, [4], [])] }
def an100 : Ann := { vars := [0, 1, 2, 3, 4], np := 2, outs := [(1000000, [4], [])] }
def an101 : Ann := { vars := [0, 1, 4, 5], np := 2, keep := [(0, [0, 1, 5], [])], outs := [(0, [], []), (1000000, [4], [])] }
def an102 : Ann := { vars := [0, 1, 4, 5], np := 2, keep := [(0, [0, 1, 5], [])], outs := [(0, [], []), (1000000, [4], [])] }
def an106 : Ann := { vars := [0, 1, 4, 5, 6, 7], np := 2, outs := [(1000000, [4, 5], [[23], [39]])] }
def an107 : Ann := { vars := [0, 1, 2, 3, 6, 7], np := 3, keep := [(0, [1, 2, 3, 7], [[3]])], outs := [(0, [2, 3], [[3]]), (1000000, [6], [])] }
def an108 : Ann := { vars := [0, 2, 3, 4, 5, 6, 7, 8, 9], np := 1, keep := [(0, [4, 6, 7], [[23], [42]]), (2, [4, 6, 7, 8, 9], [[23], [42]])], outs := [(0, [6], [[23], [42]]), (2, [4, 6, 7, 8], [[23], [42]]), (1000000, [2, 3], [[22], [23], [42], [47]])] }
def an109 : Ann := { vars := [0, 2, 3, 4, 5], np := 1, outs := [(1000000, [2, 3], [[18]])] }
def an110 : Ann := { vars := [0, 2, 3, 4], np := 1, keep := [(0, [0, 3, 4], [])], outs := [(0, [3], []), (1000000, [2], [])] }
def an111 : Ann := { vars := [0, 2, 3], np := 1, keep := [(0, [0, 3], [])], outs := [(0, [3], []), (1000000, [2], [])] }
def an112 : Ann := { vars := [0, 1, 2, 3, 4, 5], np := 1, keep := [(0, [1, 3], [[1]]), (2, [1, 4, 5], [[1]])], outs := [(0, [1], [[1]]), (2, [], []), (1000000, [2], [])] }
def an113 : Ann := { vars := [0, 1, 4, 5], np := 2, keep := [(0, [0, 1, 5], [])], outs := [(0, [], []), (1000000, [4], [])] }
def an114 : Ann := { vars := [0, 1, 2, 4, 5, 6], np := 2, keep := [(0, [1, 2, 5, 6], [[2], [7], [22]])], outs := [(0, [5], [[7], [22]]), (1000000, [4], [[7], [22]])], hw := [((5, 0), [[21]], []), ((5, 8), [], [[7], [22]])] }
def an115 : Ann := { vars := [0, 1, 4, 5, 6, 7, 8], np := 2, outs := [(1000000, [4, 5], [])] }
def an116 : Ann := { vars := [0, 1, 2, 3, 4, 5, 6, 8, 13], np := 3, outs := [(1000000, [6], [[6]])], ext := true }
def an117 : Ann := { vars := [0, 2, 3, 4, 5, 6, 8, 22, 23, 24, 28], np := 1, keep := [(0, [6, 22, 23, 24], [[21], [34]]), (2, [6, 8, 22, 23, 24, 28], [[21], [34]])], outs := [(0, [6], [[21], [34]]), (2, [6, 8, 22, 23, 24], [[21], [34]]), (1000000, [2, 3], [[21], [34]])] }
def an118 : Ann := { vars := [0, 2, 3, 4, 5], np := 1, outs := [(1000000, [2, 3], [])] }
def an119 : Ann := { vars := [0, 2, 3], np := 1, keep := [(0, [0, 3], [])], outs := [(0, [3], []), (1000000, [2], [])] }
def an120 : Ann := { vars := [0, 1, 2, 3, 4, 17, 18, 19], np := 1, keep := [(0, [1, 17, 18, 19], [[1]])], outs := [(0, [], []), (1000000, [2], [])] }
def an121 : Ann := { vars := [0, 1, 4, 5, 12, 13], np := 2, keep := [(0, [0, 1, 12, 13], [])], outs := [(0, [], []), (1000000, [4], [])] }
def an122 : Ann := { vars := [0, 1, 2, 6, 7, 8, 9, 15, 16, 17], np := 3, keep := [(0, [1, 2, 15, 16, 17], [])], outs := [(0, [], []), (1000000, [6], [])] }
def an123 : Ann := { vars := [0, 1, 2, 3, 4], np := 2, outs := [(1000000, [4], [])] }
def an124 : Ann := { vars := [0, 1, 3, 4, 5, 8, 9], np := 2, keep := [(0, [0, 1, 4, 8, 9], [[6], [18]])], outs := [(0, [4], [[6], [18]]), (1000000, [3], [[6], [18]])] }
def an125 : Ann := { vars := [0, 1, 2, 3, 6], np := 3, outs := [(1000000, [6], [])] }
def an140 : Ann := { vars := [0, 1, 2, 4], np := 2, outs := [(1000000, [4], [])] }
def an141 : Ann := { vars := [0, 1, 2, 4], np := 2, outs := [(1000000, [4], [])] }
def an142 : Ann := { vars := [0, 2], np := 1, outs := [(1000000, [2], [])] }
def an143 : Ann := { vars := [0, 1, 2, 3], np := 1, outs := [(1000000, [2], [[2]])] }
def an144 : Ann := { vars := [0, 1, 2, 3], np := 1, outs := [(1000000, [2], [[2], [60]])], own := [(9, [[60]])] }
def an145 : Ann := { vars := [0, 1, 4], np := 2, outs := [(1000000, [4], [])] }
def an146 : Ann := { vars := [0, 1, 3], np := 2, outs := [(1000000, [3], [])] }
def an147 : Ann := { vars := [0, 1, 4], np := 2, outs := [(1000000, [4], [])] }
def an148 : Ann := { vars := [0, 1, 2, 3], np := 2, outs := [(1000000, [3], [])] }
def an149 : Ann := { vars := [0, 1, 4, 5], np := 2, outs := [(1000000, [4], [])] }
def an150 : Ann := { vars := [0, 1, 4, 5, 7, 8], np := 2, keep := [(0, [0, 1, 7, 8], [])], outs := [(0, [], []), (1000000, [4], [])] }
def an151 : Ann := { vars := [0, 1, 3, 4], np := 2, outs := [(1000000, [4], [])] }
def an152 : Ann := { vars := [0, 2], np := 1, outs := [(1000000, [2], [])] }
def an153 : Ann := { vars := [0, 2], np := 1, outs := [(1000000, [2], [[5], [7]])], ext := true }
def an154 : Ann := { vars := [0, 2], np := 1, outs := [(1000000, [], [[0]])], io := [true] }
def an155 : Ann := { vars := [0, 2, 3, 5, 6], np := 1, keep := [(0, [0, 5, 6], [])], outs := [(0, [0], []), (1000000, [2], [])] }
def an156 : Ann := { vars := [0, 2, 3, 4, 5], np := 1, keep := [(0, [0, 3], [[0]]), (2, [0, 3, 4, 5], [[0]])], outs := [(0, [0], [[0]]), (2, [0, 3], [[0]]), (1000000, [2], [[0]])], io := [true] }
def an157 : Ann := { vars := [0, 1, 4], np := 2, outs := [(1000000, [4], [])] }
def an158 : Ann := { vars := [0, 1, 2, 3], np := 2, outs := [(1000000, [3], [])] }
def an159 : Ann := { vars := [0, 1, 2, 3, 4], np := 2, outs := [(1000000, [4], [])] }
def an160 : Ann := { vars := [0, 1, 2, 3, 4], np := 2, outs := [(1000000, [4], [])] }
def an164 : Ann := { vars := [0, 2], np := 1, outs := [(1000000, [2], [])] }
def an165 : Ann := { vars := [0, 2, 3, 4, 5, 6, 7], np := 1, keep := [(0, [0, 4, 5], [[8], [36]]), (2, [0, 4, 5, 6, 7], [[8], [36]])], outs := [(0, [4], [[8], [36]]), (2, [0, 4, 5, 6], [[8], [36]]), (1000000, [2, 3], [[8], [36]])] }
def an166 : Ann := { vars := [0, 1, 4, 5, 6], np := 2, outs := [(1000000, [4], [])] }
def an167 : Ann := { vars := [0, 2, 3], np := 1, keep := [(0, [0, 3], [])], outs := [(0, [0], []), (1000000, [2], [])] }
def an168 : Ann := { vars := [0, 1, 2, 3, 4, 5], np := 1, keep := [(0, [1, 3], [[1]]), (2, [1, 3, 4], [[1]]), (4, [1, 5], [[1]])], outs := [(0, [1], [[1]]), (2, [1, 3], [[1]]), (4, [], []), (1000000, [2], [])] }
def an169 : Ann := { vars := [0, 2, 3, 4, 5], np := 1, keep := [(0, [3, 4], []), (2, [3, 4, 5], [])], outs := [(0, [], []), (2, [3, 4], []), (1000000, [2], [])] }
def an170 : Ann := { vars := [0, 1, 2, 3, 4, 5, 6, 7, 8], np := 1, keep := [(0, [1, 3, 4, 5], [[1], [9], [12], [28]]), (2, [3, 4, 6], [[9], [12], [28]]), (4, [3, 4, 6, 7, 8], [[9], [12], [28]])], outs := [(0, [3, 4], [[9], [12], [28]]), (2, [3], [[9]]), (4, [3, 4, 6], [[9], [12], [28]]), (1000000, [2], [[9]])] }
def an171 : Ann := { vars := [0, 1, 2, 4], np := 2, outs := [(1000000, [4], [])] }
def an172 : Ann := { vars := [0, 2, 3, 4, 5, 6], np := 1, outs := [(1000000, [2, 3, 4], [])] }
def an173 : Ann := { vars := [0, 1, 2], np := 1, outs := [(1000000, [2], [[1]])] }
def an174 : Ann := { vars := [0, 2], np := 1, outs := [(1000000, [2], [])] }
def an175 : Ann := { vars := [0, 1, 2], np := 1, outs := [(1000000, [2], [])] }
def an176 : Ann := { vars := [0, 1, 2, 3, 5, 7, 10, 11, 12, 17, 18, 19], np := 1, keep := [(0, [3, 10, 11, 12], [[8]]), (2, [3, 10, 11, 12, 17, 18, 19], [[8]])], outs := [(0, [3], [[8]]), (2, [3, 10, 11, 12], [[8]]), (1000000, [2], [[8]])] }
def an186 : Ann := { vars := [0, 1, 4, 5, 7, 8], np := 2, keep := [(0, [0, 1, 7, 8], [])], outs := [(0, [], []), (1000000, [4], [])] }
def an187 : Ann := { vars := [0, 1, 4, 5, 7, 8], np := 2, keep := [(0, [0, 1, 7, 8], [[0], [1, 0], [1, 1], [1, 2], [1, 2, 0], [1, 3]])], outs := [(0, [], [[0], [1, 0], [1, 1], [1, 2], [1, 2, 0], [1, 3]]), (1000000, [4], [[0], [1, 0], [1, 1], [1, 2], [1, 2, 0], [1, 3]])], io := [true, true] }
def an188 : Ann := { vars := [0, 1, 4], np := 2, outs := [(1000000, [4], [])] }
def an189 : Ann := { vars := [0, 1, 3], np := 2, outs := [(1000000, [3], [])] }
def an190 : Ann := { vars := [0, 1, 2, 3, 8, 9, 10, 11, 12, 13, 14, 15, 16, 17, 18], np := 4, keep := [(0, [0, 1, 2, 3, 8, 9], [[0]])], outs := [(0, [], [[0]]), (1000000, [], [[0]])], io := [true] }
def an191 : Ann := { vars := [0, 2], np := 1, outs := [(1000000, [2], [])] }
def an192 : Ann := { vars := [0, 1, 4, 5, 7, 8], np := 2, keep := [(0, [0, 1, 7, 8], [])], outs := [(0, [], []), (1000000, [4], [])] }
def an196 : Ann := { vars := [0, 2, 3], np := 1, keep := [(0, [0, 3], [])], outs := [(0, [0], []), (1000000, [2], [])] }
def an197 : Ann := { vars := [0, 2, 3, 4, 5, 6], np := 1, keep := [(0, [0, 3, 4], [[7], [26]]), (2, [0, 3, 4, 5, 6], [[7], [26]])], outs := [(0, [3], [[7], [26]]), (2, [0, 3, 4], [[7], [26]]), (1000000, [2], [])] }
def an198 : Ann := { vars := [0, 2, 3, 4], np := 1, keep := [(0, [0, 3, 4], [])], outs := [(0, [3], []), (1000000, [2], [])] }
def an199 : Ann := { vars := [0, 2, 3], np := 1, keep := [(0, [0, 3], [])], outs := [(0, [0], []), (1000000, [2], [])] }
def an200 : Ann := { vars := [0, 2, 3, 4], np := 1, keep := [(0, [0, 3, 4], [[5], [24]])], outs := [(0, [3], [[5], [24]]), (1000000, [2], [[5], [24]])] }
def an201 : Ann := { vars := [0, 2], np := 1, outs := [(1000000, [2], [])] }
def an202 : Ann := { vars := [0, 2, 3, 4, 5], np := 1, keep := [(0, [0, 4, 5], [[6], [45]])], outs := [(0, [0, 4], [[6], [45]]), (1000000, [2, 3], [[6], [45]])], hw := [((5, 0), [[44]], []), ((5, 27), [], [[6], [45]])] }
def an203 : Ann := { vars := [0, 1, 4, 5, 6], np := 2, outs := [(1000000, [4], [])], hw := [((1, 7), [[12]], []), ((1, 8), [[12]], [])] }
def an204 : Ann := { vars := [0, 1, 3], np := 2, keep := [(0, [0, 1, 3], [])], outs := [(0, [], []), (1000000, [], [])] }
def an205 : Ann := { vars := [0, 2], np := 1, outs := [(1000000, [2], [])] }
def an206 : Ann := { vars := [0, 2], np := 1, outs := [(1000000, [2], [])] }
def an207 : Ann := { vars := [0, 1, 2, 3, 5, 8, 9, 10], np := 1, keep := [(0, [3, 8, 9, 10], [[6], [18]])], outs := [(0, [3], [[6], [18]]), (1000000, [2], [[6], [18]])] }
def an208 : Ann := { vars := [0, 1, 3, 4], np := 2, outs := [(1000000, [4], [])] }
def an209 : Ann := { vars := [0, 1, 2, 3, 5, 10, 11, 12], np := 1, keep := [(0, [3, 10, 11, 12], [[8], [20]])], outs := [(0, [3], [[8], [20]]), (1000000, [2], [[8], [20]])] }
def an210 : Ann := { vars := [0, 2], np := 1, outs := [(1000000, [2], [])] }
def an211 : Ann := { vars := [0, 2, 3], np := 1, outs := [(1000000, [2], [])], own := [(5, [[5]])] }
def an212 : Ann := { vars := [0, 2, 3, 5, 7, 8, 9], np := 1, keep := [(0, [3, 7, 8, 9], [[6], [19]])], outs := [(0, [3], [[6], [19]]), (1000000, [2], [[6], [19]])] }
def an221 : Ann := { vars := [0, 1, 4, 5, 7, 8], np := 2, keep := [(0, [0, 1, 7, 8], [])], outs := [(0, [], []), (1000000, [4], [])] }
def an222 : Ann := { vars := [0, 1, 2, 6, 7], np := 3, keep := [(0, [0, 1, 2, 6], [[0]]), (2, [0, 1, 2, 6, 7], [[0]])], outs := [(0, [], [[0]]), (2, [0, 1, 2, 6], [[0]]), (1000000, [], [[0]])], io := [true], hw := [((6, 2), [[0]], []), ((6, 3), [[0]], []), ((6, 4), [[0]], []), ((6, 15), [], [[0]]), ((6, 17), [], [[0]])], vk := [((6, 2), [], []), ((6, 3), [], []), ((6, 4), [], []), ((6, 15), [], []), ((6, 17), [], [])] }
def an223 : Ann := { vars := [0, 1, 2, 6, 7, 8, 9, 10], np := 3, keep := [(0, [0, 6, 7, 8, 9], []), (2, [0, 6, 7, 10], [])], outs := [(0, [0, 6, 7, 8], []), (2, [], []), (1000000, [], [])] }
def an224 : Ann := { vars := [0, 1, 2, 6, 7, 8, 9, 10], np := 3, keep := [(0, [0, 1, 6, 7, 8, 9], [[7]])], outs := [(0, [], []), (1000000, [], [])] }
def an225 : Ann := { vars := [0, 1, 2, 6, 7, 8, 9, 10, 11, 12, 49], np := 3, outs := [(1000000, [6, 7], [])] }
def an226 : Ann := { vars := [0, 1, 2, 6, 7], np := 3, keep := [(0, [0, 6, 7], [])], outs := [(0, [], []), (1000000, [], [])] }
def an227 : Ann := { vars := [0, 1, 2, 6, 7, 8, 9, 10], np := 3, keep := [(0, [0, 1, 2, 7, 8], []), (2, [0, 1, 2, 7, 8], []), (4, [0, 1, 2, 7, 8, 9], []), (6, [0, 1, 2, 7, 8, 10], [])], outs := [(0, [], []), (2, [0, 1, 2, 7, 8], []), (4, [0, 1, 2, 7, 8], []), (6, [0, 1, 2, 7, 8], []), (1000000, [6], [])] }
def an228 : Ann := { vars := [0, 1, 4], np := 2, outs := [(1000000, [4], [])] }
def an229 : Ann := { vars := [0, 1, 2, 3, 8, 9, 10], np := 4, keep := [(0, [0, 1, 9, 10], []), (2, [0, 1, 9, 10], []), (4, [0, 1, 9, 10], [])], outs := [(0, [9], []), (2, [0, 1, 9, 10], []), (4, [0, 1, 9, 10], []), (1000000, [8], [])] }
def an230 : Ann := { vars := [0, 1, 2, 3, 8, 9, 10, 11], np := 4, keep := [(0, [0, 1, 10, 11], []), (2, [0, 1, 10, 11], []), (4, [0, 1, 10, 11], []), (6, [0, 1, 10, 11], []), (8, [0, 1, 10, 11], [])], outs := [(0, [0, 1, 10, 11], []), (2, [0, 1, 10, 11], []), (4, [0, 1, 11], []), (6, [0, 1, 10, 11], []), (8, [0, 1, 10, 11], []), (1000000, [8, 9], [])] }
def an231 : Ann := { vars := [0, 2], np := 1, outs := [(1000000, [2], [])] }
def an232 : Ann := { vars := [0, 2], np := 1, outs := [(1000000, [2], [])] }
def an234 : Ann := { vars := [0, 2], np := 1, outs := [(1000000, [2], [])] }
def an235 : Ann := { vars := [0, 2, 3, 5, 7, 8, 9], np := 1, keep := [(0, [3, 7, 8, 9], [[6], [26]])], outs := [(0, [3], [[6], [26]]), (1000000, [2], [])] }
def an236 : Ann := { vars := [0, 2, 3, 4, 6, 7], np := 1, keep := [(0, [0, 3, 6, 7], [])], outs := [(0, [3], []), (1000000, [2], [])] }
def an237 : Ann := { vars := [0, 2], np := 1, outs := [(1000000, [2], [])] }
def an238 : Ann := { vars := [0, 1, 4], np := 2, outs := [(1000000, [4], [])] }
def an239 : Ann := { vars := [0, 1, 3], np := 2, outs := [(1000000, [3], [])] }
def an240 : Ann := { vars := [0, 2], np := 1, outs := [(1000000, [], [[0]])], io := [true] }
def an241 : Ann := { vars := [0, 2, 3, 4, 5], np := 1, keep := [(0, [0, 3], [[0]]), (2, [0, 3, 4, 5], [[0]])], outs := [(0, [0], [[0]]), (2, [0, 3], [[0]]), (1000000, [2], [[0]])], io := [true] }
def an246 : Ann := { vars := [0, 1, 2, 3, 8, 9], np := 4, keep := [(0, [0, 2, 3, 8], [])], outs := [(0, [], []), (1000000, [], [])] }
def an247 : Ann := { vars := [0, 2], np := 1, outs := [(1000000, [2], [])] }
def an248 : Ann := { vars := [0, 2], np := 1, outs := [(1000000, [2], [])] }
def an249 : Ann := { vars := [0, 1, 2, 6], np := 3, outs := [(1000000, [6], [])] }
def an250 : Ann := { vars := [0, 1, 2, 3, 4, 10], np := 5, outs := [(1000000, [10], [])] }
def an251 : Ann := { vars := [0, 2], np := 1, outs := [(1000000, [2], [])] }
def an254 : Ann := { vars := [0, 1, 4, 5, 7, 8], np := 2, keep := [(0, [0, 1, 7, 8], [])], outs := [(0, [], []), (1000000, [4], [])] }
def an255 : Ann := { vars := [0, 1, 2, 3, 8, 9, 10, 11, 12, 13, 14, 15, 16, 17, 18], np := 4, keep := [(0, [0, 1, 2, 3, 8, 9], [[0]])], outs := [(0, [], [[0]]), (1000000, [], [[0]])], io := [true] }
def an257 : Ann := { vars := [0, 1, 2, 3, 8, 9], np := 4, outs := [(1000000, [8, 9], [])] }
def an258 : Ann := { vars := [0, 1, 2, 6, 7], np := 3, keep := [(0, [0, 1, 2, 6], [[0]]), (2, [0, 1, 2, 6, 7], [[0]])], outs := [(0, [], [[0]]), (2, [0, 1, 2, 6], [[0]]), (1000000, [], [[0]])], io := [true], hw := [((6, 2), [[0]], []), ((6, 3), [[0]], []), ((6, 4), [[0]], []), ((6, 15), [], [[0]]), ((6, 17), [], [[0]])], vk := [((6, 2), [], []), ((6, 3), [], []), ((6, 4), [], []), ((6, 15), [], []), ((6, 17), [], [])] }
def an259 : Ann := { vars := [0, 1, 2, 6, 7, 8, 9, 10], np := 3, keep := [(0, [0, 6, 7, 8, 9], []), (2, [0, 6, 7, 10], [])], outs := [(0, [0, 6, 7, 8], []), (2, [], []), (1000000, [], [])] }
def an260 : Ann := { vars := [0, 1, 2, 6, 7, 8, 9, 10], np := 3, keep := [(0, [0, 1, 6, 7, 8, 9], [[7]])], outs := [(0, [], []), (1000000, [], [])] }
def an261 : Ann := { vars := [0, 1, 2, 6, 7, 8, 9, 10, 11, 12, 49], np := 3, outs := [(1000000, [6, 7], [])] }
def an262 : Ann := { vars := [0, 1, 2, 6, 7], np := 3, keep := [(0, [0, 6, 7], [])], outs := [(0, [], []), (1000000, [], [])] }
def an263 : Ann := { vars := [0, 1, 2, 6, 7, 8, 9, 10], np := 3, keep := [(0, [0, 1, 2, 7, 8], []), (2, [0, 1, 2, 7, 8], []), (4, [0, 1, 2, 7, 8, 9], []), (6, [0, 1, 2, 7, 8, 10], [])], outs := [(0, [], []), (2, [0, 1, 2, 7, 8], []), (4, [0, 1, 2, 7, 8], []), (6, [0, 1, 2, 7, 8], []), (1000000, [6], [])] }
def an264 : Ann := { vars := [0, 1, 4], np := 2, outs := [(1000000, [4], [])] }
def an265 : Ann := { vars := [0, 1, 2, 3, 8, 9, 10], np := 4, keep := [(0, [0, 1, 9, 10], []), (2, [0, 1, 9, 10], []), (4, [0, 1, 9, 10], [])], outs := [(0, [9], []), (2, [0, 1, 9, 10], []), (4, [0, 1, 9, 10], []), (1000000, [8], [])] }
def an266 : Ann := { vars := [0, 1, 2, 3, 8, 9, 10, 11], np := 4, keep := [(0, [0, 1, 10, 11], []), (2, [0, 1, 10, 11], []), (4, [0, 1, 10, 11], []), (6, [0, 1, 10, 11], []), (8, [0, 1, 10, 11], [])], outs := [(0, [0, 1, 10, 11], []), (2, [0, 1, 10, 11], []), (4, [0, 1, 11], []), (6, [0, 1, 10, 11], []), (8, [0, 1, 10, 11], []), (1000000, [8, 9], [])] }
def an267 : Ann := { vars := [0, 1, 2, 3, 8, 9], np := 4, keep := [(0, [0, 2, 3, 8], [])], outs := [(0, [], []), (1000000, [], [])] }
def an268 : Ann := { vars := [0, 1, 2, 6], np := 3, outs := [(1000000, [6], [])] }
def an269 : Ann := { vars := [0, 1, 2, 3, 4, 10], np := 5, outs := [(1000000, [10], [])] }
def an270 : Ann := { vars := [0, 2], np := 1, outs := [(1000000, [2], [])] }
def an271 : Ann := { vars := [0, 1, 2, 3, 8, 9], np := 4, outs := [(1000000, [8, 9], [])] }
def annA : FuncId → Ann
  | 5 => an5
  | 7 => an7
  | 8 => an8
  | 9 => an9
  | 10 => an10
  | 11 => an11
  | 14 => an14
  | 15 => an15
  | 17 => an17
  | 21 => an21
  | 22 => an22
  | 23 => an23
  | 24 => an24
  | 25 => an25
  | 26 => an26
  | 27 => an27
  | 28 => an28
  | 29 => an29
  | 30 => an30
  | 31 => an31
  | 32 => an32
  | 33 => an33
  | 34 => an34
  | 35 => an35
  | 36 => an36
  | 37 => an37
  | 38 => an38
  | 39 => an39
  | 40 => an40
  | 41 => an41
  | 42 => an42
  | 43 => an43
  | 44 => an44
  | 45 => an45
  | 49 => an49
  | 51 => an51
  | 52 => an52
  | 53 => an53
  | 54 => an54
  | 55 => an55
  | 56 => an56
  | 66 => an66
  | 67 => an67
  | 68 => an68
  | 69 => an69
  | 70 => an70
  | 71 => an71
  | 72 => an72
  | 73 => an73
  | 74 => an74
  | 75 => an75
  | 76 => an76
  | 77 => an77
  | 78 => an78
  | 79 => an79
  | 80 => an80
  | 81 => an81
  | 82 => an82
  | 83 => an83
  | 84 => an84
  | 85 => an85
  | 86 => an86
  | 87 => an87
  | 88 => an88
  | 89 => an89
  | 90 => an90
  | 91 => an91
  | 92 => an92
  | 93 => an93
  | 94 => an94
  | 95 => an95
  | 96 => an96
  | 97 => an97
  | 98 => an98
  | 99 => an99
  | 100 => an100
  | 101 => an101
  | 102 => an102
  | 106 => an106
  | 107 => an107
  | 108 => an108
  | 109 => an109
  | 110 => an110
  | 111 => an111
  | 112 => an112
  | 113 => an113
  | 114 => an114
  | 115 => an115
  | 116 => an116
  | 117 => an117
  | 118 => an118
  | 119 => an119
  | 120 => an120
  | 121 => an121
  | 122 => an122
  | 123 => an123
  | 124 => an124
  | 125 => an125
  | 140 => an140
  | 141 => an141
  | 142 => an142
  | 143 => an143
  | 144 => an144
  | 145 => an145
  | 146 => an146
  | 147 => an147
  | 148 => an148
  | 149 => an149
  | 150 => an150
  | 151 => an151
  | 152 => an152
  | 153 => an153
  | 154 => an154
  | 155 => an155
  | 156 => an156
  | 157 => an157
  | 158 => an158
  | 159 => an159
  | 160 => an160
  | 164 => an164
  | 165 => an165
  | 166 => an166
  | 167 => an167
  | 168 => an168
  | 169 => an169
  | 170 => an170
  | 171 => an171
  | 172 => an172
  | 173 => an173
  | 174 => an174
  | 175 => an175
  | 176 => an176
  | 186 => an186
  | 187 => an187
  | 188 => an188
  | 189 => an189
  | 190 => an190
  | 191 => an191
  | 192 => an192
  | 196 => an196
  | 197 => an197
  | 198 => an198
  | 199 => an199
  | 200 => an200
  | 201 => an201
  | 202 => an202
  | 203 => an203
  | 204 => an204
  | 205 => an205
  | 206 => an206
  | 207 => an207
  | 208 => an208
  | 209 => an209
  | 210 => an210
  | 211 => an211
  | 212 => an212
  | 221 => an221
  | 222 => an222
  | 223 => an223
  | 224 => an224
  | 225 => an225
  | 226 => an226
  | 227 => an227
  | 228 => an228
  | 229 => an229
  | 230 => an230
  | 231 => an231
  | 232 => an232
  | 234 => an234
  | 235 => an235
  | 236 => an236
  | 237 => an237
  | 238 => an238
  | 239 => an239
  | 240 => an240
  | 241 => an241
  | 246 => an246
  | 247 => an247
  | 248 => an248
  | 249 => an249
  | 250 => an250
  | 251 => an251
  | 254 => an254
  | 255 => an255
  | 257 => an257
  | 258 => an258
  | 259 => an259
  | 260 => an260
  | 261 => an261
  | 262 => an262
  | 263 => an263
  | 264 => an264
  | 265 => an265
  | 266 => an266
  | 267 => an267
  | 268 => an268
  | 269 => an269
  | 270 => an270
  | 271 => an271
  | _ => {}
theorem annA_5 : annA 5 = an5 := rfl
theorem annA_7 : annA 7 = an7 := rfl
theorem annA_8 : annA 8 = an8 := rfl
theorem annA_9 : annA 9 = an9 := rfl
theorem annA_10 : annA 10 = an10 := rfl
theorem annA_11 : annA 11 = an11 := rfl
theorem annA_14 : annA 14 = an14 := rfl
theorem annA_15 : annA 15 = an15 := rfl
theorem annA_17 : annA 17 = an17 := rfl
theorem annA_21 : annA 21 = an21 := rfl
theorem annA_22 : annA 22 = an22 := rfl
theorem annA_23 : annA 23 = an23 := rfl
theorem annA_24 : annA 24 = an24 := rfl
theorem annA_25 : annA 25 = an25 := rfl
theorem annA_26 : annA 26 = an26 := rfl
theorem annA_27 : annA 27 = an27 := rfl
theorem annA_28 : annA 28 = an28 := rfl
theorem annA_29 : annA 29 = an29 := rfl
theorem annA_30 : annA 30 = an30 := rfl
theorem annA_31 : annA 31 = an31 := rfl
theorem annA_32 : annA 32 = an32 := rfl
theorem annA_33 : annA 33 = an33 := rfl
theorem annA_34 : annA 34 = an34 := rfl
theorem annA_35 : annA 35 = an35 := rfl
theorem annA_36 : annA 36 = an36 := rfl
theorem annA_37 : annA 37 = an37 := rfl
theorem annA_38 : annA 38 = an38 := rfl
theorem annA_39 : annA 39 = an39 := rfl
theorem annA_40 : annA 40 = an40 := rfl
theorem annA_41 : annA 41 = an41 := rfl
theorem annA_42 : annA 42 = an42 := rfl
theorem annA_43 : annA 43 = an43 := rfl
theorem annA_44 : annA 44 = an44 := rfl
theorem annA_45 : annA 45 = an45 := rfl
theorem annA_49 : annA 49 = an49 := rfl
theorem annA_51 : annA 51 = an51 := rfl
theorem annA_52 : annA 52 = an52 := rfl
theorem annA_53 : annA 53 = an53 := rfl
theorem annA_54 : annA 54 = an54 := rfl
theorem annA_55 : annA 55 = an55 := rfl
theorem annA_56 : annA 56 = an56 := rfl
theorem annA_66 : annA 66 = an66 := rfl
theorem annA_67 : annA 67 = an67 := rfl
theorem annA_68 : annA 68 = an68 := rfl
theorem annA_69 : annA 69 = an69 := rfl
theorem annA_70 : annA 70 = an70 := rfl
theorem annA_71 : annA 71 = an71 := rfl
theorem annA_72 : annA 72 = an72 := rfl
theorem annA_73 : annA 73 = an73 := rfl
theorem annA_74 : annA 74 = an74 := rfl
theorem annA_75 : annA 75 = an75 := rfl
theorem annA_76 : annA 76 = an76 := rfl
theorem annA_77 : annA 77 = an77 := rfl
theorem annA_78 : annA 78 = an78 := rfl
theorem annA_79 : annA 79 = an79 := rfl
theorem annA_80 : annA 80 = an80 := rfl
theorem annA_81 : annA 81 = an81 := rfl
theorem annA_82 : annA 82 = an82 := rfl
theorem annA_83 : annA 83 = an83 := rfl
theorem annA_84 : annA 84 = an84 := rfl
theorem annA_85 : annA 85 = an85 := rfl
theorem annA_86 : annA 86 = an86 := rfl
theorem annA_87 : annA 87 = an87 := rfl
theorem annA_88 : annA 88 = an88 := rfl
theorem annA_89 : annA 89 = an89 := rfl
theorem annA_90 : annA 90 = an90 := rfl
theorem annA_91 : annA 91 = an91 := rfl
theorem annA_92 : annA 92 = an92 := rfl
theorem annA_93 : annA 93 = an93 := rfl
theorem annA_94 : annA 94 = an94 := rfl
theorem annA_95 : annA 95 = an95 := rfl
theorem annA_96 : annA 96 = an96 := rfl
theorem annA_97 : annA 97 = an97 := rfl
theorem annA_98 : annA 98 = an98 := rfl
theorem annA_99 : annA 99 = an99 := rfl
theorem annA_100 : annA 100 = an100 := rfl
theorem annA_101 : annA 101 = an101 := rfl
theorem annA_102 : annA 102 = an102 := rfl
theorem annA_106 : annA 106 = an106 := rfl
theorem annA_107 : annA 107 = an107 := rfl
theorem annA_108 : annA 108 = an108 := rfl
theorem annA_109 : annA 109 = an109 := rfl
theorem annA_110 : annA 110 = an110 := rfl
theorem annA_111 : annA 111 = an111 := rfl
theorem annA_112 : annA 112 = an112 := rfl
theorem annA_113 : annA 113 = an113 := rfl
theorem annA_114 : annA 114 = an114 := rfl
theorem annA_115 : annA 115 = an115 := rfl
theorem annA_116 : annA 116 = an116 := rfl
theorem annA_117 : annA 117 = an117 := rfl
theorem annA_118 : annA 118 = an118 := rfl
theorem annA_119 : annA 119 = an119 := rfl
theorem annA_120 : annA 120 = an120 := rfl
theorem annA_121 : annA 121 = an121 := rfl
theorem annA_122 : annA 122 = an122 := rfl
theorem annA_123 : annA 123 = an123 := rfl
theorem annA_124 : annA 124 = an124 := rfl
theorem annA_125 : annA 125 = an125 := rfl
theorem annA_140 : annA 140 = an140 := rfl
theorem annA_141 : annA 141 = an141 := rfl
theorem annA_142 : annA 142 = an142 := rfl
theorem annA_143 : annA 143 = an143 := rfl
theorem annA_144 : annA 144 = an144 := rfl
theorem annA_145 : annA 145 = an145 := rfl
theorem annA_146 : annA 146 = an146 := rfl
theorem annA_147 : annA 147 = an147 := rfl
theorem annA_148 : annA 148 = an148 := rfl
theorem annA_149 : annA 149 = an149 := rfl
theorem annA_150 : annA 150 = an150 := rfl
theorem annA_151 : annA 151 = an151 := rfl
theorem annA_152 : annA 152 = an152 := rfl
theorem annA_153 : annA 153 = an153 := rfl
theorem annA_154 : annA 154 = an154 := rfl
theorem annA_155 : annA 155 = an155 := rfl
theorem annA_156 : annA 156 = an156 := rfl
theorem annA_157 : annA 157 = an157 := rfl
theorem annA_158 : annA 158 = an158 := rfl
theorem annA_159 : annA 159 = an159 := rfl
theorem annA_160 : annA 160 = an160 := rfl
theorem annA_164 : annA 164 = an164 := rfl
theorem annA_165 : annA 165 = an165 := rfl
theorem annA_166 : annA 166 = an166 := rfl
theorem annA_167 : annA 167 = an167 := rfl
theorem annA_168 : annA 168 = an168 := rfl
theorem annA_169 : annA 169 = an169 := rfl
theorem annA_170 : annA 170 = an170 := rfl
theorem annA_171 : annA 171 = an171 := rfl
theorem annA_172 : annA 172 = an172 := rfl
theorem annA_173 : annA 173 = an173 := rfl
theorem annA_174 : annA 174 = an174 := rfl
theorem annA_175 : annA 175 = an175 := rfl
theorem annA_176 : annA 176 = an176 := rfl
theorem annA_186 : annA 186 = an186 := rfl
theorem annA_187 : annA 187 = an187 := rfl
theorem annA_188 : annA 188 = an188 := rfl
theorem annA_189 : annA 189 = an189 := rfl
theorem annA_190 : annA 190 = an190 := rfl
theorem annA_191 : annA 191 = an191 := rfl
theorem annA_192 : annA 192 = an192 := rfl
theorem annA_196 : annA 196 = an196 := rfl
theorem annA_197 : annA 197 = an197 := rfl
theorem annA_198 : annA 198 = an198 := rfl
theorem annA_199 : annA 199 = an199 := rfl
theorem annA_200 : annA 200 = an200 := rfl
theorem annA_201 : annA 201 = an201 := rfl
theorem annA_202 : annA 202 = an202 := rfl
theorem annA_203 : annA 203 = an203 := rfl
theorem annA_204 : annA 204 = an204 := rfl
theorem annA_205 : annA 205 = an205 := rfl
theorem annA_206 : annA 206 = an206 := rfl
theorem annA_207 : annA 207 = an207 := rfl
theorem annA_208 : annA 208 = an208 := rfl
theorem annA_209 : annA 209 = an209 := rfl
theorem annA_210 : annA 210 = an210 := rfl
theorem annA_211 : annA 211 = an211 := rfl
theorem annA_212 : annA 212 = an212 := rfl
theorem annA_221 : annA 221 = an221 := rfl
theorem annA_222 : annA 222 = an222 := rfl
theorem annA_223 : annA 223 = an223 := rfl
theorem annA_224 : annA 224 = an224 := rfl
theorem annA_225 : annA 225 = an225 := rfl
theorem annA_226 : annA 226 = an226 := rfl
theorem annA_227 : annA 227 = an227 := rfl
theorem annA_228 : annA 228 = an228 := rfl
theorem annA_229 : annA 229 = an229 := rfl
theorem annA_230 : annA 230 = an230 := rfl
theorem annA_231 : annA 231 = an231 := rfl
theorem annA_232 : annA 232 = an232 := rfl
theorem annA_234 : annA 234 = an234 := rfl
theorem annA_235 : annA 235 = an235 := rfl
theorem annA_236 : annA 236 = an236 := rfl
theorem annA_237 : annA 237 = an237 := rfl
theorem annA_238 : annA 238 = an238 := rfl
theorem annA_239 : annA 239 = an239 := rfl
theorem annA_240 : annA 240 = an240 := rfl
theorem annA_241 : annA 241 = an241 := rfl
theorem annA_246 : annA 246 = an246 := rfl
theorem annA_247 : annA 247 = an247 := rfl
theorem annA_248 : annA 248 = an248 := rfl
theorem annA_249 : annA 249 = an249 := rfl
theorem annA_250 : annA 250 = an250 := rfl
theorem annA_251 : annA 251 = an251 := rfl
theorem annA_254 : annA 254 = an254 := rfl
theorem annA_255 : annA 255 = an255 := rfl
theorem annA_257 : annA 257 = an257 := rfl
theorem annA_258 : annA 258 = an258 := rfl
theorem annA_259 : annA 259 = an259 := rfl
theorem annA_260 : annA 260 = an260 := rfl
theorem annA_261 : annA 261 = an261 := rfl
theorem annA_262 : annA 262 = an262 := rfl
theorem annA_263 : annA 263 = an263 := rfl
theorem annA_264 : annA 264 = an264 := rfl
theorem annA_265 : annA 265 = an265 := rfl
theorem annA_266 : annA 266 = an266 := rfl
theorem annA_267 : annA 267 = an267 := rfl
theorem annA_268 : annA 268 = an268 := rfl
theorem annA_269 : annA 269 = an269 := rfl
theorem annA_270 : annA 270 = an270 := rfl
theorem annA_271 : annA 271 = an271 := rfl
theorem an5_vars : an5.vars = [0, 1, 2, 3, 4, 5, 6, 7, 8] := rfl
theorem an7_vars : an7.vars = [0, 1, 2, 4] := rfl
theorem an8_vars : an8.vars = [0, 1, 2, 3, 4] := rfl
theorem an9_vars : an9.vars = [0, 1, 2, 3] := rfl
theorem an10_vars : an10.vars = [0, 1, 2] := rfl
theorem an11_vars : an11.vars = [0, 1, 2, 3, 4] := rfl
theorem an14_vars : an14.vars = [0, 1, 2, 3, 4, 5] := rfl
theorem an15_vars : an15.vars = [0, 1, 2, 3, 4, 5] := rfl
theorem an17_vars : an17.vars = [0, 1, 2, 3] := rfl
theorem an21_vars : an21.vars = [0, 1, 2, 4] := rfl
theorem an22_vars : an22.vars = [0, 1, 4] := rfl
theorem an23_vars : an23.vars = [0, 1, 2, 4] := rfl
theorem an24_vars : an24.vars = [0, 1, 2, 4] := rfl
theorem an25_vars : an25.vars = [0, 1, 2, 3, 4] := rfl
theorem an26_vars : an26.vars = [0, 1, 2] := rfl
theorem an27_vars : an27.vars = [0, 1, 2, 6] := rfl
theorem an28_vars : an28.vars = [0, 1, 2, 3, 4] := rfl
theorem an29_vars : an29.vars = [0, 1, 2, 14, 15] := rfl
theorem an30_vars : an30.vars = [0, 1, 2, 3] := rfl
theorem an31_vars : an31.vars = [0, 2, 3, 4] := rfl
theorem an32_vars : an32.vars = [0, 1, 2, 3] := rfl
theorem an33_vars : an33.vars = [0, 1, 2, 3] := rfl
theorem an34_vars : an34.vars = [0, 1, 2] := rfl
theorem an35_vars : an35.vars = [0, 1, 2] := rfl
theorem an36_vars : an36.vars = [0, 1, 2, 6] := rfl
theorem an37_vars : an37.vars = [0, 1, 3, 4] := rfl
theorem an38_vars : an38.vars = [0, 1, 2, 3] := rfl
theorem an39_vars : an39.vars = [0, 1, 2] := rfl
theorem an40_vars : an40.vars = [0, 1, 2] := rfl
theorem an41_vars : an41.vars = [0, 1, 2, 3, 4] := rfl
theorem an42_vars : an42.vars = [0, 1, 2, 3, 4] := rfl
theorem an43_vars : an43.vars = [0, 1, 4, 5] := rfl
theorem an44_vars : an44.vars = [0, 1, 2, 3, 4] := rfl
theorem an45_vars : an45.vars = [0, 1, 2, 3, 4] := rfl
theorem an49_vars : an49.vars = [0, 2] := rfl
theorem an51_vars : an51.vars = [0, 1, 2, 4, 5, 6, 7, 8, 9, 10, 11, 12, 13, 14, 15, 16, 17] := rfl
theorem an52_vars : an52.vars = [0, 1, 2, 3, 4, 5] := rfl
theorem an53_vars : an53.vars = [0, 1, 2, 3, 4] := rfl
theorem an54_vars : an54.vars = [0, 1, 2, 4, 5, 6, 7, 8, 9, 10, 11, 12, 13, 14, 15, 16, 17, 18, 75, 76, 77, 105, 106, 107] := rfl
theorem an55_vars : an55.vars = [0, 1, 2, 3, 4] := rfl
theorem an56_vars : an56.vars = [0, 1, 2, 3, 4, 6, 14, 15, 16] := rfl
theorem an66_vars : an66.vars = [0, 1, 4, 5] := rfl
theorem an67_vars : an67.vars = [0, 1, 4, 5] := rfl
theorem an68_vars : an68.vars = [0, 1, 4] := rfl
theorem an69_vars : an69.vars = [0, 1, 4, 5] := rfl
theorem an70_vars : an70.vars = [0, 1, 2] := rfl
theorem an71_vars : an71.vars = [0, 1, 2] := rfl
theorem an72_vars : an72.vars = [0, 1, 4] := rfl
theorem an73_vars : an73.vars = [0, 1, 4] := rfl
theorem an74_vars : an74.vars = [0, 2, 3] := rfl
theorem an75_vars : an75.vars = [0, 2, 3] := rfl
theorem an76_vars : an76.vars = [0, 2, 3, 4] := rfl
theorem an77_vars : an77.vars = [0, 2, 3, 4] := rfl
theorem an78_vars : an78.vars = [0, 1, 2, 3] := rfl
theorem an79_vars : an79.vars = [0, 2, 3, 4] := rfl
theorem an80_vars : an80.vars = [0, 2, 3, 4] := rfl
theorem an81_vars : an81.vars = [0, 1, 3, 4] := rfl
theorem an82_vars : an82.vars = [0, 2] := rfl
theorem an83_vars : an83.vars = [0, 1, 3, 4] := rfl
theorem an84_vars : an84.vars = [0, 1, 2] := rfl
theorem an85_vars : an85.vars = [0, 2] := rfl
theorem an86_vars : an86.vars = [0, 1, 2] := rfl
theorem an87_vars : an87.vars = [0, 1, 2, 4] := rfl
theorem an88_vars : an88.vars = [0, 1, 2, 4] := rfl
theorem an89_vars : an89.vars = [0, 1, 4] := rfl
theorem an90_vars : an90.vars = [0, 1, 2, 3] := rfl
theorem an91_vars : an91.vars = [0, 2] := rfl
theorem an92_vars : an92.vars = [0, 2, 3] := rfl
theorem an93_vars : an93.vars = [0, 1, 2, 3, 5, 8, 9, 10] := rfl
theorem an94_vars : an94.vars = [0, 1, 3, 4] := rfl
theorem an95_vars : an95.vars = [0, 1, 2] := rfl
theorem an96_vars : an96.vars = [0, 2] := rfl
theorem an97_vars : an97.vars = [0, 1, 2, 4, 5, 23] := rfl
theorem an98_vars : an98.vars = [0, 1, 4, 5] := rfl
theorem an99_vars : an99.vars = [0, 1, 4, 5] := rfl
theorem an100_vars : an100.vars = [0, 1, 2, 3, 4] := rfl
theorem an101_vars : an101.vars = [0, 1, 4, 5] := rfl
theorem an102_vars : an102.vars = [0, 1, 4, 5] := rfl
theorem an106_vars : an106.vars = [0, 1, 4, 5, 6, 7] := rfl
theorem an107_vars : an107.vars = [0, 1, 2, 3, 6, 7] := rfl
theorem an108_vars : an108.vars = [0, 2, 3, 4, 5, 6, 7, 8, 9] := rfl
theorem an109_vars : an109.vars = [0, 2, 3, 4, 5] := rfl
theorem an110_vars : an110.vars = [0, 2, 3, 4] := rfl
theorem an111_vars : an111.vars = [0, 2, 3] := rfl
theorem an112_vars : an112.vars = [0, 1, 2, 3, 4, 5] := rfl
theorem an113_vars : an113.vars = [0, 1, 4, 5] := rfl
theorem an114_vars : an114.vars = [0, 1, 2, 4, 5, 6] := rfl
theorem an115_vars : an115.vars = [0, 1, 4, 5, 6, 7, 8] := rfl
theorem an116_vars : an116.vars = [0, 1, 2, 3, 4, 5, 6, 8, 13] := rfl
theorem an117_vars : an117.vars = [0, 2, 3, 4, 5, 6, 8, 22, 23, 24, 28] := rfl
theorem an118_vars : an118.vars = [0, 2, 3, 4, 5] := rfl
theorem an119_vars : an119.vars = [0, 2, 3] := rfl
theorem an120_vars : an120.vars = [0, 1, 2, 3, 4, 17, 18, 19] := rfl
theorem an121_vars : an121.vars = [0, 1, 4, 5, 12, 13] := rfl
theorem an122_vars : an122.vars = [0, 1, 2, 6, 7, 8, 9, 15, 16, 17] := rfl
theorem an123_vars : an123.vars = [0, 1, 2, 3, 4] := rfl
theorem an124_vars : an124.vars = [0, 1, 3, 4, 5, 8, 9] := rfl
theorem an125_vars : an125.vars = [0, 1, 2, 3, 6] := rfl
theorem an140_vars : an140.vars = [0, 1, 2, 4] := rfl
theorem an141_vars : an141.vars = [0, 1, 2, 4] := rfl
theorem an142_vars : an142.vars = [0, 2] := rfl
theorem an143_vars : an143.vars = [0, 1, 2, 3] := rfl
theorem an144_vars : an144.vars = [0, 1, 2, 3] := rfl
theorem an145_vars : an145.vars = [0, 1, 4] := rfl
theorem an146_vars : an146.vars = [0, 1, 3] := rfl
theorem an147_vars : an147.vars = [0, 1, 4] := rfl
theorem an148_vars : an148.vars = [0, 1, 2, 3] := rfl
theorem an149_vars : an149.vars = [0, 1, 4, 5] := rfl
theorem an150_vars : an150.vars = [0, 1, 4, 5, 7, 8] := rfl
theorem an151_vars : an151.vars = [0, 1, 3, 4] := rfl
theorem an152_vars : an152.vars = [0, 2] := rfl
theorem an153_vars : an153.vars = [0, 2] := rfl
theorem an154_vars : an154.vars = [0, 2] := rfl
theorem an155_vars : an155.vars = [0, 2, 3, 5, 6] := rfl
theorem an156_vars : an156.vars = [0, 2, 3, 4, 5] := rfl
theorem an157_vars : an157.vars = [0, 1, 4] := rfl
theorem an158_vars : an158.vars = [0, 1, 2, 3] := rfl
theorem an159_vars : an159.vars = [0, 1, 2, 3, 4] := rfl
theorem an160_vars : an160.vars = [0, 1, 2, 3, 4] := rfl
theorem an164_vars : an164.vars = [0, 2] := rfl
theorem an165_vars : an165.vars = [0, 2, 3, 4, 5, 6, 7] := rfl
theorem an166_vars : an166.vars = [0, 1, 4, 5, 6] := rfl
theorem an167_vars : an167.vars = [0, 2, 3] := rfl
theorem an168_vars : an168.vars = [0, 1, 2, 3, 4, 5] := rfl
theorem an169_vars : an169.vars = [0, 2, 3, 4, 5] := rfl
theorem an170_vars : an170.vars = [0, 1, 2, 3, 4, 5, 6, 7, 8] := rfl
theorem an171_vars : an171.vars = [0, 1, 2, 4] := rfl
theorem an172_vars : an172.vars = [0, 2, 3, 4, 5, 6] := rfl
theorem an173_vars : an173.vars = [0, 1, 2] := rfl
theorem an174_vars : an174.vars = [0, 2] := rfl
theorem an175_vars : an175.vars = [0, 1, 2] := rfl
theorem an176_vars : an176.vars = [0, 1, 2, 3, 5, 7, 10, 11, 12, 17, 18, 19] := rfl
theorem an186_vars : an186.vars = [0, 1, 4, 5, 7, 8] := rfl
theorem an187_vars : an187.vars = [0, 1, 4, 5, 7, 8] := rfl
theorem an188_vars : an188.vars = [0, 1, 4] := rfl
theorem an189_vars : an189.vars = [0, 1, 3] := rfl
theorem an190_vars : an190.vars = [0, 1, 2, 3, 8, 9, 10, 11, 12, 13, 14, 15, 16, 17, 18] := rfl
theorem an191_vars : an191.vars = [0, 2] := rfl
theorem an192_vars : an192.vars = [0, 1, 4, 5, 7, 8] := rfl
theorem an196_vars : an196.vars = [0, 2, 3] := rfl
theorem an197_vars : an197.vars = [0, 2, 3, 4, 5, 6] := rfl
theorem an198_vars : an198.vars = [0, 2, 3, 4] := rfl
theorem an199_vars : an199.vars = [0, 2, 3] := rfl
theorem an200_vars : an200.vars = [0, 2, 3, 4] := rfl
theorem an201_vars : an201.vars = [0, 2] := rfl
theorem an202_vars : an202.vars = [0, 2, 3, 4, 5] := rfl
theorem an203_vars : an203.vars = [0, 1, 4, 5, 6] := rfl
theorem an204_vars : an204.vars = [0, 1, 3] := rfl
theorem an205_vars : an205.vars = [0, 2] := rfl
theorem an206_vars : an206.vars = [0, 2] := rfl
theorem an207_vars : an207.vars = [0, 1, 2, 3, 5, 8, 9, 10] := rfl
theorem an208_vars : an208.vars = [0, 1, 3, 4] := rfl
theorem an209_vars : an209.vars = [0, 1, 2, 3, 5, 10, 11, 12] := rfl
theorem an210_vars : an210.vars = [0, 2] := rfl
theorem an211_vars : an211.vars = [0, 2, 3] := rfl
theorem an212_vars : an212.vars = [0, 2, 3, 5, 7, 8, 9] := rfl
theorem an221_vars : an221.vars = [0, 1, 4, 5, 7, 8] := rfl
theorem an222_vars : an222.vars = [0, 1, 2, 6, 7] := rfl
theorem an223_vars : an223.vars = [0, 1, 2, 6, 7, 8, 9, 10] := rfl
theorem an224_vars : an224.vars = [0, 1, 2, 6, 7, 8, 9, 10] := rfl
theorem an225_vars : an225.vars = [0, 1, 2, 6, 7, 8, 9, 10, 11, 12, 49] := rfl
theorem an226_vars : an226.vars = [0, 1, 2, 6, 7] := rfl
theorem an227_vars : an227.vars = [0, 1, 2, 6, 7, 8, 9, 10] := rfl
theorem an228_vars : an228.vars = [0, 1, 4] := rfl
theorem an229_vars : an229.vars = [0, 1, 2, 3, 8, 9, 10] := rfl
theorem an230_vars : an230.vars = [0, 1, 2, 3, 8, 9, 10, 11] := rfl
theorem an231_vars : an231.vars = [0, 2] := rfl
theorem an232_vars : an232.vars = [0, 2] := rfl
theorem an234_vars : an234.vars = [0, 2] := rfl
theorem an235_vars : an235.vars = [0, 2, 3, 5, 7, 8, 9] := rfl
theorem an236_vars : an236.vars = [0, 2, 3, 4, 6, 7] := rfl
theorem an237_vars : an237.vars = [0, 2] := rfl
theorem an238_vars : an238.vars = [0, 1, 4] := rfl
theorem an239_vars : an239.vars = [0, 1, 3] := rfl
theorem an240_vars : an240.vars = [0, 2] := rfl
theorem an241_vars : an241.vars = [0, 2, 3, 4, 5] := rfl
theorem an246_vars : an246.vars = [0, 1, 2, 3, 8, 9] := rfl
theorem an247_vars : an247.vars = [0, 2] := rfl
theorem an248_vars : an248.vars = [0, 2] := rfl
theorem an249_vars : an249.vars = [0, 1, 2, 6] := rfl
theorem an250_vars : an250.vars = [0, 1, 2, 3, 4, 10] := rfl
theorem an251_vars : an251.vars = [0, 2] := rfl
theorem an254_vars : an254.vars = [0, 1, 4, 5, 7, 8] := rfl
theorem an255_vars : an255.vars = [0, 1, 2, 3, 8, 9, 10, 11, 12, 13, 14, 15, 16, 17, 18] := rfl
theorem an257_vars : an257.vars = [0, 1, 2, 3, 8, 9] := rfl
theorem an258_vars : an258.vars = [0, 1, 2, 6, 7] := rfl
theorem an259_vars : an259.vars = [0, 1, 2, 6, 7, 8, 9, 10] := rfl
theorem an260_vars : an260.vars = [0, 1, 2, 6, 7, 8, 9, 10] := rfl
theorem an261_vars : an261.vars = [0, 1, 2, 6, 7, 8, 9, 10, 11, 12, 49] := rfl
theorem an262_vars : an262.vars = [0, 1, 2, 6, 7] := rfl
theorem an263_vars : an263.vars = [0, 1, 2, 6, 7, 8, 9, 10] := rfl
theorem an264_vars : an264.vars = [0, 1, 4] := rfl
theorem an265_vars : an265.vars = [0, 1, 2, 3, 8, 9, 10] := rfl
theorem an266_vars : an266.vars = [0, 1, 2, 3, 8, 9, 10, 11] := rfl
theorem an267_vars : an267.vars = [0, 1, 2, 3, 8, 9] := rfl
theorem an268_vars : an268.vars = [0, 1, 2, 6] := rfl
theorem an269_vars : an269.vars = [0, 1, 2, 3, 4, 10] := rfl
theorem an270_vars : an270.vars = [0, 2] := rfl
theorem an271_vars : an271.vars = [0, 1, 2, 3, 8, 9] := rfl
attribute [go_sem] an5_vars an7_vars an8_vars an9_vars an10_vars an11_vars an14_vars an15_vars an17_vars an21_vars an22_vars an23_vars an24_vars an25_vars an26_vars an27_vars an28_vars an29_vars an30_vars an31_vars an32_vars an33_vars an34_vars an35_vars an36_vars an37_vars an38_vars an39_vars an40_vars an41_vars an42_vars an43_vars an44_vars an45_vars an49_vars an51_vars an52_vars an53_vars an54_vars an55_vars an56_vars an66_vars an67_vars an68_vars an69_vars an70_vars an71_vars an72_vars an73_vars an74_vars an75_vars an76_vars an77_vars an78_vars an79_vars an80_vars an81_vars an82_vars an83_vars an84_vars an85_vars an86_vars an87_vars an88_vars an89_vars an90_vars an91_vars an92_vars an93_vars an94_vars an95_vars an96_vars an97_vars an98_vars an99_vars an100_vars an101_vars an102_vars an106_vars an107_vars an108_vars an109_vars an110_vars an111_vars an112_vars an113_vars an114_vars an115_vars an116_vars an117_vars an118_vars an119_vars an120_vars an121_vars an122_vars an123_vars an124_vars an125_vars an140_vars an141_vars an142_vars an143_vars an144_vars an145_vars an146_vars an147_vars an148_vars an149_vars an150_vars an151_vars an152_vars an153_vars an154_vars an155_vars an156_vars an157_vars an158_vars an159_vars an160_vars an164_vars an165_vars an166_vars an167_vars an168_vars an169_vars an170_vars an171_vars an172_vars an173_vars an174_vars an175_vars an176_vars an186_vars an187_vars an188_vars an189_vars an190_vars an191_vars an192_vars an196_vars an197_vars an198_vars an199_vars an200_vars an201_vars an202_vars an203_vars an204_vars an205_vars an206_vars an207_vars an208_vars an209_vars an210_vars an211_vars an212_vars an221_vars an222_vars an223_vars an224_vars an225_vars an226_vars an227_vars an228_vars an229_vars an230_vars an231_vars an232_vars an234_vars an235_vars an236_vars an237_vars an238_vars an239_vars an240_vars an241_vars an246_vars an247_vars an248_vars an249_vars an250_vars an251_vars an254_vars an255_vars an257_vars an258_vars an259_vars an260_vars an261_vars an262_vars an263_vars an264_vars an265_vars an266_vars an267_vars an268_vars an269_vars an270_vars an271_vars
theorem an5_np : an5.np = 1 := rfl
theorem an7_np : an7.np = 2 := rfl
theorem an8_np : an8.np = 1 := rfl
theorem an9_np : an9.np = 1 := rfl
theorem an10_np : an10.np = 1 := rfl
theorem an11_np : an11.np = 2 := rfl
theorem an14_np : an14.np = 1 := rfl
theorem an15_np : an15.np = 1 := rfl
theorem an17_np : an17.np = 1 := rfl
theorem an21_np : an21.np = 2 := rfl
theorem an22_np : an22.np = 2 := rfl
theorem an23_np : an23.np = 2 := rfl
theorem an24_np : an24.np = 2 := rfl
theorem an25_np : an25.np = 1 := rfl
theorem an26_np : an26.np = 1 := rfl
theorem an27_np : an27.np = 3 := rfl
theorem an28_np : an28.np = 1 := rfl
theorem an29_np : an29.np = 1 := rfl
theorem an30_np : an30.np = 1 := rfl
theorem an31_np : an31.np = 1 := rfl
theorem an32_np : an32.np = 1 := rfl
theorem an33_np : an33.np = 1 := rfl
theorem an34_np : an34.np = 1 := rfl
theorem an35_np : an35.np = 1 := rfl
theorem an36_np : an36.np = 3 := rfl
theorem an37_np : an37.np = 2 := rfl
theorem an38_np : an38.np = 2 := rfl
theorem an39_np : an39.np = 1 := rfl
theorem an40_np : an40.np = 1 := rfl
theorem an41_np : an41.np = 2 := rfl
theorem an42_np : an42.np = 2 := rfl
theorem an43_np : an43.np = 2 := rfl
theorem an44_np : an44.np = 2 := rfl
theorem an45_np : an45.np = 2 := rfl
theorem an49_np : an49.np = 1 := rfl
theorem an51_np : an51.np = 2 := rfl
theorem an52_np : an52.np = 2 := rfl
theorem an53_np : an53.np = 1 := rfl
theorem an54_np : an54.np = 2 := rfl
theorem an55_np : an55.np = 2 := rfl
theorem an56_np : an56.np = 1 := rfl
theorem an66_np : an66.np = 2 := rfl
theorem an67_np : an67.np = 2 := rfl
theorem an68_np : an68.np = 2 := rfl
theorem an69_np : an69.np = 2 := rfl
theorem an70_np : an70.np = 1 := rfl
theorem an71_np : an71.np = 1 := rfl
theorem an72_np : an72.np = 2 := rfl
theorem an73_np : an73.np = 2 := rfl
theorem an74_np : an74.np = 1 := rfl
theorem an75_np : an75.np = 1 := rfl
theorem an76_np : an76.np = 1 := rfl
theorem an77_np : an77.np = 1 := rfl
theorem an78_np : an78.np = 1 := rfl
theorem an79_np : an79.np = 1 := rfl
theorem an80_np : an80.np = 1 := rfl
theorem an81_np : an81.np = 2 := rfl
theorem an82_np : an82.np = 1 := rfl
theorem an83_np : an83.np = 2 := rfl
theorem an84_np : an84.np = 1 := rfl
theorem an85_np : an85.np = 1 := rfl
theorem an86_np : an86.np = 1 := rfl
theorem an87_np : an87.np = 2 := rfl
theorem an88_np : an88.np = 2 := rfl
theorem an89_np : an89.np = 2 := rfl
theorem an90_np : an90.np = 2 := rfl
theorem an91_np : an91.np = 1 := rfl
theorem an92_np : an92.np = 1 := rfl
theorem an93_np : an93.np = 1 := rfl
theorem an94_np : an94.np = 2 := rfl
theorem an95_np : an95.np = 1 := rfl
theorem an96_np : an96.np = 1 := rfl
theorem an97_np : an97.np = 1 := rfl
theorem an98_np : an98.np = 2 := rfl
theorem an99_np : an99.np = 2 := rfl
theorem an100_np : an100.np = 2 := rfl
theorem an101_np : an101.np = 2 := rfl
theorem an102_np : an102.np = 2 := rfl
theorem an106_np : an106.np = 2 := rfl
theorem an107_np : an107.np = 3 := rfl
theorem an108_np : an108.np = 1 := rfl
theorem an109_np : an109.np = 1 := rfl
theorem an110_np : an110.np = 1 := rfl
theorem an111_np : an111.np = 1 := rfl
theorem an112_np : an112.np = 1 := rfl
theorem an113_np : an113.np = 2 := rfl
theorem an114_np : an114.np = 2 := rfl
theorem an115_np : an115.np = 2 := rfl
theorem an116_np : an116.np = 3 := rfl
theorem an117_np : an117.np = 1 := rfl
theorem an118_np : an118.np = 1 := rfl
theorem an119_np : an119.np = 1 := rfl
theorem an120_np : an120.np = 1 := rfl
theorem an121_np : an121.np = 2 := rfl
theorem an122_np : an122.np = 3 := rfl
theorem an123_np : an123.np = 2 := rfl
theorem an124_np : an124.np = 2 := rfl
theorem an125_np : an125.np = 3 := rfl
theorem an140_np : an140.np = 2 := rfl
theorem an141_np : an141.np = 2 := rfl
theorem an142_np : an142.np = 1 := rfl
theorem an143_np : an143.np = 1 := rfl
theorem an144_np : an144.np = 1 := rfl
theorem an145_np : an145.np = 2 := rfl
theorem an146_np : an146.np = 2 := rfl
theorem an147_np : an147.np = 2 := rfl
theorem an148_np : an148.np = 2 := rfl
theorem an149_np : an149.np = 2 := rfl
theorem an150_np : an150.np = 2 := rfl
theorem an151_np : an151.np = 2 := rfl
theorem an152_np : an152.np = 1 := rfl
theorem an153_np : an153.np = 1 := rfl
theorem an154_np : an154.np = 1 := rfl
theorem an155_np : an155.np = 1 := rfl
theorem an156_np : an156.np = 1 := rfl
theorem an157_np : an157.np = 2 := rfl
theorem an158_np : an158.np = 2 := rfl
theorem an159_np : an159.np = 2 := rfl
theorem an160_np : an160.np = 2 := rfl
theorem an164_np : an164.np = 1 := rfl
theorem an165_np : an165.np = 1 := rfl
theorem an166_np : an166.np = 2 := rfl
theorem an167_np : an167.np = 1 := rfl
theorem an168_np : an168.np = 1 := rfl
theorem an169_np : an169.np = 1 := rfl
theorem an170_np : an170.np = 1 := rfl
theorem an171_np : an171.np = 2 := rfl
theorem an172_np : an172.np = 1 := rfl
theorem an173_np : an173.np = 1 := rfl
theorem an174_np : an174.np = 1 := rfl
theorem an175_np : an175.np = 1 := rfl
theorem an176_np : an176.np = 1 := rfl
theorem an186_np : an186.np = 2 := rfl
theorem an187_np : an187.np = 2 := rfl
theorem an188_np : an188.np = 2 := rfl
theorem an189_np : an189.np = 2 := rfl
theorem an190_np : an190.np = 4 := rfl
theorem an191_np : an191.np = 1 := rfl
theorem an192_np : an192.np = 2 := rfl
theorem an196_np : an196.np = 1 := rfl
theorem an197_np : an197.np = 1 := rfl
theorem an198_np : an198.np = 1 := rfl
theorem an199_np : an199.np = 1 := rfl
theorem an200_np : an200.np = 1 := rfl
theorem an201_np : an201.np = 1 := rfl
theorem an202_np : an202.np = 1 := rfl
theorem an203_np : an203.np = 2 := rfl
theorem an204_np : an204.np = 2 := rfl
theorem an205_np : an205.np = 1 := rfl
theorem an206_np : an206.np = 1 := rfl
theorem an207_np : an207.np = 1 := rfl
theorem an208_np : an208.np = 2 := rfl
theorem an209_np : an209.np = 1 := rfl
theorem an210_np : an210.np = 1 := rfl
theorem an211_np : an211.np = 1 := rfl
theorem an212_np : an212.np = 1 := rfl
theorem an221_np : an221.np = 2 := rfl
theorem an222_np : an222.np = 3 := rfl
theorem an223_np : an223.np = 3 := rfl
theorem an224_np : an224.np = 3 := rfl
theorem an225_np : an225.np = 3 := rfl
theorem an226_np : an226.np = 3 := rfl
theorem an227_np : an227.np = 3 := rfl
theorem an228_np : an228.np = 2 := rfl
theorem an229_np : an229.np = 4 := rfl
theorem an230_np : an230.np = 4 := rfl
theorem an231_np : an231.np = 1 := rfl
theorem an232_np : an232.np = 1 := rfl
theorem an234_np : an234.np = 1 := rfl
theorem an235_np : an235.np = 1 := rfl
theorem an236_np : an236.np = 1 := rfl
theorem an237_np : an237.np = 1 := rfl
theorem an238_np : an238.np = 2 := rfl
theorem an239_np : an239.np = 2 := rfl
theorem an240_np : an240.np = 1 := rfl
theorem an241_np : an241.np = 1 := rfl
theorem an246_np : an246.np = 4 := rfl
theorem an247_np : an247.np = 1 := rfl
theorem an248_np : an248.np = 1 := rfl
theorem an249_np : an249.np = 3 := rfl
theorem an250_np : an250.np = 5 := rfl
theorem an251_np : an251.np = 1 := rfl
theorem an254_np : an254.np = 2 := rfl
theorem an255_np : an255.np = 4 := rfl
theorem an257_np : an257.np = 4 := rfl
theorem an258_np : an258.np = 3 := rfl
theorem an259_np : an259.np = 3 := rfl
theorem an260_np : an260.np = 3 := rfl
theorem an261_np : an261.np = 3 := rfl
theorem an262_np : an262.np = 3 := rfl
theorem an263_np : an263.np = 3 := rfl
theorem an264_np : an264.np = 2 := rfl
theorem an265_np : an265.np = 4 := rfl
theorem an266_np : an266.np = 4 := rfl
theorem an267_np : an267.np = 4 := rfl
theorem an268_np : an268.np = 3 := rfl
theorem an269_np : an269.np = 5 := rfl
theorem an270_np : an270.np = 1 := rfl
theorem an271_np : an271.np = 4 := rfl
attribute [go_sem] an5_np an7_np an8_np an9_np an10_np an11_np an14_np an15_np an17_np an21_np an22_np an23_np an24_np an25_np an26_np an27_np an28_np an29_np an30_np an31_np an32_np an33_np an34_np an35_np an36_np an37_np an38_np an39_np an40_np an41_np an42_np an43_np an44_np an45_np an49_np an51_np an52_np an53_np an54_np an55_np an56_np an66_np an67_np an68_np an69_np an70_np an71_np an72_np an73_np an74_np an75_np an76_np an77_np an78_np an79_np an80_np an81_np an82_np an83_np an84_np an85_np an86_np an87_np an88_np an89_np an90_np an91_np an92_np an93_np an94_np an95_np an96_np an97_np an98_np an99_np an100_np an101_np an102_np an106_np an107_np an108_np an109_np an110_np an111_np an112_np an113_np an114_np an115_np an116_np an117_np an118_np an119_np an120_np an121_np an122_np an123_np an124_np an125_np an140_np an141_np an142_np an143_np an144_np an145_np an146_np an147_np an148_np an149_np an150_np an151_np an152_np an153_np an154_np an155_np an156_np an157_np an158_np an159_np an160_np an164_np an165_np an166_np an167_np an168_np an169_np an170_np an171_np an172_np an173_np an174_np an175_np an176_np an186_np an187_np an188_np an189_np an190_np an191_np an192_np an196_np an197_np an198_np an199_np an200_np an201_np an202_np an203_np an204_np an205_np an206_np an207_np an208_np an209_np an210_np an211_np an212_np an221_np an222_np an223_np an224_np an225_np an226_np an227_np an228_np an229_np an230_np an231_np an232_np an234_np an235_np an236_np an237_np an238_np an239_np an240_np an241_np an246_np an247_np an248_np an249_np an250_np an251_np an254_np an255_np an257_np an258_np an259_np an260_np an261_np an262_np an263_np an264_np an265_np an266_np an267_np an268_np an269_np an270_np an271_np
theorem an5_keep : an5.keep = [] := rfl
theorem an7_keep : an7.keep = [] := rfl
theorem an8_keep : an8.keep = [(0, [1, 3], [[1]])] := rfl
theorem an9_keep : an9.keep = [] := rfl
theorem an10_keep : an10.keep = [] := rfl
theorem an11_keep : an11.keep = [] := rfl
theorem an14_keep : an14.keep = [] := rfl
theorem an15_keep : an15.keep = [] := rfl
theorem an17_keep : an17.keep = [] := rfl
theorem an21_keep : an21.keep = [] := rfl
theorem an22_keep : an22.keep = [] := rfl
theorem an23_keep : an23.keep = [] := rfl
theorem an24_keep : an24.keep = [] := rfl
theorem an25_keep : an25.keep = [(0, [1, 3], [[1]]), (2, [1, 4], [[1]])] := rfl
theorem an26_keep : an26.keep = [] := rfl
theorem an27_keep : an27.keep = [] := rfl
theorem an28_keep : an28.keep = [(0, [1, 3], [[1]]), (2, [1, 3, 4], [[1]])] := rfl
theorem an29_keep : an29.keep = [] := rfl
theorem an30_keep : an30.keep = [] := rfl
theorem an31_keep : an31.keep = [(0, [0, 3, 4], [[7]])] := rfl
theorem an32_keep : an32.keep = [] := rfl
theorem an33_keep : an33.keep = [] := rfl
theorem an34_keep : an34.keep = [] := rfl
theorem an35_keep : an35.keep = [] := rfl
theorem an36_keep : an36.keep = [] := rfl
theorem an37_keep : an37.keep = [] := rfl
theorem an38_keep : an38.keep = [] := rfl
theorem an39_keep : an39.keep = [] := rfl
theorem an40_keep : an40.keep = [] := rfl
theorem an41_keep : an41.keep = [] := rfl
theorem an42_keep : an42.keep = [] := rfl
theorem an43_keep : an43.keep = [(0, [0, 1, 5], [])] := rfl
theorem an44_keep : an44.keep = [] := rfl
theorem an45_keep : an45.keep = [] := rfl
theorem an49_keep : an49.keep = [] := rfl
theorem an51_keep : an51.keep = [(0, [1, 2, 4, 6, 7, 9, 12], [[2], [4], [6], [18], [19], [121]]), (2, [1, 2, 4, 6, 9, 15], [[2], [4], [6], [18], [19], [121]])] := rfl
theorem an52_keep : an52.keep = [(0, [2, 3, 5], [[2], [3]])] := rfl
theorem an53_keep : an53.keep = [(0, [1, 2, 3, 4], [[1], [2], [3], [9], [36]])] := rfl
theorem an54_keep : an54.keep = [(0, [1, 2, 4, 8, 75, 76, 77], [[2], [4], [8], [49], [101]]), (2, [1, 2, 4, 8, 105, 106, 107], [[2], [4], [8], [49], [101]])] := rfl
theorem an55_keep : an55.keep = [] := rfl
theorem an56_keep : an56.keep = [(0, [2, 3, 4, 14, 15, 16], [[2], [1], [4], [30]])] := rfl
theorem an66_keep : an66.keep = [(0, [0, 1, 5], [])] := rfl
theorem an67_keep : an67.keep = [(0, [0, 1, 5], [])] := rfl
theorem an68_keep : an68.keep = [] := rfl
theorem an69_keep : an69.keep = [(0, [0, 1, 5], [])] := rfl
theorem an70_keep : an70.keep = [] := rfl
theorem an71_keep : an71.keep = [] := rfl
theorem an72_keep : an72.keep = [] := rfl
theorem an73_keep : an73.keep = [] := rfl
theorem an74_keep : an74.keep = [(0, [0, 3], [])] := rfl
theorem an75_keep : an75.keep = [(0, [0, 3], [])] := rfl
theorem an76_keep : an76.keep = [(0, [0, 3, 4], [[7]])] := rfl
theorem an77_keep : an77.keep = [(0, [0, 3, 4], [[7]])] := rfl
theorem an78_keep : an78.keep = [] := rfl
theorem an79_keep : an79.keep = [(0, [0, 3, 4], [[7]])] := rfl
theorem an80_keep : an80.keep = [(0, [0, 3, 4], [[7], [60]])] := rfl
theorem an81_keep : an81.keep = [] := rfl
theorem an82_keep : an82.keep = [] := rfl
theorem an83_keep : an83.keep = [] := rfl
theorem an84_keep : an84.keep = [] := rfl
theorem an85_keep : an85.keep = [] := rfl
theorem an86_keep : an86.keep = [] := rfl
theorem an87_keep : an87.keep = [] := rfl
theorem an88_keep : an88.keep = [] := rfl
theorem an89_keep : an89.keep = [] := rfl
theorem an90_keep : an90.keep = [] := rfl
theorem an91_keep : an91.keep = [] := rfl
theorem an92_keep : an92.keep = [] := rfl
theorem an93_keep : an93.keep = [(0, [3, 8, 9, 10], [[6], [18]])] := rfl
theorem an94_keep : an94.keep = [] := rfl
theorem an95_keep : an95.keep = [] := rfl
theorem an96_keep : an96.keep = [] := rfl
theorem an97_keep : an97.keep = [] := rfl
theorem an98_keep : an98.keep = [(0, [0, 1, 5], [])] := rfl
theorem an99_keep : an99.keep = [(0, [0, 1, 5], [])] := rfl
theorem an100_keep : an100.keep = [] := rfl
theorem an101_keep : an101.keep = [(0, [0, 1, 5], [])] := rfl
theorem an102_keep : an102.keep = [(0, [0, 1, 5], [])] := rfl
theorem an106_keep : an106.keep = [] := rfl
theorem an107_keep : an107.keep = [(0, [1, 2, 3, 7], [[3]])] := rfl
theorem an108_keep : an108.keep = [(0, [4, 6, 7], [[23], [42]]), (2, [4, 6, 7, 8, 9], [[23], [42]])] := rfl
theorem an109_keep : an109.keep = [] := rfl
theorem an110_keep : an110.keep = [(0, [0, 3, 4], [])] := rfl
theorem an111_keep : an111.keep = [(0, [0, 3], [])] := rfl
theorem an112_keep : an112.keep = [(0, [1, 3], [[1]]), (2, [1, 4, 5], [[1]])] := rfl
theorem an113_keep : an113.keep = [(0, [0, 1, 5], [])] := rfl
theorem an114_keep : an114.keep = [(0, [1, 2, 5, 6], [[2], [7], [22]])] := rfl
theorem an115_keep : an115.keep = [] := rfl
theorem an116_keep : an116.keep = [] := rfl
theorem an117_keep : an117.keep = [(0, [6, 22, 23, 24], [[21], [34]]), (2, [6, 8, 22, 23, 24, 28], [[21], [34]])] := rfl
theorem an118_keep : an118.keep = [] := rfl
theorem an119_keep : an119.keep = [(0, [0, 3], [])] := rfl
theorem an120_keep : an120.keep = [(0, [1, 17, 18, 19], [[1]])] := rfl
theorem an121_keep : an121.keep = [(0, [0, 1, 12, 13], [])] := rfl
theorem an122_keep : an122.keep = [(0, [1, 2, 15, 16, 17], [])] := rfl
theorem an123_keep : an123.keep = [] := rfl
theorem an124_keep : an124.keep = [(0, [0, 1, 4, 8, 9], [[6], [18]])] := rfl
theorem an125_keep : an125.keep = [] := rfl
theorem an140_keep : an140.keep = [] := rfl
theorem an141_keep : an141.keep = [] := rfl
theorem an142_keep : an142.keep = [] := rfl
theorem an143_keep : an143.keep = [] := rfl
theorem an144_keep : an144.keep = [] := rfl
theorem an145_keep : an145.keep = [] := rfl
theorem an146_keep : an146.keep = [] := rfl
theorem an147_keep : an147.keep = [] := rfl
theorem an148_keep : an148.keep = [] := rfl
theorem an149_keep : an149.keep = [] := rfl
theorem an150_keep : an150.keep = [(0, [0, 1, 7, 8], [])] := rfl
theorem an151_keep : an151.keep = [] := rfl
theorem an152_keep : an152.keep = [] := rfl
theorem an153_keep : an153.keep = [] := rfl
theorem an154_keep : an154.keep = [] := rfl
theorem an155_keep : an155.keep = [(0, [0, 5, 6], [])] := rfl
theorem an156_keep : an156.keep = [(0, [0, 3], [[0]]), (2, [0, 3, 4, 5], [[0]])] := rfl
theorem an157_keep : an157.keep = [] := rfl
theorem an158_keep : an158.keep = [] := rfl
theorem an159_keep : an159.keep = [] := rfl
theorem an160_keep : an160.keep = [] := rfl
theorem an164_keep : an164.keep = [] := rfl
theorem an165_keep : an165.keep = [(0, [0, 4, 5], [[8], [36]]), (2, [0, 4, 5, 6, 7], [[8], [36]])] := rfl
theorem an166_keep : an166.keep = [] := rfl
theorem an167_keep : an167.keep = [(0, [0, 3], [])] := rfl
theorem an168_keep : an168.keep = [(0, [1, 3], [[1]]), (2, [1, 3, 4], [[1]]), (4, [1, 5], [[1]])] := rfl
theorem an169_keep : an169.keep = [(0, [3, 4], []), (2, [3, 4, 5], [])] := rfl
theorem an170_keep : an170.keep = [(0, [1, 3, 4, 5], [[1], [9], [12], [28]]), (2, [3, 4, 6], [[9], [12], [28]]), (4, [3, 4, 6, 7, 8], [[9], [12], [28]])] := rfl
theorem an171_keep : an171.keep = [] := rfl
theorem an172_keep : an172.keep = [] := rfl
theorem an173_keep : an173.keep = [] := rfl
theorem an174_keep : an174.keep = [] := rfl
theorem an175_keep : an175.keep = [] := rfl
theorem an176_keep : an176.keep = [(0, [3, 10, 11, 12], [[8]]), (2, [3, 10, 11, 12, 17, 18, 19], [[8]])] := rfl
theorem an186_keep : an186.keep = [(0, [0, 1, 7, 8], [])] := rfl
theorem an187_keep : an187.keep = [(0, [0, 1, 7, 8], [[0], [1, 0], [1, 1], [1, 2], [1, 2, 0], [1, 3]])] := rfl
theorem an188_keep : an188.keep = [] := rfl
theorem an189_keep : an189.keep = [] := rfl
theorem an190_keep : an190.keep = [(0, [0, 1, 2, 3, 8, 9], [[0]])] := rfl
theorem an191_keep : an191.keep = [] := rfl
theorem an192_keep : an192.keep = [(0, [0, 1, 7, 8], [])] := rfl
theorem an196_keep : an196.keep = [(0, [0, 3], [])] := rfl
theorem an197_keep : an197.keep = [(0, [0, 3, 4], [[7], [26]]), (2, [0, 3, 4, 5, 6], [[7], [26]])] := rfl
theorem an198_keep : an198.keep = [(0, [0, 3, 4], [])] := rfl
theorem an199_keep : an199.keep = [(0, [0, 3], [])] := rfl
theorem an200_keep : an200.keep = [(0, [0, 3, 4], [[5], [24]])] := rfl
theorem an201_keep : an201.keep = [] := rfl
theorem an202_keep : an202.keep = [(0, [0, 4, 5], [[6], [45]])] := rfl
theorem an203_keep : an203.keep = [] := rfl
theorem an204_keep : an204.keep = [(0, [0, 1, 3], [])] := rfl
theorem an205_keep : an205.keep = [] := rfl
theorem an206_keep : an206.keep = [] := rfl
theorem an207_keep : an207.keep = [(0, [3, 8, 9, 10], [[6], [18]])] := rfl
theorem an208_keep : an208.keep = [] := rfl
theorem an209_keep : an209.keep = [(0, [3, 10, 11, 12], [[8], [20]])] := rfl
theorem an210_keep : an210.keep = [] := rfl
theorem an211_keep : an211.keep = [] := rfl
theorem an212_keep : an212.keep = [(0, [3, 7, 8, 9], [[6], [19]])] := rfl
theorem an221_keep : an221.keep = [(0, [0, 1, 7, 8], [])] := rfl
theorem an222_keep : an222.keep = [(0, [0, 1, 2, 6], [[0]]), (2, [0, 1, 2, 6, 7], [[0]])] := rfl
theorem an223_keep : an223.keep = [(0, [0, 6, 7, 8, 9], []), (2, [0, 6, 7, 10], [])] := rfl
theorem an224_keep : an224.keep = [(0, [0, 1, 6, 7, 8, 9], [[7]])] := rfl
theorem an225_keep : an225.keep = [] := rfl
theorem an226_keep : an226.keep = [(0, [0, 6, 7], [])] := rfl
theorem an227_keep : an227.keep = [(0, [0, 1, 2, 7, 8], []), (2, [0, 1, 2, 7, 8], []), (4, [0, 1, 2, 7, 8, 9], []), (6, [0, 1, 2, 7, 8, 10], [])] := rfl
theorem an228_keep : an228.keep = [] := rfl
theorem an229_keep : an229.keep = [(0, [0, 1, 9, 10], []), (2, [0, 1, 9, 10], []), (4, [0, 1, 9, 10], [])] := rfl
theorem an230_keep : an230.keep = [(0, [0, 1, 10, 11], []), (2, [0, 1, 10, 11], []), (4, [0, 1, 10, 11], []), (6, [0, 1, 10, 11], []), (8, [0, 1, 10, 11], [])] := rfl
theorem an231_keep : an231.keep = [] := rfl
theorem an232_keep : an232.keep = [] := rfl
theorem an234_keep : an234.keep = [] := rfl
theorem an235_keep : an235.keep = [(0, [3, 7, 8, 9], [[6], [26]])] := rfl
theorem an236_keep : an236.keep = [(0, [0, 3, 6, 7], [])] := rfl
theorem an237_keep : an237.keep = [] := rfl
theorem an238_keep : an238.keep = [] := rfl
theorem an239_keep : an239.keep = [] := rfl
theorem an240_keep : an240.keep = [] := rfl
theorem an241_keep : an241.keep = [(0, [0, 3], [[0]]), (2, [0, 3, 4, 5], [[0]])] := rfl
theorem an246_keep : an246.keep = [(0, [0, 2, 3, 8], [])] := rfl
theorem an247_keep : an247.keep = [] := rfl
theorem an248_keep : an248.keep = [] := rfl
theorem an249_keep : an249.keep = [] := rfl
theorem an250_keep : an250.keep = [] := rfl
theorem an251_keep : an251.keep = [] := rfl
theorem an254_keep : an254.keep = [(0, [0, 1, 7, 8], [])] := rfl
theorem an255_keep : an255.keep = [(0, [0, 1, 2, 3, 8, 9], [[0]])] := rfl
theorem an257_keep : an257.keep = [] := rfl
theorem an258_keep : an258.keep = [(0, [0, 1, 2, 6], [[0]]), (2, [0, 1, 2, 6, 7], [[0]])] := rfl
theorem an259_keep : an259.keep = [(0, [0, 6, 7, 8, 9], []), (2, [0, 6, 7, 10], [])] := rfl
theorem an260_keep : an260.keep = [(0, [0, 1, 6, 7, 8, 9], [[7]])] := rfl
theorem an261_keep : an261.keep = [] := rfl
theorem an262_keep : an262.keep = [(0, [0, 6, 7], [])] := rfl
theorem an263_keep : an263.keep = [(0, [0, 1, 2, 7, 8], []), (2, [0, 1, 2, 7, 8], []), (4, [0, 1, 2, 7, 8, 9], []), (6, [0, 1, 2, 7, 8, 10], [])] := rfl
theorem an264_keep : an264.keep = [] := rfl
theorem an265_keep : an265.keep = [(0, [0, 1, 9, 10], []), (2, [0, 1, 9, 10], []), (4, [0, 1, 9, 10], [])] := rfl
theorem an266_keep : an266.keep = [(0, [0, 1, 10, 11], []), (2, [0, 1, 10, 11], []), (4, [0, 1, 10, 11], []), (6, [0, 1, 10, 11], []), (8, [0, 1, 10, 11], [])] := rfl
theorem an267_keep : an267.keep = [(0, [0, 2, 3, 8], [])] := rfl
theorem an268_keep : an268.keep = [] := rfl
theorem an269_keep : an269.keep = [] := rfl
theorem an270_keep : an270.keep = [] := rfl
theorem an271_keep : an271.keep = [] := rfl
attribute [go_sem] an5_keep an7_keep an8_keep an9_keep an10_keep an11_keep an14_keep an15_keep an17_keep an21_keep an22_keep an23_keep an24_keep an25_keep an26_keep an27_keep an28_keep an29_keep an30_keep an31_keep an32_keep an33_keep an34_keep an35_keep an36_keep an37_keep an38_keep an39_keep an40_keep an41_keep an42_keep an43_keep an44_keep an45_keep an49_keep an51_keep an52_keep an53_keep an54_keep an55_keep an56_keep an66_keep an67_keep an68_keep an69_keep an70_keep an71_keep an72_keep an73_keep an74_keep an75_keep an76_keep an77_keep an78_keep an79_keep an80_keep an81_keep an82_keep an83_keep an84_keep an85_keep an86_keep an87_keep an88_keep an89_keep an90_keep an91_keep an92_keep an93_keep an94_keep an95_keep an96_keep an97_keep an98_keep an99_keep an100_keep an101_keep an102_keep an106_keep an107_keep an108_keep an109_keep an110_keep an111_keep an112_keep an113_keep an114_keep an115_keep an116_keep an117_keep an118_keep an119_keep an120_keep an121_keep an122_keep an123_keep an124_keep an125_keep an140_keep an141_keep an142_keep an143_keep an144_keep an145_keep an146_keep an147_keep an148_keep an149_keep an150_keep an151_keep an152_keep an153_keep an154_keep an155_keep an156_keep an157_keep an158_keep an159_keep an160_keep an164_keep an165_keep an166_keep an167_keep an168_keep an169_keep an170_keep an171_keep an172_keep an173_keep an174_keep an175_keep an176_keep an186_keep an187_keep an188_keep an189_keep an190_keep an191_keep an192_keep an196_keep an197_keep an198_keep an199_keep an200_keep an201_keep an202_keep an203_keep an204_keep an205_keep an206_keep an207_keep an208_keep an209_keep an210_keep an211_keep an212_keep an221_keep an222_keep an223_keep an224_keep an225_keep an226_keep an227_keep an228_keep an229_keep an230_keep an231_keep an232_keep an234_keep an235_keep an236_keep an237_keep an238_keep an239_keep an240_keep an241_keep an246_keep an247_keep an248_keep an249_keep an250_keep an251_keep an254_keep an255_keep an257_keep an258_keep an259_keep an260_keep an261_keep an262_keep an263_keep an264_keep an265_keep an266_keep an267_keep an268_keep an269_keep an270_keep an271_keep
theorem an5_outs : an5.outs = [(1000000, [2], [])] := rfl
theorem an7_outs : an7.outs = [(1000000, [4], [])] := rfl
theorem an8_outs : an8.outs = [(0, [], []), (1000000, [2], [])] := rfl
theorem an9_outs : an9.outs = [(1000000, [2], [[2]])] := rfl
theorem an10_outs : an10.outs = [(1000000, [2], [])] := rfl
theorem an11_outs : an11.outs = [(1000000, [4], [])] := rfl
theorem an14_outs : an14.outs = [(1000000, [2, 3], [])] := rfl
theorem an15_outs : an15.outs = [(1000000, [2, 3], [])] := rfl
theorem an17_outs : an17.outs = [(1000000, [2], [[2]])] := rfl
theorem an21_outs : an21.outs = [(1000000, [4], [])] := rfl
theorem an22_outs : an22.outs = [(1000000, [4], [])] := rfl
theorem an23_outs : an23.outs = [(1000000, [4], [])] := rfl
theorem an24_outs : an24.outs = [(1000000, [4], [])] := rfl
theorem an25_outs : an25.outs = [(0, [1], [[1]]), (2, [], []), (1000000, [2], [])] := rfl
theorem an26_outs : an26.outs = [(1000000, [2], [])] := rfl
theorem an27_outs : an27.outs = [(1000000, [6], [])] := rfl
theorem an28_outs : an28.outs = [(0, [], []), (2, [1, 3], [[1]]), (1000000, [2], [])] := rfl
theorem an29_outs : an29.outs = [(1000000, [2], [])] := rfl
theorem an30_outs : an30.outs = [(1000000, [2], [[2], [60], [61]])] := rfl
theorem an31_outs : an31.outs = [(0, [3], [[7]]), (1000000, [2], [[7]])] := rfl
theorem an32_outs : an32.outs = [(1000000, [2], [[2], [60], [61]])] := rfl
theorem an33_outs : an33.outs = [(1000000, [2], [[2]])] := rfl
theorem an34_outs : an34.outs = [(1000000, [2], [])] := rfl
theorem an35_outs : an35.outs = [(1000000, [2], [])] := rfl
theorem an36_outs : an36.outs = [(1000000, [6], [])] := rfl
theorem an37_outs : an37.outs = [(1000000, [4], [])] := rfl
theorem an38_outs : an38.outs = [(1000000, [3], [])] := rfl
theorem an39_outs : an39.outs = [(1000000, [2], [])] := rfl
theorem an40_outs : an40.outs = [(1000000, [2], [])] := rfl
theorem an41_outs : an41.outs = [(1000000, [4], [])] := rfl
theorem an42_outs : an42.outs = [(1000000, [4], [])] := rfl
theorem an43_outs : an43.outs = [(0, [], []), (1000000, [4], [])] := rfl
theorem an44_outs : an44.outs = [(1000000, [4], [])] := rfl
theorem an45_outs : an45.outs = [(1000000, [4], [])] := rfl
theorem an49_outs : an49.outs = [(1000000, [2], [])] := rfl
theorem an51_outs : an51.outs = [(0, [1, 2, 4, 6, 9], [[2], [4], [6], [18], [19], [121]]), (2, [4, 6], [[4], [6], [18], [19], [121]]), (1000000, [4, 5], [[4], [18], [19], [121]])] := rfl
theorem an52_outs : an52.outs = [(0, [], []), (1000000, [4], [])] := rfl
theorem an53_outs : an53.outs = [(0, [2, 3], [[2], [3], [9], [36]]), (1000000, [2], [[2], [9], [36]])] := rfl
theorem an54_outs : an54.outs = [(0, [1, 2, 4, 8], [[2], [4], [8], [49], [101]]), (2, [4, 8], [[4], [8], [49], [101]]), (1000000, [4, 5], [[4], [49], [101]])] := rfl
theorem an55_outs : an55.outs = [(1000000, [4], [])] := rfl
theorem an56_outs : an56.outs = [(0, [2, 4], [[2], [4], [30]]), (1000000, [2], [[2], [30]])] := rfl
theorem an66_outs : an66.outs = [(0, [1], []), (1000000, [4], [])] := rfl
theorem an67_outs : an67.outs = [(0, [1], []), (1000000, [4], [])] := rfl
theorem an68_outs : an68.outs = [(1000000, [4], [])] := rfl
theorem an69_outs : an69.outs = [(0, [1], []), (1000000, [4], [])] := rfl
theorem an70_outs : an70.outs = [(1000000, [2], [])] := rfl
theorem an71_outs : an71.outs = [(1000000, [2], [])] := rfl
theorem an72_outs : an72.outs = [(1000000, [4], [])] := rfl
theorem an73_outs : an73.outs = [(1000000, [4], [])] := rfl
theorem an74_outs : an74.outs = [(0, [0], []), (1000000, [2], [])] := rfl
theorem an75_outs : an75.outs = [(0, [0], []), (1000000, [2], [])] := rfl
theorem an76_outs : an76.outs = [(0, [3], [[7]]), (1000000, [2], [[7]])] := rfl
theorem an77_outs : an77.outs = [(0, [3], [[7]]), (1000000, [2], [[7]])] := rfl
theorem an78_outs : an78.outs = [(1000000, [2], [[2]])] := rfl
theorem an79_outs : an79.outs = [(0, [3], [[7]]), (1000000, [2], [[7]])] := rfl
theorem an80_outs : an80.outs = [(0, [3], [[7], [60]]), (1000000, [2], [[7], [60]])] := rfl
theorem an81_outs : an81.outs = [(1000000, [4], [])] := rfl
theorem an82_outs : an82.outs = [(1000000, [2], [])] := rfl
theorem an83_outs : an83.outs = [(1000000, [4], [])] := rfl
theorem an84_outs : an84.outs = [(1000000, [2], [])] := rfl
theorem an85_outs : an85.outs = [(1000000, [2], [])] := rfl
theorem an86_outs : an86.outs = [(1000000, [2], [])] := rfl
theorem an87_outs : an87.outs = [(1000000, [4], [])] := rfl
theorem an88_outs : an88.outs = [(1000000, [4], [])] := rfl
theorem an89_outs : an89.outs = [(1000000, [4], [])] := rfl
theorem an90_outs : an90.outs = [(1000000, [3], [])] := rfl
theorem an91_outs : an91.outs = [(1000000, [2], [])] := rfl
theorem an92_outs : an92.outs = [(1000000, [2], [])] := rfl
theorem an93_outs : an93.outs = [(0, [3], [[6], [18]]), (1000000, [2], [[6], [18]])] := rfl
theorem an94_outs : an94.outs = [(1000000, [4], [])] := rfl
theorem an95_outs : an95.outs = [(1000000, [2], [])] := rfl
theorem an96_outs : an96.outs = [(1000000, [2], [])] := rfl
theorem an97_outs : an97.outs = [(1000000, [2], [[2]])] := rfl
theorem an98_outs : an98.outs = [(0, [], []), (1000000, [4], [])] := rfl
theorem an99_outs : an99.outs = [(0, [], []), (1000000, [4], [])] := rfl
theorem an100_outs : an100.outs = [(1000000, [4], [])] := rfl
theorem an101_outs : an101.outs = [(0, [], []), (1000000, [4], [])] := rfl
theorem an102_outs : an102.outs = [(0, [], []), (1000000, [4], [])] := rfl
theorem an106_outs : an106.outs = [(1000000, [4, 5], [[23], [39]])] := rfl
theorem an107_outs : an107.outs = [(0, [2, 3], [[3]]), (1000000, [6], [])] := rfl
theorem an108_outs : an108.outs = [(0, [6], [[23], [42]]), (2, [4, 6, 7, 8], [[23], [42]]), (1000000, [2, 3], [[22], [23], [42], [47]])] := rfl
theorem an109_outs : an109.outs = [(1000000, [2, 3], [[18]])] := rfl
theorem an110_outs : an110.outs = [(0, [3], []), (1000000, [2], [])] := rfl
theorem an111_outs : an111.outs = [(0, [3], []), (1000000, [2], [])] := rfl
theorem an112_outs : an112.outs = [(0, [1], [[1]]), (2, [], []), (1000000, [2], [])] := rfl
theorem an113_outs : an113.outs = [(0, [], []), (1000000, [4], [])] := rfl
theorem an114_outs : an114.outs = [(0, [5], [[7], [22]]), (1000000, [4], [[7], [22]])] := rfl
theorem an115_outs : an115.outs = [(1000000, [4, 5], [])] := rfl
theorem an116_outs : an116.outs = [(1000000, [6], [[6]])] := rfl
theorem an117_outs : an117.outs = [(0, [6], [[21], [34]]), (2, [6, 8, 22, 23, 24], [[21], [34]]), (1000000, [2, 3], [[21], [34]])] := rfl
theorem an118_outs : an118.outs = [(1000000, [2, 3], [])] := rfl
theorem an119_outs : an119.outs = [(0, [3], []), (1000000, [2], [])] := rfl
theorem an120_outs : an120.outs = [(0, [], []), (1000000, [2], [])] := rfl
theorem an121_outs : an121.outs = [(0, [], []), (1000000, [4], [])] := rfl
theorem an122_outs : an122.outs = [(0, [], []), (1000000, [6], [])] := rfl
theorem an123_outs : an123.outs = [(1000000, [4], [])] := rfl
theorem an124_outs : an124.outs = [(0, [4], [[6], [18]]), (1000000, [3], [[6], [18]])] := rfl
theorem an125_outs : an125.outs = [(1000000, [6], [])] := rfl
theorem an140_outs : an140.outs = [(1000000, [4], [])] := rfl
theorem an141_outs : an141.outs = [(1000000, [4], [])] := rfl
theorem an142_outs : an142.outs = [(1000000, [2], [])] := rfl
theorem an143_outs : an143.outs = [(1000000, [2], [[2]])] := rfl
theorem an144_outs : an144.outs = [(1000000, [2], [[2], [60]])] := rfl
theorem an145_outs : an145.outs = [(1000000, [4], [])] := rfl
theorem an146_outs : an146.outs = [(1000000, [3], [])] := rfl
theorem an147_outs : an147.outs = [(1000000, [4], [])] := rfl
theorem an148_outs : an148.outs = [(1000000, [3], [])] := rfl
theorem an149_outs : an149.outs = [(1000000, [4], [])] := rfl
theorem an150_outs : an150.outs = [(0, [], []), (1000000, [4], [])] := rfl
theorem an151_outs : an151.outs = [(1000000, [4], [])] := rfl
theorem an152_outs : an152.outs = [(1000000, [2], [])] := rfl
theorem an153_outs : an153.outs = [(1000000, [2], [[5], [7]])] := rfl
theorem an154_outs : an154.outs = [(1000000, [], [[0]])] := rfl
theorem an155_outs : an155.outs = [(0, [0], []), (1000000, [2], [])] := rfl
theorem an156_outs : an156.outs = [(0, [0], [[0]]), (2, [0, 3], [[0]]), (1000000, [2], [[0]])] := rfl
theorem an157_outs : an157.outs = [(1000000, [4], [])] := rfl
theorem an158_outs : an158.outs = [(1000000, [3], [])] := rfl
theorem an159_outs : an159.outs = [(1000000, [4], [])] := rfl
theorem an160_outs : an160.outs = [(1000000, [4], [])] := rfl
theorem an164_outs : an164.outs = [(1000000, [2], [])] := rfl
theorem an165_outs : an165.outs = [(0, [4], [[8], [36]]), (2, [0, 4, 5, 6], [[8], [36]]), (1000000, [2, 3], [[8], [36]])] := rfl
theorem an166_outs : an166.outs = [(1000000, [4], [])] := rfl
theorem an167_outs : an167.outs = [(0, [0], []), (1000000, [2], [])] := rfl
theorem an168_outs : an168.outs = [(0, [1], [[1]]), (2, [1, 3], [[1]]), (4, [], []), (1000000, [2], [])] := rfl
theorem an169_outs : an169.outs = [(0, [], []), (2, [3, 4], []), (1000000, [2], [])] := rfl
theorem an170_outs : an170.outs = [(0, [3, 4], [[9], [12], [28]]), (2, [3], [[9]]), (4, [3, 4, 6], [[9], [12], [28]]), (1000000, [2], [[9]])] := rfl
theorem an171_outs : an171.outs = [(1000000, [4], [])] := rfl
theorem an172_outs : an172.outs = [(1000000, [2, 3, 4], [])] := rfl
theorem an173_outs : an173.outs = [(1000000, [2], [[1]])] := rfl
theorem an174_outs : an174.outs = [(1000000, [2], [])] := rfl
theorem an175_outs : an175.outs = [(1000000, [2], [])] := rfl
theorem an176_outs : an176.outs = [(0, [3], [[8]]), (2, [3, 10, 11, 12], [[8]]), (1000000, [2], [[8]])] := rfl
theorem an186_outs : an186.outs = [(0, [], []), (1000000, [4], [])] := rfl
theorem an187_outs : an187.outs = [(0, [], [[0], [1, 0], [1, 1], [1, 2], [1, 2, 0], [1, 3]]), (1000000, [4], [[0], [1, 0], [1, 1], [1, 2], [1, 2, 0], [1, 3]])] := rfl
theorem an188_outs : an188.outs = [(1000000, [4], [])] := rfl
theorem an189_outs : an189.outs = [(1000000, [3], [])] := rfl
theorem an190_outs : an190.outs = [(0, [], [[0]]), (1000000, [], [[0]])] := rfl
theorem an191_outs : an191.outs = [(1000000, [2], [])] := rfl
theorem an192_outs : an192.outs = [(0, [], []), (1000000, [4], [])] := rfl
theorem an196_outs : an196.outs = [(0, [0], []), (1000000, [2], [])] := rfl
theorem an197_outs : an197.outs = [(0, [3], [[7], [26]]), (2, [0, 3, 4], [[7], [26]]), (1000000, [2], [])] := rfl
theorem an198_outs : an198.outs = [(0, [3], []), (1000000, [2], [])] := rfl
theorem an199_outs : an199.outs = [(0, [0], []), (1000000, [2], [])] := rfl
theorem an200_outs : an200.outs = [(0, [3], [[5], [24]]), (1000000, [2], [[5], [24]])] := rfl
theorem an201_outs : an201.outs = [(1000000, [2], [])] := rfl
theorem an202_outs : an202.outs = [(0, [0, 4], [[6], [45]]), (1000000, [2, 3], [[6], [45]])] := rfl
theorem an203_outs : an203.outs = [(1000000, [4], [])] := rfl
theorem an204_outs : an204.outs = [(0, [], []), (1000000, [], [])] := rfl
theorem an205_outs : an205.outs = [(1000000, [2], [])] := rfl
theorem an206_outs : an206.outs = [(1000000, [2], [])] := rfl
theorem an207_outs : an207.outs = [(0, [3], [[6], [18]]), (1000000, [2], [[6], [18]])] := rfl
theorem an208_outs : an208.outs = [(1000000, [4], [])] := rfl
theorem an209_outs : an209.outs = [(0, [3], [[8], [20]]), (1000000, [2], [[8], [20]])] := rfl
theorem an210_outs : an210.outs = [(1000000, [2], [])] := rfl
theorem an211_outs : an211.outs = [(1000000, [2], [])] := rfl
theorem an212_outs : an212.outs = [(0, [3], [[6], [19]]), (1000000, [2], [[6], [19]])] := rfl
theorem an221_outs : an221.outs = [(0, [], []), (1000000, [4], [])] := rfl
theorem an222_outs : an222.outs = [(0, [], [[0]]), (2, [0, 1, 2, 6], [[0]]), (1000000, [], [[0]])] := rfl
theorem an223_outs : an223.outs = [(0, [0, 6, 7, 8], []), (2, [], []), (1000000, [], [])] := rfl
theorem an224_outs : an224.outs = [(0, [], []), (1000000, [], [])] := rfl
theorem an225_outs : an225.outs = [(1000000, [6, 7], [])] := rfl
theorem an226_outs : an226.outs = [(0, [], []), (1000000, [], [])] := rfl
theorem an227_outs : an227.outs = [(0, [], []), (2, [0, 1, 2, 7, 8], []), (4, [0, 1, 2, 7, 8], []), (6, [0, 1, 2, 7, 8], []), (1000000, [6], [])] := rfl
theorem an228_outs : an228.outs = [(1000000, [4], [])] := rfl
theorem an229_outs : an229.outs = [(0, [9], []), (2, [0, 1, 9, 10], []), (4, [0, 1, 9, 10], []), (1000000, [8], [])] := rfl
theorem an230_outs : an230.outs = [(0, [0, 1, 10, 11], []), (2, [0, 1, 10, 11], []), (4, [0, 1, 11], []), (6, [0, 1, 10, 11], []), (8, [0, 1, 10, 11], []), (1000000, [8, 9], [])] := rfl
theorem an231_outs : an231.outs = [(1000000, [2], [])] := rfl
theorem an232_outs : an232.outs = [(1000000, [2], [])] := rfl
theorem an234_outs : an234.outs = [(1000000, [2], [])] := rfl
theorem an235_outs : an235.outs = [(0, [3], [[6], [26]]), (1000000, [2], [])] := rfl
theorem an236_outs : an236.outs = [(0, [3], []), (1000000, [2], [])] := rfl
theorem an237_outs : an237.outs = [(1000000, [2], [])] := rfl
theorem an238_outs : an238.outs = [(1000000, [4], [])] := rfl
theorem an239_outs : an239.outs = [(1000000, [3], [])] := rfl
theorem an240_outs : an240.outs = [(1000000, [], [[0]])] := rfl
theorem an241_outs : an241.outs = [(0, [0], [[0]]), (2, [0, 3], [[0]]), (1000000, [2], [[0]])] := rfl
theorem an246_outs : an246.outs = [(0, [], []), (1000000, [], [])] := rfl
theorem an247_outs : an247.outs = [(1000000, [2], [])] := rfl
theorem an248_outs : an248.outs = [(1000000, [2], [])] := rfl
theorem an249_outs : an249.outs = [(1000000, [6], [])] := rfl
theorem an250_outs : an250.outs = [(1000000, [10], [])] := rfl
theorem an251_outs : an251.outs = [(1000000, [2], [])] := rfl
theorem an254_outs : an254.outs = [(0, [], []), (1000000, [4], [])] := rfl
theorem an255_outs : an255.outs = [(0, [], [[0]]), (1000000, [], [[0]])] := rfl
theorem an257_outs : an257.outs = [(1000000, [8, 9], [])] := rfl
theorem an258_outs : an258.outs = [(0, [], [[0]]), (2, [0, 1, 2, 6], [[0]]), (1000000, [], [[0]])] := rfl
theorem an259_outs : an259.outs = [(0, [0, 6, 7, 8], []), (2, [], []), (1000000, [], [])] := rfl
theorem an260_outs : an260.outs = [(0, [], []), (1000000, [], [])] := rfl
theorem an261_outs : an261.outs = [(1000000, [6, 7], [])] := rfl
theorem an262_outs : an262.outs = [(0, [], []), (1000000, [], [])] := rfl
theorem an263_outs : an263.outs = [(0, [], []), (2, [0, 1, 2, 7, 8], []), (4, [0, 1, 2, 7, 8], []), (6, [0, 1, 2, 7, 8], []), (1000000, [6], [])] := rfl
theorem an264_outs : an264.outs = [(1000000, [4], [])] := rfl
theorem an265_outs : an265.outs = [(0, [9], []), (2, [0, 1, 9, 10], []), (4, [0, 1, 9, 10], []), (1000000, [8], [])] := rfl
theorem an266_outs : an266.outs = [(0, [0, 1, 10, 11], []), (2, [0, 1, 10, 11], []), (4, [0, 1, 11], []), (6, [0, 1, 10, 11], []), (8, [0, 1, 10, 11], []), (1000000, [8, 9], [])] := rfl
theorem an267_outs : an267.outs = [(0, [], []), (1000000, [], [])] := rfl
theorem an268_outs : an268.outs = [(1000000, [6], [])] := rfl
theorem an269_outs : an269.outs = [(1000000, [10], [])] := rfl
theorem an270_outs : an270.outs = [(1000000, [2], [])] := rfl
theorem an271_outs : an271.outs = [(1000000, [8, 9], [])] := rfl
attribute [go_sem] an5_outs an7_outs an8_outs an9_outs an10_outs an11_outs an14_outs an15_outs an17_outs an21_outs an22_outs an23_outs an24_outs an25_outs an26_outs an27_outs an28_outs an29_outs an30_outs an31_outs an32_outs an33_outs an34_outs an35_outs an36_outs an37_outs an38_outs an39_outs an40_outs an41_outs an42_outs an43_outs an44_outs an45_outs an49_outs an51_outs an52_outs an53_outs an54_outs an55_outs an56_outs an66_outs an67_outs an68_outs an69_outs an70_outs an71_outs an72_outs an73_outs an74_outs an75_outs an76_outs an77_outs an78_outs an79_outs an80_outs an81_outs an82_outs an83_outs an84_outs an85_outs an86_outs an87_outs an88_outs an89_outs an90_outs an91_outs an92_outs an93_outs an94_outs an95_outs an96_outs an97_outs an98_outs an99_outs an100_outs an101_outs an102_outs an106_outs an107_outs an108_outs an109_outs an110_outs an111_outs an112_outs an113_outs an114_outs an115_outs an116_outs an117_outs an118_outs an119_outs an120_outs an121_outs an122_outs an123_outs an124_outs an125_outs an140_outs an141_outs an142_outs an143_outs an144_outs an145_outs an146_outs an147_outs an148_outs an149_outs an150_outs an151_outs an152_outs an153_outs an154_outs an155_outs an156_outs an157_outs an158_outs an159_outs an160_outs an164_outs an165_outs an166_outs an167_outs an168_outs an169_outs an170_outs an171_outs an172_outs an173_outs an174_outs an175_outs an176_outs an186_outs an187_outs an188_outs an189_outs an190_outs an191_outs an192_outs an196_outs an197_outs an198_outs an199_outs an200_outs an201_outs an202_outs an203_outs an204_outs an205_outs an206_outs an207_outs an208_outs an209_outs an210_outs an211_outs an212_outs an221_outs an222_outs an223_outs an224_outs an225_outs an226_outs an227_outs an228_outs an229_outs an230_outs an231_outs an232_outs an234_outs an235_outs an236_outs an237_outs an238_outs an239_outs an240_outs an241_outs an246_outs an247_outs an248_outs an249_outs an250_outs an251_outs an254_outs an255_outs an257_outs an258_outs an259_outs an260_outs an261_outs an262_outs an263_outs an264_outs an265_outs an266_outs an267_outs an268_outs an269_outs an270_outs an271_outs
theorem an5_io : an5.io = [] := rfl
theorem an7_io : an7.io = [] := rfl
theorem an8_io : an8.io = [] := rfl
theorem an9_io : an9.io = [] := rfl
theorem an10_io : an10.io = [] := rfl
theorem an11_io : an11.io = [] := rfl
theorem an14_io : an14.io = [] := rfl
theorem an15_io : an15.io = [] := rfl
theorem an17_io : an17.io = [] := rfl
theorem an21_io : an21.io = [] := rfl
theorem an22_io : an22.io = [] := rfl
theorem an23_io : an23.io = [] := rfl
theorem an24_io : an24.io = [] := rfl
theorem an25_io : an25.io = [] := rfl
theorem an26_io : an26.io = [] := rfl
theorem an27_io : an27.io = [] := rfl
theorem an28_io : an28.io = [] := rfl
theorem an29_io : an29.io = [] := rfl
theorem an30_io : an30.io = [] := rfl
theorem an31_io : an31.io = [] := rfl
theorem an32_io : an32.io = [] := rfl
theorem an33_io : an33.io = [] := rfl
theorem an34_io : an34.io = [] := rfl
theorem an35_io : an35.io = [] := rfl
theorem an36_io : an36.io = [] := rfl
theorem an37_io : an37.io = [] := rfl
theorem an38_io : an38.io = [] := rfl
theorem an39_io : an39.io = [] := rfl
theorem an40_io : an40.io = [] := rfl
theorem an41_io : an41.io = [] := rfl
theorem an42_io : an42.io = [] := rfl
theorem an43_io : an43.io = [] := rfl
theorem an44_io : an44.io = [] := rfl
theorem an45_io : an45.io = [] := rfl
theorem an49_io : an49.io = [] := rfl
theorem an51_io : an51.io = [] := rfl
theorem an52_io : an52.io = [] := rfl
theorem an53_io : an53.io = [] := rfl
theorem an54_io : an54.io = [] := rfl
theorem an55_io : an55.io = [] := rfl
theorem an56_io : an56.io = [] := rfl
theorem an66_io : an66.io = [] := rfl
theorem an67_io : an67.io = [] := rfl
theorem an68_io : an68.io = [] := rfl
theorem an69_io : an69.io = [] := rfl
theorem an70_io : an70.io = [] := rfl
theorem an71_io : an71.io = [] := rfl
theorem an72_io : an72.io = [] := rfl
theorem an73_io : an73.io = [] := rfl
theorem an74_io : an74.io = [] := rfl
theorem an75_io : an75.io = [] := rfl
theorem an76_io : an76.io = [] := rfl
theorem an77_io : an77.io = [] := rfl
theorem an78_io : an78.io = [] := rfl
theorem an79_io : an79.io = [] := rfl
theorem an80_io : an80.io = [] := rfl
theorem an81_io : an81.io = [] := rfl
theorem an82_io : an82.io = [] := rfl
theorem an83_io : an83.io = [] := rfl
theorem an84_io : an84.io = [] := rfl
theorem an85_io : an85.io = [] := rfl
theorem an86_io : an86.io = [] := rfl
theorem an87_io : an87.io = [] := rfl
theorem an88_io : an88.io = [] := rfl
theorem an89_io : an89.io = [] := rfl
theorem an90_io : an90.io = [] := rfl
theorem an91_io : an91.io = [] := rfl
theorem an92_io : an92.io = [] := rfl
theorem an93_io : an93.io = [] := rfl
theorem an94_io : an94.io = [] := rfl
theorem an95_io : an95.io = [] := rfl
theorem an96_io : an96.io = [] := rfl
theorem an97_io : an97.io = [] := rfl
theorem an98_io : an98.io = [] := rfl
theorem an99_io : an99.io = [] := rfl
theorem an100_io : an100.io = [] := rfl
theorem an101_io : an101.io = [] := rfl
theorem an102_io : an102.io = [] := rfl
theorem an106_io : an106.io = [] := rfl
theorem an107_io : an107.io = [] := rfl
theorem an108_io : an108.io = [] := rfl
theorem an109_io : an109.io = [] := rfl
theorem an110_io : an110.io = [] := rfl
theorem an111_io : an111.io = [] := rfl
theorem an112_io : an112.io = [] := rfl
theorem an113_io : an113.io = [] := rfl
theorem an114_io : an114.io = [] := rfl
theorem an115_io : an115.io = [] := rfl
theorem an116_io : an116.io = [] := rfl
theorem an117_io : an117.io = [] := rfl
theorem an118_io : an118.io = [] := rfl
theorem an119_io : an119.io = [] := rfl
theorem an120_io : an120.io = [] := rfl
theorem an121_io : an121.io = [] := rfl
theorem an122_io : an122.io = [] := rfl
theorem an123_io : an123.io = [] := rfl
theorem an124_io : an124.io = [] := rfl
theorem an125_io : an125.io = [] := rfl
theorem an140_io : an140.io = [] := rfl
theorem an141_io : an141.io = [] := rfl
theorem an142_io : an142.io = [] := rfl
theorem an143_io : an143.io = [] := rfl
theorem an144_io : an144.io = [] := rfl
theorem an145_io : an145.io = [] := rfl
theorem an146_io : an146.io = [] := rfl
theorem an147_io : an147.io = [] := rfl
theorem an148_io : an148.io = [] := rfl
theorem an149_io : an149.io = [] := rfl
theorem an150_io : an150.io = [] := rfl
theorem an151_io : an151.io = [] := rfl
theorem an152_io : an152.io = [] := rfl
theorem an153_io : an153.io = [] := rfl
theorem an154_io : an154.io = [true] := rfl
theorem an155_io : an155.io = [] := rfl
theorem an156_io : an156.io = [true] := rfl
theorem an157_io : an157.io = [] := rfl
theorem an158_io : an158.io = [] := rfl
theorem an159_io : an159.io = [] := rfl
theorem an160_io : an160.io = [] := rfl
theorem an164_io : an164.io = [] := rfl
theorem an165_io : an165.io = [] := rfl
theorem an166_io : an166.io = [] := rfl
theorem an167_io : an167.io = [] := rfl
theorem an168_io : an168.io = [] := rfl
theorem an169_io : an169.io = [] := rfl
theorem an170_io : an170.io = [] := rfl
theorem an171_io : an171.io = [] := rfl
theorem an172_io : an172.io = [] := rfl
theorem an173_io : an173.io = [] := rfl
theorem an174_io : an174.io = [] := rfl
theorem an175_io : an175.io = [] := rfl
theorem an176_io : an176.io = [] := rfl
theorem an186_io : an186.io = [] := rfl
theorem an187_io : an187.io = [true, true] := rfl
theorem an188_io : an188.io = [] := rfl
theorem an189_io : an189.io = [] := rfl
theorem an190_io : an190.io = [true] := rfl
theorem an191_io : an191.io = [] := rfl
theorem an192_io : an192.io = [] := rfl
theorem an196_io : an196.io = [] := rfl
theorem an197_io : an197.io = [] := rfl
theorem an198_io : an198.io = [] := rfl
theorem an199_io : an199.io = [] := rfl
theorem an200_io : an200.io = [] := rfl
theorem an201_io : an201.io = [] := rfl
theorem an202_io : an202.io = [] := rfl
theorem an203_io : an203.io = [] := rfl
theorem an204_io : an204.io = [] := rfl
theorem an205_io : an205.io = [] := rfl
theorem an206_io : an206.io = [] := rfl
theorem an207_io : an207.io = [] := rfl
theorem an208_io : an208.io = [] := rfl
theorem an209_io : an209.io = [] := rfl
theorem an210_io : an210.io = [] := rfl
theorem an211_io : an211.io = [] := rfl
theorem an212_io : an212.io = [] := rfl
theorem an221_io : an221.io = [] := rfl
theorem an222_io : an222.io = [true] := rfl
theorem an223_io : an223.io = [] := rfl
theorem an224_io : an224.io = [] := rfl
theorem an225_io : an225.io = [] := rfl
theorem an226_io : an226.io = [] := rfl
theorem an227_io : an227.io = [] := rfl
theorem an228_io : an228.io = [] := rfl
theorem an229_io : an229.io = [] := rfl
theorem an230_io : an230.io = [] := rfl
theorem an231_io : an231.io = [] := rfl
theorem an232_io : an232.io = [] := rfl
theorem an234_io : an234.io = [] := rfl
theorem an235_io : an235.io = [] := rfl
theorem an236_io : an236.io = [] := rfl
theorem an237_io : an237.io = [] := rfl
theorem an238_io : an238.io = [] := rfl
theorem an239_io : an239.io = [] := rfl
theorem an240_io : an240.io = [true] := rfl
theorem an241_io : an241.io = [true] := rfl
theorem an246_io : an246.io = [] := rfl
theorem an247_io : an247.io = [] := rfl
theorem an248_io : an248.io = [] := rfl
theorem an249_io : an249.io = [] := rfl
theorem an250_io : an250.io = [] := rfl
theorem an251_io : an251.io = [] := rfl
theorem an254_io : an254.io = [] := rfl
theorem an255_io : an255.io = [true] := rfl
theorem an257_io : an257.io = [] := rfl
theorem an258_io : an258.io = [true] := rfl
theorem an259_io : an259.io = [] := rfl
theorem an260_io : an260.io = [] := rfl
theorem an261_io : an261.io = [] := rfl
theorem an262_io : an262.io = [] := rfl
theorem an263_io : an263.io = [] := rfl
theorem an264_io : an264.io = [] := rfl
theorem an265_io : an265.io = [] := rfl
theorem an266_io : an266.io = [] := rfl
theorem an267_io : an267.io = [] := rfl
theorem an268_io : an268.io = [] := rfl
theorem an269_io : an269.io = [] := rfl
theorem an270_io : an270.io = [] := rfl
theorem an271_io : an271.io = [] := rfl
attribute [go_sem] an5_io an7_io an8_io an9_io an10_io an11_io an14_io an15_io an17_io an21_io an22_io an23_io an24_io an25_io an26_io an27_io an28_io an29_io an30_io an31_io an32_io an33_io an34_io an35_io an36_io an37_io an38_io an39_io an40_io an41_io an42_io an43_io an44_io an45_io an49_io an51_io an52_io an53_io an54_io an55_io an56_io an66_io an67_io an68_io an69_io an70_io an71_io an72_io an73_io an74_io an75_io an76_io an77_io an78_io an79_io an80_io an81_io an82_io an83_io an84_io an85_io an86_io an87_io an88_io an89_io an90_io an91_io an92_io an93_io an94_io an95_io an96_io an97_io an98_io an99_io an100_io an101_io an102_io an106_io an107_io an108_io an109_io an110_io an111_io an112_io an113_io an114_io an115_io an116_io an117_io an118_io an119_io an120_io an121_io an122_io an123_io an124_io an125_io an140_io an141_io an142_io an143_io an144_io an145_io an146_io an147_io an148_io an149_io an150_io an151_io an152_io an153_io an154_io an155_io an156_io an157_io an158_io an159_io an160_io an164_io an165_io an166_io an167_io an168_io an169_io an170_io an171_io an172_io an173_io an174_io an175_io an176_io an186_io an187_io an188_io an189_io an190_io an191_io an192_io an196_io an197_io an198_io an199_io an200_io an201_io an202_io an203_io an204_io an205_io an206_io an207_io an208_io an209_io an210_io an211_io an212_io an221_io an222_io an223_io an224_io an225_io an226_io an227_io an228_io an229_io an230_io an231_io an232_io an234_io an235_io an236_io an237_io an238_io an239_io an240_io an241_io an246_io an247_io an248_io an249_io an250_io an251_io an254_io an255_io an257_io an258_io an259_io an260_io an261_io an262_io an263_io an264_io an265_io an266_io an267_io an268_io an269_io an270_io an271_io
theorem an5_own : an5.own = [] := rfl
theorem an7_own : an7.own = [] := rfl
theorem an8_own : an8.own = [] := rfl
theorem an9_own : an9.own = [] := rfl
theorem an10_own : an10.own = [] := rfl
theorem an11_own : an11.own = [] := rfl
theorem an14_own : an14.own = [] := rfl
theorem an15_own : an15.own = [] := rfl
theorem an17_own : an17.own = [] := rfl
theorem an21_own : an21.own = [] := rfl
theorem an22_own : an22.own = [] := rfl
theorem an23_own : an23.own = [] := rfl
theorem an24_own : an24.own = [] := rfl
theorem an25_own : an25.own = [] := rfl
theorem an26_own : an26.own = [] := rfl
theorem an27_own : an27.own = [] := rfl
theorem an28_own : an28.own = [] := rfl
theorem an29_own : an29.own = [] := rfl
theorem an30_own : an30.own = [(6, [[60]]), (10, [[61]])] := rfl
theorem an31_own : an31.own = [] := rfl
theorem an32_own : an32.own = [(6, [[60]]), (10, [[61]])] := rfl
theorem an33_own : an33.own = [] := rfl
theorem an34_own : an34.own = [] := rfl
theorem an35_own : an35.own = [] := rfl
theorem an36_own : an36.own = [] := rfl
theorem an37_own : an37.own = [] := rfl
theorem an38_own : an38.own = [] := rfl
theorem an39_own : an39.own = [] := rfl
theorem an40_own : an40.own = [] := rfl
theorem an41_own : an41.own = [] := rfl
theorem an42_own : an42.own = [] := rfl
theorem an43_own : an43.own = [] := rfl
theorem an44_own : an44.own = [] := rfl
theorem an45_own : an45.own = [] := rfl
theorem an49_own : an49.own = [] := rfl
theorem an51_own : an51.own = [] := rfl
theorem an52_own : an52.own = [] := rfl
theorem an53_own : an53.own = [] := rfl
theorem an54_own : an54.own = [] := rfl
theorem an55_own : an55.own = [] := rfl
theorem an56_own : an56.own = [] := rfl
theorem an66_own : an66.own = [] := rfl
theorem an67_own : an67.own = [] := rfl
theorem an68_own : an68.own = [] := rfl
theorem an69_own : an69.own = [] := rfl
theorem an70_own : an70.own = [] := rfl
theorem an71_own : an71.own = [] := rfl
theorem an72_own : an72.own = [] := rfl
theorem an73_own : an73.own = [] := rfl
theorem an74_own : an74.own = [] := rfl
theorem an75_own : an75.own = [] := rfl
theorem an76_own : an76.own = [] := rfl
theorem an77_own : an77.own = [] := rfl
theorem an78_own : an78.own = [] := rfl
theorem an79_own : an79.own = [] := rfl
theorem an80_own : an80.own = [(20, [[60]])] := rfl
theorem an81_own : an81.own = [] := rfl
theorem an82_own : an82.own = [] := rfl
theorem an83_own : an83.own = [] := rfl
theorem an84_own : an84.own = [] := rfl
theorem an85_own : an85.own = [] := rfl
theorem an86_own : an86.own = [] := rfl
theorem an87_own : an87.own = [] := rfl
theorem an88_own : an88.own = [] := rfl
theorem an89_own : an89.own = [] := rfl
theorem an90_own : an90.own = [] := rfl
theorem an91_own : an91.own = [] := rfl
theorem an92_own : an92.own = [(5, [[5]])] := rfl
theorem an93_own : an93.own = [] := rfl
theorem an94_own : an94.own = [] := rfl
theorem an95_own : an95.own = [] := rfl
theorem an96_own : an96.own = [] := rfl
theorem an97_own : an97.own = [] := rfl
theorem an98_own : an98.own = [] := rfl
theorem an99_own : an99.own = [] := rfl
theorem an100_own : an100.own = [] := rfl
theorem an101_own : an101.own = [] := rfl
theorem an102_own : an102.own = [] := rfl
theorem an106_own : an106.own = [] := rfl
theorem an107_own : an107.own = [] := rfl
theorem an108_own : an108.own = [] := rfl
theorem an109_own : an109.own = [] := rfl
theorem an110_own : an110.own = [] := rfl
theorem an111_own : an111.own = [] := rfl
theorem an112_own : an112.own = [] := rfl
theorem an113_own : an113.own = [] := rfl
theorem an114_own : an114.own = [] := rfl
theorem an115_own : an115.own = [] := rfl
theorem an116_own : an116.own = [] := rfl
theorem an117_own : an117.own = [] := rfl
theorem an118_own : an118.own = [] := rfl
theorem an119_own : an119.own = [] := rfl
theorem an120_own : an120.own = [] := rfl
theorem an121_own : an121.own = [] := rfl
theorem an122_own : an122.own = [] := rfl
theorem an123_own : an123.own = [] := rfl
theorem an124_own : an124.own = [] := rfl
theorem an125_own : an125.own = [] := rfl
theorem an140_own : an140.own = [] := rfl
theorem an141_own : an141.own = [] := rfl
theorem an142_own : an142.own = [] := rfl
theorem an143_own : an143.own = [] := rfl
theorem an144_own : an144.own = [(9, [[60]])] := rfl
theorem an145_own : an145.own = [] := rfl
theorem an146_own : an146.own = [] := rfl
theorem an147_own : an147.own = [] := rfl
theorem an148_own : an148.own = [] := rfl
theorem an149_own : an149.own = [] := rfl
theorem an150_own : an150.own = [] := rfl
theorem an151_own : an151.own = [] := rfl
theorem an152_own : an152.own = [] := rfl
theorem an153_own : an153.own = [] := rfl
theorem an154_own : an154.own = [] := rfl
theorem an155_own : an155.own = [] := rfl
theorem an156_own : an156.own = [] := rfl
theorem an157_own : an157.own = [] := rfl
theorem an158_own : an158.own = [] := rfl
theorem an159_own : an159.own = [] := rfl
theorem an160_own : an160.own = [] := rfl
theorem an164_own : an164.own = [] := rfl
theorem an165_own : an165.own = [] := rfl
theorem an166_own : an166.own = [] := rfl
theorem an167_own : an167.own = [] := rfl
theorem an168_own : an168.own = [] := rfl
theorem an169_own : an169.own = [] := rfl
theorem an170_own : an170.own = [] := rfl
theorem an171_own : an171.own = [] := rfl
theorem an172_own : an172.own = [] := rfl
theorem an173_own : an173.own = [] := rfl
theorem an174_own : an174.own = [] := rfl
theorem an175_own : an175.own = [] := rfl
theorem an176_own : an176.own = [] := rfl
theorem an186_own : an186.own = [] := rfl
theorem an187_own : an187.own = [] := rfl
theorem an188_own : an188.own = [] := rfl
theorem an189_own : an189.own = [] := rfl
theorem an190_own : an190.own = [] := rfl
theorem an191_own : an191.own = [] := rfl
theorem an192_own : an192.own = [] := rfl
theorem an196_own : an196.own = [] := rfl
theorem an197_own : an197.own = [] := rfl
theorem an198_own : an198.own = [] := rfl
theorem an199_own : an199.own = [] := rfl
theorem an200_own : an200.own = [] := rfl
theorem an201_own : an201.own = [] := rfl
theorem an202_own : an202.own = [] := rfl
theorem an203_own : an203.own = [] := rfl
theorem an204_own : an204.own = [] := rfl
theorem an205_own : an205.own = [] := rfl
theorem an206_own : an206.own = [] := rfl
theorem an207_own : an207.own = [] := rfl
theorem an208_own : an208.own = [] := rfl
theorem an209_own : an209.own = [] := rfl
theorem an210_own : an210.own = [] := rfl
theorem an211_own : an211.own = [(5, [[5]])] := rfl
theorem an212_own : an212.own = [] := rfl
theorem an221_own : an221.own = [] := rfl
theorem an222_own : an222.own = [] := rfl
theorem an223_own : an223.own = [] := rfl
theorem an224_own : an224.own = [] := rfl
theorem an225_own : an225.own = [] := rfl
theorem an226_own : an226.own = [] := rfl
theorem an227_own : an227.own = [] := rfl
theorem an228_own : an228.own = [] := rfl
theorem an229_own : an229.own = [] := rfl
theorem an230_own : an230.own = [] := rfl
theorem an231_own : an231.own = [] := rfl
theorem an232_own : an232.own = [] := rfl
theorem an234_own : an234.own = [] := rfl
theorem an235_own : an235.own = [] := rfl
theorem an236_own : an236.own = [] := rfl
theorem an237_own : an237.own = [] := rfl
theorem an238_own : an238.own = [] := rfl
theorem an239_own : an239.own = [] := rfl
theorem an240_own : an240.own = [] := rfl
theorem an241_own : an241.own = [] := rfl
theorem an246_own : an246.own = [] := rfl
theorem an247_own : an247.own = [] := rfl
theorem an248_own : an248.own = [] := rfl
theorem an249_own : an249.own = [] := rfl
theorem an250_own : an250.own = [] := rfl
theorem an251_own : an251.own = [] := rfl
theorem an254_own : an254.own = [] := rfl
theorem an255_own : an255.own = [] := rfl
theorem an257_own : an257.own = [] := rfl
theorem an258_own : an258.own = [] := rfl
theorem an259_own : an259.own = [] := rfl
theorem an260_own : an260.own = [] := rfl
theorem an261_own : an261.own = [] := rfl
theorem an262_own : an262.own = [] := rfl
theorem an263_own : an263.own = [] := rfl
theorem an264_own : an264.own = [] := rfl
theorem an265_own : an265.own = [] := rfl
theorem an266_own : an266.own = [] := rfl
theorem an267_own : an267.own = [] := rfl
theorem an268_own : an268.own = [] := rfl
theorem an269_own : an269.own = [] := rfl
theorem an270_own : an270.own = [] := rfl
theorem an271_own : an271.own = [] := rfl
attribute [go_sem] an5_own an7_own an8_own an9_own an10_own an11_own an14_own an15_own an17_own an21_own an22_own an23_own an24_own an25_own an26_own an27_own an28_own an29_own an30_own an31_own an32_own an33_own an34_own an35_own an36_own an37_own an38_own an39_own an40_own an41_own an42_own an43_own an44_own an45_own an49_own an51_own an52_own an53_own an54_own an55_own an56_own an66_own an67_own an68_own an69_own an70_own an71_own an72_own an73_own an74_own an75_own an76_own an77_own an78_own an79_own an80_own an81_own an82_own an83_own an84_own an85_own an86_own an87_own an88_own an89_own an90_own an91_own an92_own an93_own an94_own an95_own an96_own an97_own an98_own an99_own an100_own an101_own an102_own an106_own an107_own an108_own an109_own an110_own an111_own an112_own an113_own an114_own an115_own an116_own an117_own an118_own an119_own an120_own an121_own an122_own an123_own an124_own an125_own an140_own an141_own an142_own an143_own an144_own an145_own an146_own an147_own an148_own an149_own an150_own an151_own an152_own an153_own an154_own an155_own an156_own an157_own an158_own an159_own an160_own an164_own an165_own an166_own an167_own an168_own an169_own an170_own an171_own an172_own an173_own an174_own an175_own an176_own an186_own an187_own an188_own an189_own an190_own an191_own an192_own an196_own an197_own an198_own an199_own an200_own an201_own an202_own an203_own an204_own an205_own an206_own an207_own an208_own an209_own an210_own an211_own an212_own an221_own an222_own an223_own an224_own an225_own an226_own an227_own an228_own an229_own an230_own an231_own an232_own an234_own an235_own an236_own an237_own an238_own an239_own an240_own an241_own an246_own an247_own an248_own an249_own an250_own an251_own an254_own an255_own an257_own an258_own an259_own an260_own an261_own an262_own an263_own an264_own an265_own an266_own an267_own an268_own an269_own an270_own an271_own
theorem an5_hw : an5.hw = [] := rfl
theorem an7_hw : an7.hw = [] := rfl
theorem an8_hw : an8.hw = [] := rfl
theorem an9_hw : an9.hw = [] := rfl
theorem an10_hw : an10.hw = [] := rfl
theorem an11_hw : an11.hw = [] := rfl
theorem an14_hw : an14.hw = [] := rfl
theorem an15_hw : an15.hw = [] := rfl
theorem an17_hw : an17.hw = [] := rfl
theorem an21_hw : an21.hw = [] := rfl
theorem an22_hw : an22.hw = [] := rfl
theorem an23_hw : an23.hw = [] := rfl
theorem an24_hw : an24.hw = [] := rfl
theorem an25_hw : an25.hw = [] := rfl
theorem an26_hw : an26.hw = [] := rfl
theorem an27_hw : an27.hw = [] := rfl
theorem an28_hw : an28.hw = [] := rfl
theorem an29_hw : an29.hw = [] := rfl
theorem an30_hw : an30.hw = [] := rfl
theorem an31_hw : an31.hw = [] := rfl
theorem an32_hw : an32.hw = [] := rfl
theorem an33_hw : an33.hw = [] := rfl
theorem an34_hw : an34.hw = [] := rfl
theorem an35_hw : an35.hw = [] := rfl
theorem an36_hw : an36.hw = [] := rfl
theorem an37_hw : an37.hw = [] := rfl
theorem an38_hw : an38.hw = [] := rfl
theorem an39_hw : an39.hw = [] := rfl
theorem an40_hw : an40.hw = [] := rfl
theorem an41_hw : an41.hw = [] := rfl
theorem an42_hw : an42.hw = [] := rfl
theorem an43_hw : an43.hw = [] := rfl
theorem an44_hw : an44.hw = [] := rfl
theorem an45_hw : an45.hw = [] := rfl
theorem an49_hw : an49.hw = [] := rfl
theorem an51_hw : an51.hw = [((17, 0), [[120]], []), ((17, 1), [[120]], []), ((17, 11), [], [[18], [19], [121]]), ((17, 13), [], [[6]]), ((25, 7), [], [[18], [19], [121]]), ((26, 3), [], [[4]])] := rfl
theorem an52_hw : an52.hw = [] := rfl
theorem an53_hw : an53.hw = [((5, 0), [[35]], []), ((5, 1), [[35]], []), ((5, 18), [], [[9], [36]]), ((5, 20), [], [[3]])] := rfl
theorem an54_hw : an54.hw = [((16, 0), [[100]], []), ((16, 1), [[100]], []), ((16, 7), [], [[49], [101]]), ((16, 9), [], [[8]]), ((25, 7), [], [[49], [101]]), ((27, 3), [], [[4]])] := rfl
theorem an55_hw : an55.hw = [] := rfl
theorem an56_hw : an56.hw = [((6, 0), [[29]], []), ((6, 1), [[29]], []), ((6, 10), [], [[30]]), ((6, 12), [], [[4]])] := rfl
theorem an66_hw : an66.hw = [] := rfl
theorem an67_hw : an67.hw = [] := rfl
theorem an68_hw : an68.hw = [] := rfl
theorem an69_hw : an69.hw = [] := rfl
theorem an70_hw : an70.hw = [] := rfl
theorem an71_hw : an71.hw = [] := rfl
theorem an72_hw : an72.hw = [] := rfl
theorem an73_hw : an73.hw = [] := rfl
theorem an74_hw : an74.hw = [] := rfl
theorem an75_hw : an75.hw = [] := rfl
theorem an76_hw : an76.hw = [] := rfl
theorem an77_hw : an77.hw = [] := rfl
theorem an78_hw : an78.hw = [] := rfl
theorem an79_hw : an79.hw = [] := rfl
theorem an80_hw : an80.hw = [] := rfl
theorem an81_hw : an81.hw = [] := rfl
theorem an82_hw : an82.hw = [] := rfl
theorem an83_hw : an83.hw = [] := rfl
theorem an84_hw : an84.hw = [] := rfl
theorem an85_hw : an85.hw = [] := rfl
theorem an86_hw : an86.hw = [] := rfl
theorem an87_hw : an87.hw = [] := rfl
theorem an88_hw : an88.hw = [] := rfl
theorem an89_hw : an89.hw = [] := rfl
theorem an90_hw : an90.hw = [] := rfl
theorem an91_hw : an91.hw = [] := rfl
theorem an92_hw : an92.hw = [] := rfl
theorem an93_hw : an93.hw = [] := rfl
theorem an94_hw : an94.hw = [] := rfl
theorem an95_hw : an95.hw = [] := rfl
theorem an96_hw : an96.hw = [] := rfl
theorem an97_hw : an97.hw = [] := rfl
theorem an98_hw : an98.hw = [] := rfl
theorem an99_hw : an99.hw = [] := rfl
theorem an100_hw : an100.hw = [] := rfl
theorem an101_hw : an101.hw = [] := rfl
theorem an102_hw : an102.hw = [] := rfl
theorem an106_hw : an106.hw = [] := rfl
theorem an107_hw : an107.hw = [] := rfl
theorem an108_hw : an108.hw = [] := rfl
theorem an109_hw : an109.hw = [] := rfl
theorem an110_hw : an110.hw = [] := rfl
theorem an111_hw : an111.hw = [] := rfl
theorem an112_hw : an112.hw = [] := rfl
theorem an113_hw : an113.hw = [] := rfl
theorem an114_hw : an114.hw = [((5, 0), [[21]], []), ((5, 8), [], [[7], [22]])] := rfl
theorem an115_hw : an115.hw = [] := rfl
theorem an116_hw : an116.hw = [] := rfl
theorem an117_hw : an117.hw = [] := rfl
theorem an118_hw : an118.hw = [] := rfl
theorem an119_hw : an119.hw = [] := rfl
theorem an120_hw : an120.hw = [] := rfl
theorem an121_hw : an121.hw = [] := rfl
theorem an122_hw : an122.hw = [] := rfl
theorem an123_hw : an123.hw = [] := rfl
theorem an124_hw : an124.hw = [] := rfl
theorem an125_hw : an125.hw = [] := rfl
theorem an140_hw : an140.hw = [] := rfl
theorem an141_hw : an141.hw = [] := rfl
theorem an142_hw : an142.hw = [] := rfl
theorem an143_hw : an143.hw = [] := rfl
theorem an144_hw : an144.hw = [] := rfl
theorem an145_hw : an145.hw = [] := rfl
theorem an146_hw : an146.hw = [] := rfl
theorem an147_hw : an147.hw = [] := rfl
theorem an148_hw : an148.hw = [] := rfl
theorem an149_hw : an149.hw = [] := rfl
theorem an150_hw : an150.hw = [] := rfl
theorem an151_hw : an151.hw = [] := rfl
theorem an152_hw : an152.hw = [] := rfl
theorem an153_hw : an153.hw = [] := rfl
theorem an154_hw : an154.hw = [] := rfl
theorem an155_hw : an155.hw = [] := rfl
theorem an156_hw : an156.hw = [] := rfl
theorem an157_hw : an157.hw = [] := rfl
theorem an158_hw : an158.hw = [] := rfl
theorem an159_hw : an159.hw = [] := rfl
theorem an160_hw : an160.hw = [] := rfl
theorem an164_hw : an164.hw = [] := rfl
theorem an165_hw : an165.hw = [] := rfl
theorem an166_hw : an166.hw = [] := rfl
theorem an167_hw : an167.hw = [] := rfl
theorem an168_hw : an168.hw = [] := rfl
theorem an169_hw : an169.hw = [] := rfl
theorem an170_hw : an170.hw = [] := rfl
theorem an171_hw : an171.hw = [] := rfl
theorem an172_hw : an172.hw = [] := rfl
theorem an173_hw : an173.hw = [] := rfl
theorem an174_hw : an174.hw = [] := rfl
theorem an175_hw : an175.hw = [] := rfl
theorem an176_hw : an176.hw = [] := rfl
theorem an186_hw : an186.hw = [] := rfl
theorem an187_hw : an187.hw = [] := rfl
theorem an188_hw : an188.hw = [] := rfl
theorem an189_hw : an189.hw = [] := rfl
theorem an190_hw : an190.hw = [] := rfl
theorem an191_hw : an191.hw = [] := rfl
theorem an192_hw : an192.hw = [] := rfl
theorem an196_hw : an196.hw = [] := rfl
theorem an197_hw : an197.hw = [] := rfl
theorem an198_hw : an198.hw = [] := rfl
theorem an199_hw : an199.hw = [] := rfl
theorem an200_hw : an200.hw = [] := rfl
theorem an201_hw : an201.hw = [] := rfl
theorem an202_hw : an202.hw = [((5, 0), [[44]], []), ((5, 27), [], [[6], [45]])] := rfl
theorem an203_hw : an203.hw = [((1, 7), [[12]], []), ((1, 8), [[12]], [])] := rfl
theorem an204_hw : an204.hw = [] := rfl
theorem an205_hw : an205.hw = [] := rfl
theorem an206_hw : an206.hw = [] := rfl
theorem an207_hw : an207.hw = [] := rfl
theorem an208_hw : an208.hw = [] := rfl
theorem an209_hw : an209.hw = [] := rfl
theorem an210_hw : an210.hw = [] := rfl
theorem an211_hw : an211.hw = [] := rfl
theorem an212_hw : an212.hw = [] := rfl
theorem an221_hw : an221.hw = [] := rfl
theorem an222_hw : an222.hw = [((6, 2), [[0]], []), ((6, 3), [[0]], []), ((6, 4), [[0]], []), ((6, 15), [], [[0]]), ((6, 17), [], [[0]])] := rfl
theorem an223_hw : an223.hw = [] := rfl
theorem an224_hw : an224.hw = [] := rfl
theorem an225_hw : an225.hw = [] := rfl
theorem an226_hw : an226.hw = [] := rfl
theorem an227_hw : an227.hw = [] := rfl
theorem an228_hw : an228.hw = [] := rfl
theorem an229_hw : an229.hw = [] := rfl
theorem an230_hw : an230.hw = [] := rfl
theorem an231_hw : an231.hw = [] := rfl
theorem an232_hw : an232.hw = [] := rfl
theorem an234_hw : an234.hw = [] := rfl
theorem an235_hw : an235.hw = [] := rfl
theorem an236_hw : an236.hw = [] := rfl
theorem an237_hw : an237.hw = [] := rfl
theorem an238_hw : an238.hw = [] := rfl
theorem an239_hw : an239.hw = [] := rfl
theorem an240_hw : an240.hw = [] := rfl
theorem an241_hw : an241.hw = [] := rfl
theorem an246_hw : an246.hw = [] := rfl
theorem an247_hw : an247.hw = [] := rfl
theorem an248_hw : an248.hw = [] := rfl
theorem an249_hw : an249.hw = [] := rfl
theorem an250_hw : an250.hw = [] := rfl
theorem an251_hw : an251.hw = [] := rfl
theorem an254_hw : an254.hw = [] := rfl
theorem an255_hw : an255.hw = [] := rfl
theorem an257_hw : an257.hw = [] := rfl
theorem an258_hw : an258.hw = [((6, 2), [[0]], []), ((6, 3), [[0]], []), ((6, 4), [[0]], []), ((6, 15), [], [[0]]), ((6, 17), [], [[0]])] := rfl
theorem an259_hw : an259.hw = [] := rfl
theorem an260_hw : an260.hw = [] := rfl
theorem an261_hw : an261.hw = [] := rfl
theorem an262_hw : an262.hw = [] := rfl
theorem an263_hw : an263.hw = [] := rfl
theorem an264_hw : an264.hw = [] := rfl
theorem an265_hw : an265.hw = [] := rfl
theorem an266_hw : an266.hw = [] := rfl
theorem an267_hw : an267.hw = [] := rfl
theorem an268_hw : an268.hw = [] := rfl
theorem an269_hw : an269.hw = [] := rfl
theorem an270_hw : an270.hw = [] := rfl
theorem an271_hw : an271.hw = [] := rfl
attribute [go_sem] an5_hw an7_hw an8_hw an9_hw an10_hw an11_hw an14_hw an15_hw an17_hw an21_hw an22_hw an23_hw an24_hw an25_hw an26_hw an27_hw an28_hw an29_hw an30_hw an31_hw an32_hw an33_hw an34_hw an35_hw an36_hw an37_hw an38_hw an39_hw an40_hw an41_hw an42_hw an43_hw an44_hw an45_hw an49_hw an51_hw an52_hw an53_hw an54_hw an55_hw an56_hw an66_hw an67_hw an68_hw an69_hw an70_hw an71_hw an72_hw an73_hw an74_hw an75_hw an76_hw an77_hw an78_hw an79_hw an80_hw an81_hw an82_hw an83_hw an84_hw an85_hw an86_hw an87_hw an88_hw an89_hw an90_hw an91_hw an92_hw an93_hw an94_hw an95_hw an96_hw an97_hw an98_hw an99_hw an100_hw an101_hw an102_hw an106_hw an107_hw an108_hw an109_hw an110_hw an111_hw an112_hw an113_hw an114_hw an115_hw an116_hw an117_hw an118_hw an119_hw an120_hw an121_hw an122_hw an123_hw an124_hw an125_hw an140_hw an141_hw an142_hw an143_hw an144_hw an145_hw an146_hw an147_hw an148_hw an149_hw an150_hw an151_hw an152_hw an153_hw an154_hw an155_hw an156_hw an157_hw an158_hw an159_hw an160_hw an164_hw an165_hw an166_hw an167_hw an168_hw an169_hw an170_hw an171_hw an172_hw an173_hw an174_hw an175_hw an176_hw an186_hw an187_hw an188_hw an189_hw an190_hw an191_hw an192_hw an196_hw an197_hw an198_hw an199_hw an200_hw an201_hw an202_hw an203_hw an204_hw an205_hw an206_hw an207_hw an208_hw an209_hw an210_hw an211_hw an212_hw an221_hw an222_hw an223_hw an224_hw an225_hw an226_hw an227_hw an228_hw an229_hw an230_hw an231_hw an232_hw an234_hw an235_hw an236_hw an237_hw an238_hw an239_hw an240_hw an241_hw an246_hw an247_hw an248_hw an249_hw an250_hw an251_hw an254_hw an255_hw an257_hw an258_hw an259_hw an260_hw an261_hw an262_hw an263_hw an264_hw an265_hw an266_hw an267_hw an268_hw an269_hw an270_hw an271_hw
theorem an5_vk : an5.vk = [] := rfl
theorem an7_vk : an7.vk = [] := rfl
theorem an8_vk : an8.vk = [] := rfl
theorem an9_vk : an9.vk = [] := rfl
theorem an10_vk : an10.vk = [] := rfl
theorem an11_vk : an11.vk = [] := rfl
theorem an14_vk : an14.vk = [] := rfl
theorem an15_vk : an15.vk = [] := rfl
theorem an17_vk : an17.vk = [] := rfl
theorem an21_vk : an21.vk = [] := rfl
theorem an22_vk : an22.vk = [] := rfl
theorem an23_vk : an23.vk = [] := rfl
theorem an24_vk : an24.vk = [] := rfl
theorem an25_vk : an25.vk = [] := rfl
theorem an26_vk : an26.vk = [] := rfl
theorem an27_vk : an27.vk = [] := rfl
theorem an28_vk : an28.vk = [] := rfl
theorem an29_vk : an29.vk = [] := rfl
theorem an30_vk : an30.vk = [] := rfl
theorem an31_vk : an31.vk = [] := rfl
theorem an32_vk : an32.vk = [] := rfl
theorem an33_vk : an33.vk = [] := rfl
theorem an34_vk : an34.vk = [] := rfl
theorem an35_vk : an35.vk = [] := rfl
theorem an36_vk : an36.vk = [] := rfl
theorem an37_vk : an37.vk = [] := rfl
theorem an38_vk : an38.vk = [] := rfl
theorem an39_vk : an39.vk = [] := rfl
theorem an40_vk : an40.vk = [] := rfl
theorem an41_vk : an41.vk = [] := rfl
theorem an42_vk : an42.vk = [] := rfl
theorem an43_vk : an43.vk = [] := rfl
theorem an44_vk : an44.vk = [] := rfl
theorem an45_vk : an45.vk = [] := rfl
theorem an49_vk : an49.vk = [] := rfl
theorem an51_vk : an51.vk = [((25, 7), [], [])] := rfl
theorem an52_vk : an52.vk = [] := rfl
theorem an53_vk : an53.vk = [] := rfl
theorem an54_vk : an54.vk = [((25, 7), [], [])] := rfl
theorem an55_vk : an55.vk = [] := rfl
theorem an56_vk : an56.vk = [] := rfl
theorem an66_vk : an66.vk = [] := rfl
theorem an67_vk : an67.vk = [] := rfl
theorem an68_vk : an68.vk = [] := rfl
theorem an69_vk : an69.vk = [] := rfl
theorem an70_vk : an70.vk = [] := rfl
theorem an71_vk : an71.vk = [] := rfl
theorem an72_vk : an72.vk = [] := rfl
theorem an73_vk : an73.vk = [] := rfl
theorem an74_vk : an74.vk = [] := rfl
theorem an75_vk : an75.vk = [] := rfl
theorem an76_vk : an76.vk = [] := rfl
theorem an77_vk : an77.vk = [] := rfl
theorem an78_vk : an78.vk = [] := rfl
theorem an79_vk : an79.vk = [] := rfl
theorem an80_vk : an80.vk = [] := rfl
theorem an81_vk : an81.vk = [] := rfl
theorem an82_vk : an82.vk = [] := rfl
theorem an83_vk : an83.vk = [] := rfl
theorem an84_vk : an84.vk = [] := rfl
theorem an85_vk : an85.vk = [] := rfl
theorem an86_vk : an86.vk = [] := rfl
theorem an87_vk : an87.vk = [] := rfl
theorem an88_vk : an88.vk = [] := rfl
theorem an89_vk : an89.vk = [] := rfl
theorem an90_vk : an90.vk = [] := rfl
theorem an91_vk : an91.vk = [] := rfl
theorem an92_vk : an92.vk = [] := rfl
theorem an93_vk : an93.vk = [] := rfl
theorem an94_vk : an94.vk = [] := rfl
theorem an95_vk : an95.vk = [] := rfl
theorem an96_vk : an96.vk = [] := rfl
theorem an97_vk : an97.vk = [] := rfl
theorem an98_vk : an98.vk = [] := rfl
theorem an99_vk : an99.vk = [] := rfl
theorem an100_vk : an100.vk = [] := rfl
theorem an101_vk : an101.vk = [] := rfl
theorem an102_vk : an102.vk = [] := rfl
theorem an106_vk : an106.vk = [] := rfl
theorem an107_vk : an107.vk = [] := rfl
theorem an108_vk : an108.vk = [] := rfl
theorem an109_vk : an109.vk = [] := rfl
theorem an110_vk : an110.vk = [] := rfl
theorem an111_vk : an111.vk = [] := rfl
theorem an112_vk : an112.vk = [] := rfl
theorem an113_vk : an113.vk = [] := rfl
theorem an114_vk : an114.vk = [] := rfl
theorem an115_vk : an115.vk = [] := rfl
theorem an116_vk : an116.vk = [] := rfl
theorem an117_vk : an117.vk = [] := rfl
theorem an118_vk : an118.vk = [] := rfl
theorem an119_vk : an119.vk = [] := rfl
theorem an120_vk : an120.vk = [] := rfl
theorem an121_vk : an121.vk = [] := rfl
theorem an122_vk : an122.vk = [] := rfl
theorem an123_vk : an123.vk = [] := rfl
theorem an124_vk : an124.vk = [] := rfl
theorem an125_vk : an125.vk = [] := rfl
theorem an140_vk : an140.vk = [] := rfl
theorem an141_vk : an141.vk = [] := rfl
theorem an142_vk : an142.vk = [] := rfl
theorem an143_vk : an143.vk = [] := rfl
theorem an144_vk : an144.vk = [] := rfl
theorem an145_vk : an145.vk = [] := rfl
theorem an146_vk : an146.vk = [] := rfl
theorem an147_vk : an147.vk = [] := rfl
theorem an148_vk : an148.vk = [] := rfl
theorem an149_vk : an149.vk = [] := rfl
theorem an150_vk : an150.vk = [] := rfl
theorem an151_vk : an151.vk = [] := rfl
theorem an152_vk : an152.vk = [] := rfl
theorem an153_vk : an153.vk = [] := rfl
theorem an154_vk : an154.vk = [] := rfl
theorem an155_vk : an155.vk = [] := rfl
theorem an156_vk : an156.vk = [] := rfl
theorem an157_vk : an157.vk = [] := rfl
theorem an158_vk : an158.vk = [] := rfl
theorem an159_vk : an159.vk = [] := rfl
theorem an160_vk : an160.vk = [] := rfl
theorem an164_vk : an164.vk = [] := rfl
theorem an165_vk : an165.vk = [] := rfl
theorem an166_vk : an166.vk = [] := rfl
theorem an167_vk : an167.vk = [] := rfl
theorem an168_vk : an168.vk = [] := rfl
theorem an169_vk : an169.vk = [] := rfl
theorem an170_vk : an170.vk = [] := rfl
theorem an171_vk : an171.vk = [] := rfl
theorem an172_vk : an172.vk = [] := rfl
theorem an173_vk : an173.vk = [] := rfl
theorem an174_vk : an174.vk = [] := rfl
theorem an175_vk : an175.vk = [] := rfl
theorem an176_vk : an176.vk = [] := rfl
theorem an186_vk : an186.vk = [] := rfl
theorem an187_vk : an187.vk = [] := rfl
theorem an188_vk : an188.vk = [] := rfl
theorem an189_vk : an189.vk = [] := rfl
theorem an190_vk : an190.vk = [] := rfl
theorem an191_vk : an191.vk = [] := rfl
theorem an192_vk : an192.vk = [] := rfl
theorem an196_vk : an196.vk = [] := rfl
theorem an197_vk : an197.vk = [] := rfl
theorem an198_vk : an198.vk = [] := rfl
theorem an199_vk : an199.vk = [] := rfl
theorem an200_vk : an200.vk = [] := rfl
theorem an201_vk : an201.vk = [] := rfl
theorem an202_vk : an202.vk = [] := rfl
theorem an203_vk : an203.vk = [] := rfl
theorem an204_vk : an204.vk = [] := rfl
theorem an205_vk : an205.vk = [] := rfl
theorem an206_vk : an206.vk = [] := rfl
theorem an207_vk : an207.vk = [] := rfl
theorem an208_vk : an208.vk = [] := rfl
theorem an209_vk : an209.vk = [] := rfl
theorem an210_vk : an210.vk = [] := rfl
theorem an211_vk : an211.vk = [] := rfl
theorem an212_vk : an212.vk = [] := rfl
theorem an221_vk : an221.vk = [] := rfl
theorem an222_vk : an222.vk = [((6, 2), [], []), ((6, 3), [], []), ((6, 4), [], []), ((6, 15), [], []), ((6, 17), [], [])] := rfl
theorem an223_vk : an223.vk = [] := rfl
theorem an224_vk : an224.vk = [] := rfl
theorem an225_vk : an225.vk = [] := rfl
theorem an226_vk : an226.vk = [] := rfl
theorem an227_vk : an227.vk = [] := rfl
theorem an228_vk : an228.vk = [] := rfl
theorem an229_vk : an229.vk = [] := rfl
theorem an230_vk : an230.vk = [] := rfl
theorem an231_vk : an231.vk = [] := rfl
theorem an232_vk : an232.vk = [] := rfl
theorem an234_vk : an234.vk = [] := rfl
theorem an235_vk : an235.vk = [] := rfl
theorem an236_vk : an236.vk = [] := rfl
theorem an237_vk : an237.vk = [] := rfl
theorem an238_vk : an238.vk = [] := rfl
theorem an239_vk : an239.vk = [] := rfl
theorem an240_vk : an240.vk = [] := rfl
theorem an241_vk : an241.vk = [] := rfl
theorem an246_vk : an246.vk = [] := rfl
theorem an247_vk : an247.vk = [] := rfl
theorem an248_vk : an248.vk = [] := rfl
theorem an249_vk : an249.vk = [] := rfl
theorem an250_vk : an250.vk = [] := rfl
theorem an251_vk : an251.vk = [] := rfl
theorem an254_vk : an254.vk = [] := rfl
theorem an255_vk : an255.vk = [] := rfl
theorem an257_vk : an257.vk = [] := rfl
theorem an258_vk : an258.vk = [((6, 2), [], []), ((6, 3), [], []), ((6, 4), [], []), ((6, 15), [], []), ((6, 17), [], [])] := rfl
theorem an259_vk : an259.vk = [] := rfl
theorem an260_vk : an260.vk = [] := rfl
theorem an261_vk : an261.vk = [] := rfl
theorem an262_vk : an262.vk = [] := rfl
theorem an263_vk : an263.vk = [] := rfl
theorem an264_vk : an264.vk = [] := rfl
theorem an265_vk : an265.vk = [] := rfl
theorem an266_vk : an266.vk = [] := rfl
theorem an267_vk : an267.vk = [] := rfl
theorem an268_vk : an268.vk = [] := rfl
theorem an269_vk : an269.vk = [] := rfl
theorem an270_vk : an270.vk = [] := rfl
theorem an271_vk : an271.vk = [] := rfl
attribute [go_sem] an5_vk an7_vk an8_vk an9_vk an10_vk an11_vk an14_vk an15_vk an17_vk an21_vk an22_vk an23_vk an24_vk an25_vk an26_vk an27_vk an28_vk an29_vk an30_vk an31_vk an32_vk an33_vk an34_vk an35_vk an36_vk an37_vk an38_vk an39_vk an40_vk an41_vk an42_vk an43_vk an44_vk an45_vk an49_vk an51_vk an52_vk an53_vk an54_vk an55_vk an56_vk an66_vk an67_vk an68_vk an69_vk an70_vk an71_vk an72_vk an73_vk an74_vk an75_vk an76_vk an77_vk an78_vk an79_vk an80_vk an81_vk an82_vk an83_vk an84_vk an85_vk an86_vk an87_vk an88_vk an89_vk an90_vk an91_vk an92_vk an93_vk an94_vk an95_vk an96_vk an97_vk an98_vk an99_vk an100_vk an101_vk an102_vk an106_vk an107_vk an108_vk an109_vk an110_vk an111_vk an112_vk an113_vk an114_vk an115_vk an116_vk an117_vk an118_vk an119_vk an120_vk an121_vk an122_vk an123_vk an124_vk an125_vk an140_vk an141_vk an142_vk an143_vk an144_vk an145_vk an146_vk an147_vk an148_vk an149_vk an150_vk an151_vk an152_vk an153_vk an154_vk an155_vk an156_vk an157_vk an158_vk an159_vk an160_vk an164_vk an165_vk an166_vk an167_vk an168_vk an169_vk an170_vk an171_vk an172_vk an173_vk an174_vk an175_vk an176_vk an186_vk an187_vk an188_vk an189_vk an190_vk an191_vk an192_vk an196_vk an197_vk an198_vk an199_vk an200_vk an201_vk an202_vk an203_vk an204_vk an205_vk an206_vk an207_vk an208_vk an209_vk an210_vk an211_vk an212_vk an221_vk an222_vk an223_vk an224_vk an225_vk an226_vk an227_vk an228_vk an229_vk an230_vk an231_vk an232_vk an234_vk an235_vk an236_vk an237_vk an238_vk an239_vk an240_vk an241_vk an246_vk an247_vk an248_vk an249_vk an250_vk an251_vk an254_vk an255_vk an257_vk an258_vk an259_vk an260_vk an261_vk an262_vk an263_vk an264_vk an265_vk an266_vk an267_vk an268_vk an269_vk an270_vk an271_vk
theorem an5_dp : an5.dp = false := rfl
theorem an7_dp : an7.dp = false := rfl
theorem an8_dp : an8.dp = false := rfl
theorem an9_dp : an9.dp = false := rfl
theorem an10_dp : an10.dp = false := rfl
theorem an11_dp : an11.dp = false := rfl
theorem an14_dp : an14.dp = false := rfl
theorem an15_dp : an15.dp = false := rfl
theorem an17_dp : an17.dp = false := rfl
theorem an21_dp : an21.dp = false := rfl
theorem an22_dp : an22.dp = false := rfl
theorem an23_dp : an23.dp = false := rfl
theorem an24_dp : an24.dp = false := rfl
theorem an25_dp : an25.dp = false := rfl
theorem an26_dp : an26.dp = false := rfl
theorem an27_dp : an27.dp = false := rfl
theorem an28_dp : an28.dp = false := rfl
theorem an29_dp : an29.dp = false := rfl
theorem an30_dp : an30.dp = false := rfl
theorem an31_dp : an31.dp = false := rfl
theorem an32_dp : an32.dp = false := rfl
theorem an33_dp : an33.dp = false := rfl
theorem an34_dp : an34.dp = false := rfl
theorem an35_dp : an35.dp = false := rfl
theorem an36_dp : an36.dp = false := rfl
theorem an37_dp : an37.dp = false := rfl
theorem an38_dp : an38.dp = false := rfl
theorem an39_dp : an39.dp = false := rfl
theorem an40_dp : an40.dp = false := rfl
theorem an41_dp : an41.dp = false := rfl
theorem an42_dp : an42.dp = false := rfl
theorem an43_dp : an43.dp = false := rfl
theorem an44_dp : an44.dp = false := rfl
theorem an45_dp : an45.dp = false := rfl
theorem an49_dp : an49.dp = false := rfl
theorem an51_dp : an51.dp = false := rfl
theorem an52_dp : an52.dp = false := rfl
theorem an53_dp : an53.dp = false := rfl
theorem an54_dp : an54.dp = false := rfl
theorem an55_dp : an55.dp = false := rfl
theorem an56_dp : an56.dp = false := rfl
theorem an66_dp : an66.dp = false := rfl
theorem an67_dp : an67.dp = false := rfl
theorem an68_dp : an68.dp = false := rfl
theorem an69_dp : an69.dp = false := rfl
theorem an70_dp : an70.dp = false := rfl
theorem an71_dp : an71.dp = false := rfl
theorem an72_dp : an72.dp = false := rfl
theorem an73_dp : an73.dp = false := rfl
theorem an74_dp : an74.dp = false := rfl
theorem an75_dp : an75.dp = false := rfl
theorem an76_dp : an76.dp = false := rfl
theorem an77_dp : an77.dp = false := rfl
theorem an78_dp : an78.dp = false := rfl
theorem an79_dp : an79.dp = false := rfl
theorem an80_dp : an80.dp = true := rfl
theorem an81_dp : an81.dp = false := rfl
theorem an82_dp : an82.dp = false := rfl
theorem an83_dp : an83.dp = false := rfl
theorem an84_dp : an84.dp = false := rfl
theorem an85_dp : an85.dp = false := rfl
theorem an86_dp : an86.dp = false := rfl
theorem an87_dp : an87.dp = false := rfl
theorem an88_dp : an88.dp = false := rfl
theorem an89_dp : an89.dp = false := rfl
theorem an90_dp : an90.dp = false := rfl
theorem an91_dp : an91.dp = false := rfl
theorem an92_dp : an92.dp = false := rfl
theorem an93_dp : an93.dp = false := rfl
theorem an94_dp : an94.dp = false := rfl
theorem an95_dp : an95.dp = false := rfl
theorem an96_dp : an96.dp = false := rfl
theorem an97_dp : an97.dp = false := rfl
theorem an98_dp : an98.dp = false := rfl
theorem an99_dp : an99.dp = false := rfl
theorem an100_dp : an100.dp = false := rfl
theorem an101_dp : an101.dp = false := rfl
theorem an102_dp : an102.dp = false := rfl
theorem an106_dp : an106.dp = false := rfl
theorem an107_dp : an107.dp = false := rfl
theorem an108_dp : an108.dp = false := rfl
theorem an109_dp : an109.dp = false := rfl
theorem an110_dp : an110.dp = false := rfl
theorem an111_dp : an111.dp = false := rfl
theorem an112_dp : an112.dp = false := rfl
theorem an113_dp : an113.dp = false := rfl
theorem an114_dp : an114.dp = false := rfl
theorem an115_dp : an115.dp = false := rfl
theorem an116_dp : an116.dp = false := rfl
theorem an117_dp : an117.dp = false := rfl
theorem an118_dp : an118.dp = false := rfl
theorem an119_dp : an119.dp = false := rfl
theorem an120_dp : an120.dp = false := rfl
theorem an121_dp : an121.dp = false := rfl
theorem an122_dp : an122.dp = false := rfl
theorem an123_dp : an123.dp = false := rfl
theorem an124_dp : an124.dp = false := rfl
theorem an125_dp : an125.dp = false := rfl
theorem an140_dp : an140.dp = false := rfl
theorem an141_dp : an141.dp = false := rfl
theorem an142_dp : an142.dp = false := rfl
theorem an143_dp : an143.dp = false := rfl
theorem an144_dp : an144.dp = false := rfl
theorem an145_dp : an145.dp = false := rfl
theorem an146_dp : an146.dp = false := rfl
theorem an147_dp : an147.dp = false := rfl
theorem an148_dp : an148.dp = false := rfl
theorem an149_dp : an149.dp = false := rfl
theorem an150_dp : an150.dp = false := rfl
theorem an151_dp : an151.dp = false := rfl
theorem an152_dp : an152.dp = false := rfl
theorem an153_dp : an153.dp = false := rfl
theorem an154_dp : an154.dp = false := rfl
theorem an155_dp : an155.dp = false := rfl
theorem an156_dp : an156.dp = false := rfl
theorem an157_dp : an157.dp = false := rfl
theorem an158_dp : an158.dp = false := rfl
theorem an159_dp : an159.dp = false := rfl
theorem an160_dp : an160.dp = false := rfl
theorem an164_dp : an164.dp = false := rfl
theorem an165_dp : an165.dp = false := rfl
theorem an166_dp : an166.dp = false := rfl
theorem an167_dp : an167.dp = false := rfl
theorem an168_dp : an168.dp = false := rfl
theorem an169_dp : an169.dp = false := rfl
theorem an170_dp : an170.dp = false := rfl
theorem an171_dp : an171.dp = false := rfl
theorem an172_dp : an172.dp = false := rfl
theorem an173_dp : an173.dp = false := rfl
theorem an174_dp : an174.dp = false := rfl
theorem an175_dp : an175.dp = false := rfl
theorem an176_dp : an176.dp = false := rfl
theorem an186_dp : an186.dp = false := rfl
theorem an187_dp : an187.dp = false := rfl
theorem an188_dp : an188.dp = false := rfl
theorem an189_dp : an189.dp = false := rfl
theorem an190_dp : an190.dp = false := rfl
theorem an191_dp : an191.dp = false := rfl
theorem an192_dp : an192.dp = false := rfl
theorem an196_dp : an196.dp = false := rfl
theorem an197_dp : an197.dp = false := rfl
theorem an198_dp : an198.dp = false := rfl
theorem an199_dp : an199.dp = false := rfl
theorem an200_dp : an200.dp = false := rfl
theorem an201_dp : an201.dp = false := rfl
theorem an202_dp : an202.dp = false := rfl
theorem an203_dp : an203.dp = false := rfl
theorem an204_dp : an204.dp = false := rfl
theorem an205_dp : an205.dp = false := rfl
theorem an206_dp : an206.dp = false := rfl
theorem an207_dp : an207.dp = false := rfl
theorem an208_dp : an208.dp = false := rfl
theorem an209_dp : an209.dp = false := rfl
theorem an210_dp : an210.dp = false := rfl
theorem an211_dp : an211.dp = false := rfl
theorem an212_dp : an212.dp = false := rfl
theorem an221_dp : an221.dp = false := rfl
theorem an222_dp : an222.dp = false := rfl
theorem an223_dp : an223.dp = false := rfl
theorem an224_dp : an224.dp = false := rfl
theorem an225_dp : an225.dp = false := rfl
theorem an226_dp : an226.dp = false := rfl
theorem an227_dp : an227.dp = false := rfl
theorem an228_dp : an228.dp = false := rfl
theorem an229_dp : an229.dp = false := rfl
theorem an230_dp : an230.dp = false := rfl
theorem an231_dp : an231.dp = false := rfl
theorem an232_dp : an232.dp = false := rfl
theorem an234_dp : an234.dp = false := rfl
theorem an235_dp : an235.dp = false := rfl
theorem an236_dp : an236.dp = false := rfl
theorem an237_dp : an237.dp = false := rfl
theorem an238_dp : an238.dp = false := rfl
theorem an239_dp : an239.dp = false := rfl
theorem an240_dp : an240.dp = false := rfl
theorem an241_dp : an241.dp = false := rfl
theorem an246_dp : an246.dp = false := rfl
theorem an247_dp : an247.dp = false := rfl
theorem an248_dp : an248.dp = false := rfl
theorem an249_dp : an249.dp = false := rfl
theorem an250_dp : an250.dp = false := rfl
theorem an251_dp : an251.dp = false := rfl
theorem an254_dp : an254.dp = false := rfl
theorem an255_dp : an255.dp = false := rfl
theorem an257_dp : an257.dp = false := rfl
theorem an258_dp : an258.dp = false := rfl
theorem an259_dp : an259.dp = false := rfl
theorem an260_dp : an260.dp = false := rfl
theorem an261_dp : an261.dp = false := rfl
theorem an262_dp : an262.dp = false := rfl
theorem an263_dp : an263.dp = false := rfl
theorem an264_dp : an264.dp = false := rfl
theorem an265_dp : an265.dp = false := rfl
theorem an266_dp : an266.dp = false := rfl
theorem an267_dp : an267.dp = false := rfl
theorem an268_dp : an268.dp = false := rfl
theorem an269_dp : an269.dp = false := rfl
theorem an270_dp : an270.dp = false := rfl
theorem an271_dp : an271.dp = false := rfl
attribute [go_sem] an5_dp an7_dp an8_dp an9_dp an10_dp an11_dp an14_dp an15_dp an17_dp an21_dp an22_dp an23_dp an24_dp an25_dp an26_dp an27_dp an28_dp an29_dp an30_dp an31_dp an32_dp an33_dp an34_dp an35_dp an36_dp an37_dp an38_dp an39_dp an40_dp an41_dp an42_dp an43_dp an44_dp an45_dp an49_dp an51_dp an52_dp an53_dp an54_dp an55_dp an56_dp an66_dp an67_dp an68_dp an69_dp an70_dp an71_dp an72_dp an73_dp an74_dp an75_dp an76_dp an77_dp an78_dp an79_dp an80_dp an81_dp an82_dp an83_dp an84_dp an85_dp an86_dp an87_dp an88_dp an89_dp an90_dp an91_dp an92_dp an93_dp an94_dp an95_dp an96_dp an97_dp an98_dp an99_dp an100_dp an101_dp an102_dp an106_dp an107_dp an108_dp an109_dp an110_dp an111_dp an112_dp an113_dp an114_dp an115_dp an116_dp an117_dp an118_dp an119_dp an120_dp an121_dp an122_dp an123_dp an124_dp an125_dp an140_dp an141_dp an142_dp an143_dp an144_dp an145_dp an146_dp an147_dp an148_dp an149_dp an150_dp an151_dp an152_dp an153_dp an154_dp an155_dp an156_dp an157_dp an158_dp an159_dp an160_dp an164_dp an165_dp an166_dp an167_dp an168_dp an169_dp an170_dp an171_dp an172_dp an173_dp an174_dp an175_dp an176_dp an186_dp an187_dp an188_dp an189_dp an190_dp an191_dp an192_dp an196_dp an197_dp an198_dp an199_dp an200_dp an201_dp an202_dp an203_dp an204_dp an205_dp an206_dp an207_dp an208_dp an209_dp an210_dp an211_dp an212_dp an221_dp an222_dp an223_dp an224_dp an225_dp an226_dp an227_dp an228_dp an229_dp an230_dp an231_dp an232_dp an234_dp an235_dp an236_dp an237_dp an238_dp an239_dp an240_dp an241_dp an246_dp an247_dp an248_dp an249_dp an250_dp an251_dp an254_dp an255_dp an257_dp an258_dp an259_dp an260_dp an261_dp an262_dp an263_dp an264_dp an265_dp an266_dp an267_dp an268_dp an269_dp an270_dp an271_dp
theorem an5_fl : an5.fl = [] := rfl
theorem an7_fl : an7.fl = [] := rfl
theorem an8_fl : an8.fl = [] := rfl
theorem an9_fl : an9.fl = [] := rfl
theorem an10_fl : an10.fl = [] := rfl
theorem an11_fl : an11.fl = [] := rfl
theorem an14_fl : an14.fl = [] := rfl
theorem an15_fl : an15.fl = [] := rfl
theorem an17_fl : an17.fl = [] := rfl
theorem an21_fl : an21.fl = [] := rfl
theorem an22_fl : an22.fl = [] := rfl
theorem an23_fl : an23.fl = [] := rfl
theorem an24_fl : an24.fl = [] := rfl
theorem an25_fl : an25.fl = [] := rfl
theorem an26_fl : an26.fl = [] := rfl
theorem an27_fl : an27.fl = [] := rfl
theorem an28_fl : an28.fl = [] := rfl
theorem an29_fl : an29.fl = [] := rfl
theorem an30_fl : an30.fl = [] := rfl
theorem an31_fl : an31.fl = [] := rfl
theorem an32_fl : an32.fl = [] := rfl
theorem an33_fl : an33.fl = [] := rfl
theorem an34_fl : an34.fl = [] := rfl
theorem an35_fl : an35.fl = [] := rfl
theorem an36_fl : an36.fl = [] := rfl
theorem an37_fl : an37.fl = [] := rfl
theorem an38_fl : an38.fl = [] := rfl
theorem an39_fl : an39.fl = [] := rfl
theorem an40_fl : an40.fl = [] := rfl
theorem an41_fl : an41.fl = [] := rfl
theorem an42_fl : an42.fl = [] := rfl
theorem an43_fl : an43.fl = [] := rfl
theorem an44_fl : an44.fl = [] := rfl
theorem an45_fl : an45.fl = [] := rfl
theorem an49_fl : an49.fl = [] := rfl
theorem an51_fl : an51.fl = [] := rfl
theorem an52_fl : an52.fl = [] := rfl
theorem an53_fl : an53.fl = [] := rfl
theorem an54_fl : an54.fl = [] := rfl
theorem an55_fl : an55.fl = [] := rfl
theorem an56_fl : an56.fl = [] := rfl
theorem an66_fl : an66.fl = [] := rfl
theorem an67_fl : an67.fl = [] := rfl
theorem an68_fl : an68.fl = [] := rfl
theorem an69_fl : an69.fl = [] := rfl
theorem an70_fl : an70.fl = [] := rfl
theorem an71_fl : an71.fl = [] := rfl
theorem an72_fl : an72.fl = [] := rfl
theorem an73_fl : an73.fl = [] := rfl
theorem an74_fl : an74.fl = [] := rfl
theorem an75_fl : an75.fl = [] := rfl
theorem an76_fl : an76.fl = [] := rfl
theorem an77_fl : an77.fl = [] := rfl
theorem an78_fl : an78.fl = [] := rfl
theorem an79_fl : an79.fl = [] := rfl
theorem an80_fl : an80.fl = [] := rfl
theorem an81_fl : an81.fl = [] := rfl
theorem an82_fl : an82.fl = [] := rfl
theorem an83_fl : an83.fl = [] := rfl
theorem an84_fl : an84.fl = [] := rfl
theorem an85_fl : an85.fl = [] := rfl
theorem an86_fl : an86.fl = [] := rfl
theorem an87_fl : an87.fl = [] := rfl
theorem an88_fl : an88.fl = [] := rfl
theorem an89_fl : an89.fl = [] := rfl
theorem an90_fl : an90.fl = [] := rfl
theorem an91_fl : an91.fl = [] := rfl
theorem an92_fl : an92.fl = [] := rfl
theorem an93_fl : an93.fl = [] := rfl
theorem an94_fl : an94.fl = [] := rfl
theorem an95_fl : an95.fl = [] := rfl
theorem an96_fl : an96.fl = [] := rfl
theorem an97_fl : an97.fl = [] := rfl
theorem an98_fl : an98.fl = [] := rfl
theorem an99_fl : an99.fl = [] := rfl
theorem an100_fl : an100.fl = [] := rfl
theorem an101_fl : an101.fl = [] := rfl
theorem an102_fl : an102.fl = [] := rfl
theorem an106_fl : an106.fl = [] := rfl
theorem an107_fl : an107.fl = [] := rfl
theorem an108_fl : an108.fl = [] := rfl
theorem an109_fl : an109.fl = [] := rfl
theorem an110_fl : an110.fl = [] := rfl
theorem an111_fl : an111.fl = [] := rfl
theorem an112_fl : an112.fl = [] := rfl
theorem an113_fl : an113.fl = [] := rfl
theorem an114_fl : an114.fl = [] := rfl
theorem an115_fl : an115.fl = [] := rfl
theorem an116_fl : an116.fl = [] := rfl
theorem an117_fl : an117.fl = [] := rfl
theorem an118_fl : an118.fl = [] := rfl
theorem an119_fl : an119.fl = [] := rfl
theorem an120_fl : an120.fl = [] := rfl
theorem an121_fl : an121.fl = [] := rfl
theorem an122_fl : an122.fl = [] := rfl
theorem an123_fl : an123.fl = [] := rfl
theorem an124_fl : an124.fl = [] := rfl
theorem an125_fl : an125.fl = [] := rfl
theorem an140_fl : an140.fl = [] := rfl
theorem an141_fl : an141.fl = [] := rfl
theorem an142_fl : an142.fl = [] := rfl
theorem an143_fl : an143.fl = [] := rfl
theorem an144_fl : an144.fl = [] := rfl
theorem an145_fl : an145.fl = [] := rfl
theorem an146_fl : an146.fl = [] := rfl
theorem an147_fl : an147.fl = [] := rfl
theorem an148_fl : an148.fl = [] := rfl
theorem an149_fl : an149.fl = [] := rfl
theorem an150_fl : an150.fl = [] := rfl
theorem an151_fl : an151.fl = [] := rfl
theorem an152_fl : an152.fl = [] := rfl
theorem an153_fl : an153.fl = [] := rfl
theorem an154_fl : an154.fl = [] := rfl
theorem an155_fl : an155.fl = [] := rfl
theorem an156_fl : an156.fl = [] := rfl
theorem an157_fl : an157.fl = [] := rfl
theorem an158_fl : an158.fl = [] := rfl
theorem an159_fl : an159.fl = [] := rfl
theorem an160_fl : an160.fl = [] := rfl
theorem an164_fl : an164.fl = [] := rfl
theorem an165_fl : an165.fl = [] := rfl
theorem an166_fl : an166.fl = [] := rfl
theorem an167_fl : an167.fl = [] := rfl
theorem an168_fl : an168.fl = [] := rfl
theorem an169_fl : an169.fl = [] := rfl
theorem an170_fl : an170.fl = [] := rfl
theorem an171_fl : an171.fl = [] := rfl
theorem an172_fl : an172.fl = [] := rfl
theorem an173_fl : an173.fl = [] := rfl
theorem an174_fl : an174.fl = [] := rfl
theorem an175_fl : an175.fl = [] := rfl
theorem an176_fl : an176.fl = [] := rfl
theorem an186_fl : an186.fl = [] := rfl
theorem an187_fl : an187.fl = [] := rfl
theorem an188_fl : an188.fl = [] := rfl
theorem an189_fl : an189.fl = [] := rfl
theorem an190_fl : an190.fl = [] := rfl
theorem an191_fl : an191.fl = [] := rfl
theorem an192_fl : an192.fl = [] := rfl
theorem an196_fl : an196.fl = [] := rfl
theorem an197_fl : an197.fl = [] := rfl
theorem an198_fl : an198.fl = [] := rfl
theorem an199_fl : an199.fl = [] := rfl
theorem an200_fl : an200.fl = [] := rfl
theorem an201_fl : an201.fl = [] := rfl
theorem an202_fl : an202.fl = [] := rfl
theorem an203_fl : an203.fl = [] := rfl
theorem an204_fl : an204.fl = [] := rfl
theorem an205_fl : an205.fl = [] := rfl
theorem an206_fl : an206.fl = [] := rfl
theorem an207_fl : an207.fl = [] := rfl
theorem an208_fl : an208.fl = [] := rfl
theorem an209_fl : an209.fl = [] := rfl
theorem an210_fl : an210.fl = [] := rfl
theorem an211_fl : an211.fl = [] := rfl
theorem an212_fl : an212.fl = [] := rfl
theorem an221_fl : an221.fl = [] := rfl
theorem an222_fl : an222.fl = [] := rfl
theorem an223_fl : an223.fl = [] := rfl
theorem an224_fl : an224.fl = [] := rfl
theorem an225_fl : an225.fl = [] := rfl
theorem an226_fl : an226.fl = [] := rfl
theorem an227_fl : an227.fl = [] := rfl
theorem an228_fl : an228.fl = [] := rfl
theorem an229_fl : an229.fl = [] := rfl
theorem an230_fl : an230.fl = [] := rfl
theorem an231_fl : an231.fl = [] := rfl
theorem an232_fl : an232.fl = [] := rfl
theorem an234_fl : an234.fl = [] := rfl
theorem an235_fl : an235.fl = [] := rfl
theorem an236_fl : an236.fl = [] := rfl
theorem an237_fl : an237.fl = [] := rfl
theorem an238_fl : an238.fl = [] := rfl
theorem an239_fl : an239.fl = [] := rfl
theorem an240_fl : an240.fl = [] := rfl
theorem an241_fl : an241.fl = [] := rfl
theorem an246_fl : an246.fl = [] := rfl
theorem an247_fl : an247.fl = [] := rfl
theorem an248_fl : an248.fl = [] := rfl
theorem an249_fl : an249.fl = [] := rfl
theorem an250_fl : an250.fl = [] := rfl
theorem an251_fl : an251.fl = [] := rfl
theorem an254_fl : an254.fl = [] := rfl
theorem an255_fl : an255.fl = [] := rfl
theorem an257_fl : an257.fl = [] := rfl
theorem an258_fl : an258.fl = [] := rfl
theorem an259_fl : an259.fl = [] := rfl
theorem an260_fl : an260.fl = [] := rfl
theorem an261_fl : an261.fl = [] := rfl
theorem an262_fl : an262.fl = [] := rfl
theorem an263_fl : an263.fl = [] := rfl
theorem an264_fl : an264.fl = [] := rfl
theorem an265_fl : an265.fl = [] := rfl
theorem an266_fl : an266.fl = [] := rfl
theorem an267_fl : an267.fl = [] := rfl
theorem an268_fl : an268.fl = [] := rfl
theorem an269_fl : an269.fl = [] := rfl
theorem an270_fl : an270.fl = [] := rfl
theorem an271_fl : an271.fl = [] := rfl
attribute [go_sem] an5_fl an7_fl an8_fl an9_fl an10_fl an11_fl an14_fl an15_fl an17_fl an21_fl an22_fl an23_fl an24_fl an25_fl an26_fl an27_fl an28_fl an29_fl an30_fl an31_fl an32_fl an33_fl an34_fl an35_fl an36_fl an37_fl an38_fl an39_fl an40_fl an41_fl an42_fl an43_fl an44_fl an45_fl an49_fl an51_fl an52_fl an53_fl an54_fl an55_fl an56_fl an66_fl an67_fl an68_fl an69_fl an70_fl an71_fl an72_fl an73_fl an74_fl an75_fl an76_fl an77_fl an78_fl an79_fl an80_fl an81_fl an82_fl an83_fl an84_fl an85_fl an86_fl an87_fl an88_fl an89_fl an90_fl an91_fl an92_fl an93_fl an94_fl an95_fl an96_fl an97_fl an98_fl an99_fl an100_fl an101_fl an102_fl an106_fl an107_fl an108_fl an109_fl an110_fl an111_fl an112_fl an113_fl an114_fl an115_fl an116_fl an117_fl an118_fl an119_fl an120_fl an121_fl an122_fl an123_fl an124_fl an125_fl an140_fl an141_fl an142_fl an143_fl an144_fl an145_fl an146_fl an147_fl an148_fl an149_fl an150_fl an151_fl an152_fl an153_fl an154_fl an155_fl an156_fl an157_fl an158_fl an159_fl an160_fl an164_fl an165_fl an166_fl an167_fl an168_fl an169_fl an170_fl an171_fl an172_fl an173_fl an174_fl an175_fl an176_fl an186_fl an187_fl an188_fl an189_fl an190_fl an191_fl an192_fl an196_fl an197_fl an198_fl an199_fl an200_fl an201_fl an202_fl an203_fl an204_fl an205_fl an206_fl an207_fl an208_fl an209_fl an210_fl an211_fl an212_fl an221_fl an222_fl an223_fl an224_fl an225_fl an226_fl an227_fl an228_fl an229_fl an230_fl an231_fl an232_fl an234_fl an235_fl an236_fl an237_fl an238_fl an239_fl an240_fl an241_fl an246_fl an247_fl an248_fl an249_fl an250_fl an251_fl an254_fl an255_fl an257_fl an258_fl an259_fl an260_fl an261_fl an262_fl an263_fl an264_fl an265_fl an266_fl an267_fl an268_fl an269_fl an270_fl an271_fl
attribute [go_sem] annA_5 annA_7 annA_8 annA_9 annA_10 annA_11 annA_14 annA_15 annA_17 annA_21 annA_22 annA_23 annA_24 annA_25 annA_26 annA_27 annA_28 annA_29 annA_30 annA_31 annA_32 annA_33 annA_34 annA_35 annA_36 annA_37 annA_38 annA_39 annA_40 annA_41 annA_42 annA_43 annA_44 annA_45 annA_49 annA_51 annA_52 annA_53 annA_54 annA_55 annA_56 annA_66 annA_67 annA_68 annA_69 annA_70 annA_71 annA_72 annA_73 annA_74 annA_75 annA_76 annA_77 annA_78 annA_79 annA_80 annA_81 annA_82 annA_83 annA_84 annA_85 annA_86 annA_87 annA_88 annA_89 annA_90 annA_91 annA_92 annA_93 annA_94 annA_95 annA_96 annA_97 annA_98 annA_99 annA_100 annA_101 annA_102 annA_106 annA_107 annA_108 annA_109 annA_110 annA_111 annA_112 annA_113 annA_114 annA_115 annA_116 annA_117 annA_118 annA_119 annA_120 annA_121 annA_122 annA_123 annA_124 annA_125 annA_140 annA_141 annA_142 annA_143 annA_144 annA_145 annA_146 annA_147 annA_148 annA_149 annA_150 annA_151 annA_152 annA_153 annA_154 annA_155 annA_156 annA_157 annA_158 annA_159 annA_160 annA_164 annA_165 annA_166 annA_167 annA_168 annA_169 annA_170 annA_171 annA_172 annA_173 annA_174 annA_175 annA_176 annA_186 annA_187 annA_188 annA_189 annA_190 annA_191 annA_192 annA_196 annA_197 annA_198 annA_199 annA_200 annA_201 annA_202 annA_203 annA_204 annA_205 annA_206 annA_207 annA_208 annA_209 annA_210 annA_211 annA_212 annA_221 annA_222 annA_223 annA_224 annA_225 annA_226 annA_227 annA_228 annA_229 annA_230 annA_231 annA_232 annA_234 annA_235 annA_236 annA_237 annA_238 annA_239 annA_240 annA_241 annA_246 annA_247 annA_248 annA_249 annA_250 annA_251 annA_254 annA_255 annA_257 annA_258 annA_259 annA_260 annA_261 annA_262 annA_263 annA_264 annA_265 annA_266 annA_267 annA_268 annA_269 annA_270 annA_271
end Go.Proofs.YtdcgfapededocaaGreat


namespace Go.Proofs.YtdcgfapededocaaGreat
open Go
structure Io where
  host : Int
  at_ : Int
  data : List UInt8
  deriving Inhabited, DecidableEq
def eIo (x : Io) : AV := .agg [.int .i64 x.host, .int .i64 x.at_, .str x.data]
/-- The newest write of a host to a sector, among the first n. -/
def rdN (h a : Int) (ps : List Io) : Nat → Option (List UInt8)
  | 0 => none
  | n + 1 => match ps[n]? with
    | some x => if x.host = h ∧ x.at_ = a then some x.data else rdN h a ps n
    | none => rdN h a ps n
def rdL (ss : List (List UInt8)) (ps : List Io) (h a : Int) : List UInt8 := match rdN h a ps ps.length with
  | some t => t
  | none => ss.getD a.toNat []
/-- What is asked of a disk that is read. -/
def ReadsAs (ss : List (List UInt8)) (ps : List Io) (h a : Int) (args : List AV) : Prop :=
  args = [.agg [.sl 1 (ss.map .str), .sl 3 (ps.map eIo)], .int .i64 h, .int .i64 a] ∧ 0 ≤ a ∧ a.toNat < ss.length ∧ ps.length ≤ 1073741824
open Classical in
noncomputable def readX (args : List AV) : Option Res :=
  if h : ∃ x : List (List UInt8) × List Io × Int × Int, ReadsAs x.1 x.2.1 x.2.2.1 x.2.2.2 args then
    some { val := .str (rdL (Classical.choose h).1 (Classical.choose h).2.1 (Classical.choose h).2.2.1 (Classical.choose h).2.2.2) } else none
theorem eIo_inj {a b : Io} (h : eIo a = eIo b) : a = b := by
  cases a; cases b; simp [eIo] at h; simp [h]
theorem map_inj {α β : Type} {f : α → β} (hf : ∀ a b, f a = f b → a = b) : ∀ {l m : List α}, l.map f = m.map f → l = m := by
  intro l
  induction l with
  | nil => intro m h; cases m <;> simp at h; rfl
  | cons a l ih =>
    intro m h
    cases m with
    | nil => simp at h
    | cons b m =>
      simp only [List.map_cons, List.cons.injEq] at h
      rw [hf _ _ h.1, ih h.2]
theorem readX_of {ss : List (List UInt8)} {ps : List Io} {h a : Int} {args : List AV} (hr : ReadsAs ss ps h a args) : readX args = some { val := .str (rdL ss ps h a) } := by
  have hx : ∃ x : List (List UInt8) × List Io × Int × Int, ReadsAs x.1 x.2.1 x.2.2.1 x.2.2.2 args := ⟨(ss, ps, h, a), hr⟩
  unfold readX
  rw [dif_pos hx]
  have hc := Classical.choose_spec hx
  generalize Classical.choose hx = y at hc ⊢
  obtain ⟨ss', ps', h', a'⟩ := y
  obtain ⟨e, _⟩ := hc
  obtain ⟨e', _⟩ := hr
  rw [e'] at e
  simp only [List.cons.injEq, AV.agg.injEq, AV.sl.injEq, AV.int.injEq, true_and, and_true] at e
  obtain ⟨⟨e1, e2⟩, e3, e4⟩ := e
  have q1 := map_inj (fun _ _ h => by injection h) e1
  have q2 := map_inj (fun _ _ h => eIo_inj h) e2
  subst q1; subst q2; subst e3; subst e4; rfl
theorem readX_some {args : List AV} {r : Res} (h : readX args = some r) : ∃ ss ps h a, ReadsAs ss ps h a args ∧ r = { val := .str (rdL ss ps h a) } := by
  unfold readX at h
  split at h
  · rename_i hx
    have hc := Classical.choose_spec hx
    injection h with h
    exact ⟨_, _, _, _, hc, h.symm⟩
  · cases h
end Go.Proofs.YtdcgfapededocaaGreat

