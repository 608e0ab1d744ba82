/- A reading of the loaded code over plain data, its soundness, and what functions answer by it (part 2; joined by program). No condition. -/
import Derived.Test.YtenmfblmekilaaaGreatKRl1
import Derived.Test.YtenmfblmekilaaaGreatProg
set_option linter.all false
namespace Go.Proofs.YtenmfblmekilaaaGreat
open Go
def an2 : Ann := { vars := [], np := 0, outs := [(1000000, [], [])] }
def an3 : Ann := { vars := [0, 1, 2, 4, 5, 6, 7, 8, 9, 10, 11, 12, 13, 14, 15], np := 2, outs := [(1000000, [4], [])], own := [(32, [[201], [202], [203], [204]]), (36, [[205], [206], [207], [208]])] }
def an4 : Ann := { vars := [0, 1, 2, 4, 5, 6, 7, 8, 9, 10, 11, 12, 13, 14, 15], np := 2, outs := [(1000000, [4], [])], own := [(32, [[201], [202], [203], [204]]), (36, [[205], [206], [207], [208]])] }
def an5 : Ann := { vars := [0, 1, 2, 4, 5, 6, 7, 8, 9, 10, 11, 12, 13, 14, 15], np := 2, outs := [(1000000, [4], [])], own := [(32, [[201], [202], [203], [204]]), (36, [[205], [206], [207], [208]])] }
def an6 : Ann := { vars := [0, 1, 2, 4], np := 2, outs := [(1000000, [4], [])] }
def an7 : Ann := { vars := [0, 1, 2, 4, 5, 6], np := 2, outs := [(1000000, [4, 5], [[4]])] }
def an8 : Ann := { vars := [0, 1, 2, 3], np := 1, outs := [(1000000, [2], [[2], [60], [61], [62], [63]])], own := [(6, [[60]]), (10, [[61]]), (14, [[62]]), (18, [[63]])] }
def an9 : Ann := { vars := [0, 1, 2, 4, 5, 6, 7, 8], np := 2, outs := [(1000000, [4, 5], [[4], [57], [70], [71], [72], [73], [75], [76], [77], [78]])], own := [(25, [[70], [71], [72], [73]]), (54, [[54]]), (60, [[75], [76], [77], [78]])], hw := [((8, 0), [[54], [56]], []), ((8, 1), [[54], [56]], []), ((8, 2), [[54]], []), ((8, 5), [], [[54]]), ((8, 7), [], [[54], [56]]), ((8, 8), [], [[56], [57], [70], [71], [72], [73]]), ((8, 10), [], [[7]])], dp := true }
def an10 : Ann := { vars := [0, 1, 2, 3, 4], np := 2, outs := [(1000000, [4], [])] }
def an11 : Ann := { vars := [0, 1, 2, 4], np := 2, outs := [(1000000, [4], [[0, 0], [0, 1], [0, 2], [0, 3]])], io := [true] }
def an12 : Ann := { vars := [0, 1, 2, 4], np := 2, outs := [(1000000, [4], [])] }
def an13 : Ann := { vars := [0, 1, 2, 4, 5, 6], np := 2, outs := [(1000000, [4, 5], [[4]])] }
def an14 : Ann := { vars := [0, 1, 2, 4, 5, 6, 7, 8], np := 2, outs := [(1000000, [4, 5], [[4], [70], [71], [72], [73], [74], [75], [76], [77], [78]])], own := [(25, [[70], [71], [72], [73]]), (38, [[74]]), (41, [[75], [76], [77], [78]])], hw := [((4, 0), [[7]], []), ((4, 1), [[7]], [[70], [71], [72], [73]]), ((4, 2), [[7], [70], [71], [72], [73]], []), ((4, 3), [[7], [70], [71], [72], [73]], []), ((4, 4), [[7]], []), ((4, 5), [[70], [71], [72], [73]], [[7]]), ((4, 6), [], [[7]])], fl := [37] }
def an15 : Ann := { vars := [0, 1, 2, 4, 5, 6], np := 2, outs := [(1000000, [4, 5], [[4]])] }
def an16 : Ann := { vars := [0, 1, 2, 4, 5, 6, 7, 8], np := 2, outs := [(1000000, [4, 5], [[4], [70], [71], [72], [73], [75], [76], [77], [78]])], own := [(25, [[70], [71], [72], [73]]), (40, [[75], [76], [77], [78]])], hw := [((4, 0), [[7]], []), ((4, 1), [[7]], [[70], [71], [72], [73]]), ((4, 2), [[7], [70], [71], [72], [73]], []), ((4, 3), [[7], [70], [71], [72], [73]], []), ((4, 4), [[7]], []), ((4, 5), [[70], [71], [72], [73]], [[7]]), ((4, 6), [], [[7]])] }
def an17 : Ann := { vars := [0, 1, 4], np := 2, outs := [(1000000, [4], [])] }
def an18 : Ann := { vars := [0, 1, 4, 5], np := 2, keep := [(0, [0, 1, 5], [])], outs := [(0, [1], []), (1000000, [4], [])] }
def an19 : Ann := { vars := [0, 1, 2, 4], np := 2, outs := [(1000000, [4], [])] }
def an20 : Ann := { vars := [0, 1, 2, 4, 5], np := 2, outs := [(1000000, [4, 5], [[4], [38], [70], [71], [72], [73]])], own := [(7, [[70], [71], [72], [73]])], hw := [((9, 0), [[32], [35], [37]], []), ((9, 1), [[32], [35], [37]], []), ((9, 2), [[32]], []), ((9, 4), [[32]], []), ((9, 5), [[32]], []), ((9, 6), [], [[32]]), ((9, 8), [], [[32], [35], [37]]), ((9, 9), [], [[38], [70], [71], [72], [73]]), ((9, 11), [], [[2]])] }
def an21 : Ann := { vars := [0, 2, 3, 4], np := 1, keep := [(0, [0, 3, 4], [[7]])], outs := [(0, [3], [[7]]), (1000000, [2], [[7]])] }
def an22 : Ann := { vars := [0, 2, 3, 4], np := 1, keep := [(0, [0, 3, 4], [[7], [60]])], outs := [(0, [3], [[7], [60]]), (1000000, [2], [[7], [60]])], own := [(20, [[60]])], dp := true }
def an23 : Ann := { vars := [0, 2, 3, 4, 6], np := 1, keep := [(0, [0, 3], [])], outs := [(0, [], []), (1000000, [2], [])] }
def an24 : Ann := { vars := [0, 2], np := 1, outs := [(1000000, [2], [])] }
def an25 : Ann := { vars := [0, 1, 2, 3, 4, 17, 18, 19], np := 1, keep := [(0, [1, 17, 18, 19], [[1]])], outs := [(0, [], []), (1000000, [2], [])] }
def an26 : Ann := { vars := [0, 1, 2, 3, 5, 17, 18, 19], np := 1, keep := [(0, [2, 3, 17, 18, 19], [[2], [3], [8], [11], [14], [32]])], outs := [(0, [2, 3], [[2], [3], [8], [11], [14], [32]]), (1000000, [2], [[2], [8], [11], [14], [32]])], own := [(8, [[8]]), (11, [[11]]), (14, [[14]]), (29, [[29]])], hw := [((1, 0), [[3]], []), ((1, 1), [[3]], []), ((1, 2), [[3]], [[8]]), ((1, 3), [[3], [8]], []), ((1, 4), [[3], [8]], []), ((1, 5), [[3]], [[11]]), ((1, 6), [[3], [8], [11]], []), ((1, 7), [[3], [8], [11]], []), ((1, 8), [[3]], [[14]]), ((1, 9), [[3]], []), ((1, 10), [[8], [11], [14]], [[3]]), ((1, 11), [], [[3]]), ((5, 0), [[29], [31]], []), ((5, 1), [[29], [31]], []), ((5, 2), [[29]], []), ((5, 3), [[29]], []), ((5, 6), [], [[29]]), ((5, 8), [], [[29], [31]]), ((5, 9), [], [[8], [11], [14], [31], [32]]), ((5, 11), [], [[3]])], dp := true }
def an27 : Ann := { vars := [0, 2, 3, 5, 6], np := 1, keep := [(0, [0, 5, 6], [])], outs := [(0, [0], []), (1000000, [2], [])] }
def an28 : Ann := { vars := [0, 1, 2, 4], np := 2, outs := [(1000000, [4], [])] }
def an29 : Ann := { vars := [0, 2], np := 1, outs := [(1000000, [2], [[5], [7]])], ext := true }
def an30 : Ann := { vars := [0, 1, 2, 3, 4, 12, 13], np := 1, keep := [(0, [2, 3, 12, 13], [[2], [3], [60], [61], [62], [63], [64]])], outs := [(0, [2, 3], [[2], [3], [60], [61], [62], [63], [64]]), (1000000, [2], [[2], [60], [61], [62], [63], [64]])], own := [(6, [[60], [61], [62], [63]]), (8, [[64]])] }
def an31 : Ann := { vars := [0, 1, 4, 5], np := 2, keep := [(0, [0, 1, 5], [])], outs := [(0, [], []), (1000000, [4], [])] }
def an32 : Ann := { vars := [0, 1, 4, 5], np := 2, keep := [(0, [0, 1, 5], [])], outs := [(0, [], []), (1000000, [4], [])] }
def an33 : Ann := { vars := [0, 1, 4, 5], np := 2, keep := [(0, [0, 1, 5], [[0]])], outs := [(0, [1], [[0]]), (1000000, [4], [[0]])], io := [true] }
def an34 : Ann := { vars := [0, 1, 4, 5], np := 2, keep := [(0, [0, 1, 5], [[0]])], outs := [(0, [1], [[0]]), (1000000, [4], [[0]])], io := [true], ext := true }
def an35 : Ann := { vars := [0, 1, 4, 5], np := 2, keep := [(0, [0, 1, 5], [])], outs := [(0, [1], []), (1000000, [4], [])] }
def an36 : Ann := { vars := [0, 1, 4, 5], np := 2, keep := [(0, [0, 1, 5], [])], outs := [(0, [1], []), (1000000, [4], [])] }
def an37 : Ann := { vars := [0, 1, 2, 4, 5, 6, 7], np := 2, keep := [(0, [2, 4, 6, 7], [[2], [4], [38], [45], [70], [71], [72], [73]])], outs := [(0, [2, 4, 6], [[2], [4], [38], [45], [70], [71], [72], [73]]), (1000000, [4, 5], [[4], [38], [45], [70], [71], [72], [73]])], own := [(9, [[70], [71], [72], [73]])], hw := [((5, 7), [], [[38], [45], [70], [71], [72], [73]]), ((5, 8), [], [[2]]), ((9, 6), [], [[38], [45], [70], [71], [72], [73]]), ((9, 7), [], [[2]])], vk := [((5, 7), [], []), ((9, 6), [], [])] }
def an38 : Ann := { vars := [0, 1, 2, 4, 5, 6, 7], np := 2, keep := [(0, [2, 4, 6, 7], [[2], [4], [38], [43], [49], [70], [71], [72], [73]])], outs := [(0, [2, 4, 6], [[2], [4], [38], [43], [49], [70], [71], [72], [73]]), (1000000, [4, 5], [[4], [38], [43], [49], [70], [71], [72], [73]])], own := [(9, [[70], [71], [72], [73]])], hw := [((8, 10), [], [[38], [43], [49], [70], [71], [72], [73]]), ((8, 11), [], [[2]]), ((9, 1), [[38]], []), ((9, 2), [[38]], []), ((9, 3), [[38]], []), ((9, 4), [[38]], []), ((9, 5), [], [[38]]), ((9, 6), [[38]], []), ((9, 7), [[38]], []), ((9, 8), [[38]], []), ((9, 9), [[38]], []), ((9, 10), [[38]], []), ((9, 11), [], [[38], [43]]), ((9, 13), [], [[2]])], vk := [((8, 10), [], [])] }
def an39 : Ann := { vars := [0, 1, 2, 6, 7], np := 3, outs := [(1000000, [6], [[0], [26]])], io := [true], hw := [((5, 6), [], [[0], [26]])], ext := true }
def an40 : Ann := { vars := [0, 1, 2, 4], np := 2, outs := [(1000000, [4], [])] }
def an41 : Ann := { vars := [0, 1, 2, 3, 4, 5], np := 1, keep := [(0, [1, 3], [[1]]), (2, [1, 4, 5], [[1]])], outs := [(0, [1], [[1]]), (2, [], []), (1000000, [2], [])] }
def an42 : Ann := { vars := [0, 1, 2, 3, 4], np := 1, keep := [(0, [1, 2, 3, 4], [[1], [2], [3], [5], [8], [9], [12], [13], [14], [17], [44]])], outs := [(0, [2, 3], [[2], [3], [5], [8], [9], [12], [13], [14], [17], [44]]), (1000000, [2], [[2], [5], [8], [9], [12], [13], [14], [17], [44]])], hw := [((1, 0), [[3], [9], [13], [14]], [[5]]), ((1, 1), [[3], [5], [9], [13], [14]], []), ((1, 2), [[3], [5], [9], [13], [14]], []), ((1, 3), [[3], [9], [13], [14]], [[5]]), ((1, 4), [[3], [5], [13], [14]], [[9]]), ((1, 5), [[3], [5], [9], [13], [14]], []), ((1, 6), [[3], [5], [9], [13], [14]], []), ((1, 7), [[3], [13], [14]], [[9]]), ((1, 8), [[3], [5], [9], [14]], [[13]]), ((1, 9), [[3], [5], [9], [13]], [[14]]), ((1, 10), [[3], [5], [9], [13], [14]], []), ((1, 11), [[3], [5], [9], [13], [14]], []), ((1, 12), [[3], [13]], [[14]]), ((1, 13), [[3]], []), ((1, 14), [[5], [9], [13], [14]], [[3]]), ((1, 15), [], [[3]]), ((5, 0), [[34], [41], [43]], []), ((5, 1), [[34], [41], [43]], []), ((5, 2), [[34]], []), ((5, 3), [[34]], []), ((5, 4), [[34]], []), ((5, 5), [[34]], []), ((5, 6), [[34]], []), ((5, 7), [[34]], []), ((5, 9), [[34]], []), ((5, 10), [[34]], []), ((5, 11), [[34]], []), ((5, 12), [[34]], []), ((5, 13), [[34]], []), ((5, 14), [[34]], []), ((5, 15), [], [[34]]), ((5, 17), [], [[34], [41], [43]]), ((5, 18), [], [[5], [8], [9], [12], [13], [14], [17], [44]]), ((5, 20), [], [[3]])] }
def an43 : Ann := { vars := [0, 2, 3], np := 1, keep := [(0, [0, 3], [])], outs := [(0, [0], []), (1000000, [2], [])] }
def an44 : Ann := { vars := [0, 1, 2, 4, 5], np := 2, keep := [(0, [1, 2, 5], [[2]])], outs := [(0, [], []), (1000000, [4], [])] }
def an45 : Ann := { vars := [0, 1, 2, 4, 5, 6], np := 2, keep := [(0, [2, 4, 5, 6], [[2], [4], [0, 0], [0, 1], [0, 2], [0, 3]])], outs := [(0, [2, 4], [[2], [4], [0, 0], [0, 1], [0, 2], [0, 3]]), (1000000, [4], [[4], [0, 0], [0, 1], [0, 2], [0, 3]])], io := [true, true], hw := [((5, 10), [], [[0, 0], [0, 1], [0, 2], [0, 3]])], vk := [((5, 10), [], [])] }
def an46 : Ann := { vars := [0, 1, 2, 3], np := 1, outs := [(1000000, [2], [[2], [60]])], own := [(9, [[60]])] }
def an47 : Ann := { vars := [0, 1, 2], np := 1, outs := [(1000000, [2], [])] }
def an48 : Ann := { vars := [0, 1, 4, 5, 12, 13], np := 2, keep := [(0, [0, 1, 12, 13], [])], outs := [(0, [], []), (1000000, [4], [])] }
def an49 : Ann := { vars := [0, 1, 2, 3, 5, 7, 10, 11, 12, 17, 18, 19], np := 1, keep := [(0, [3, 10, 11, 12], [[8]]), (2, [3, 10, 11, 12, 17, 18, 19], [[8]])], outs := [(0, [3], [[8]]), (2, [3, 10, 11, 12], [[8]]), (1000000, [2], [[8]])] }
def an50 : Ann := { vars := [0, 1, 2, 6], np := 3, outs := [(1000000, [6], [])] }
def an51 : Ann := { vars := [0, 1, 4, 5, 7, 8], np := 2, keep := [(0, [0, 1, 7, 8], [])], outs := [(0, [], []), (1000000, [4], [])] }
def an52 : Ann := { vars := [0, 1, 2, 3, 5, 8, 9, 10], np := 1, keep := [(0, [3, 8, 9, 10], [[6], [18]])], outs := [(0, [3], [[6], [18]]), (1000000, [2], [[6], [18]])] }
def an53 : Ann := { vars := [0, 1, 2, 3, 4], np := 2, outs := [(1000000, [4], [])] }
def an54 : Ann := { vars := [0, 2, 3], np := 1, keep := [(0, [0, 3], [])], outs := [(0, [3], []), (1000000, [2], [])] }
def an55 : Ann := { vars := [0, 1, 2, 4, 5], np := 2, outs := [(1000000, [4], [[4], [0, 0], [0, 1], [0, 2], [0, 3]])], io := [true] }
def an56 : Ann := { vars := [0, 1, 2, 3, 4, 5], np := 1, keep := [(0, [1, 3], [[1]]), (2, [1, 3, 4], [[1]]), (4, [1, 5], [[1]])], outs := [(0, [1], [[1]]), (2, [1, 3], [[1]]), (4, [], []), (1000000, [2], [])] }
def an57 : Ann := { vars := [0, 2, 3, 4, 5], np := 1, keep := [(0, [3, 4], []), (2, [3, 4, 5], [])], outs := [(0, [], []), (2, [3, 4], []), (1000000, [2], [])] }
def an58 : Ann := { vars := [0, 1, 2, 3, 4, 5, 6, 7, 8], np := 1, keep := [(0, [1, 3, 4, 5], [[1], [9], [12], [28]]), (2, [3, 4, 6], [[9], [12], [28]]), (4, [3, 4, 6, 7, 8], [[9], [12], [28]])], outs := [(0, [3, 4], [[9], [12], [28]]), (2, [3], [[9]]), (4, [3, 4, 6], [[9], [12], [28]]), (1000000, [2], [[9]])] }
def an59 : Ann := { vars := [0, 1, 2, 6], np := 3, outs := [(1000000, [6], [])] }
def an60 : Ann := { vars := [0, 2, 3, 4], np := 1, keep := [(0, [0, 3, 4], [[5], [24]])], outs := [(0, [3], [[5], [24]]), (1000000, [2], [[5], [24]])] }
def an61 : Ann := { vars := [0, 2], np := 1, outs := [(1000000, [2], [])] }
def an62 : Ann := { vars := [0, 2, 3], np := 1, outs := [(1000000, [2], [])], own := [(5, [[5]])] }
def an63 : Ann := { vars := [0, 1, 3, 4], np := 2, outs := [(1000000, [4], [])] }
def an64 : Ann := { vars := [0, 1, 2, 3, 5, 10, 11, 12], np := 1, keep := [(0, [3, 10, 11, 12], [[8], [20]])], outs := [(0, [3], [[8], [20]]), (1000000, [2], [[8], [20]])] }
def an65 : Ann := { vars := [0, 2], np := 1, outs := [(1000000, [2], [])] }
def an66 : Ann := { vars := [0, 2], np := 1, outs := [(1000000, [2], [])] }
def an67 : Ann := { vars := [0, 2, 3], np := 1, outs := [(1000000, [2], [])], own := [(5, [[5]])] }
def an68 : Ann := { vars := [0, 1, 3, 4], np := 2, outs := [(1000000, [4], [])] }
def an69 : Ann := { vars := [0, 2], np := 1, outs := [(1000000, [2], [])] }
def an70 : Ann := { vars := [0, 2, 3, 5, 7, 8, 9], np := 1, keep := [(0, [3, 7, 8, 9], [[6], [19]])], outs := [(0, [3], [[6], [19]]), (1000000, [2], [[6], [19]])] }
def an71 : Ann := { vars := [0, 2, 3], np := 1, keep := [(0, [0, 3], [])], outs := [(0, [0], []), (1000000, [2], [])] }
def an72 : Ann := { vars := [0, 2, 3], np := 1, keep := [(0, [0, 3], [])], outs := [(0, [0], []), (1000000, [2], [])] }
def an73 : Ann := { vars := [0, 2], np := 1, outs := [(1000000, [2], [])] }
def an74 : Ann := { vars := [0, 2], np := 1, outs := [(1000000, [2], [])] }
def an75 : Ann := { vars := [0, 2], np := 1, outs := [(1000000, [2], [[5], [7]])], ext := true }
def an76 : Ann := { vars := [0, 2], np := 1, outs := [(1000000, [], [[0]])], io := [true] }
def an77 : Ann := { vars := [0, 1, 3, 4], np := 2, outs := [(1000000, [4], [])] }
def an78 : Ann := { vars := [0, 2, 3, 4, 5], np := 1, keep := [(0, [0, 3], [[0]]), (2, [0, 3, 4, 5], [[0]])], outs := [(0, [0], [[0]]), (2, [0, 3], [[0]]), (1000000, [2], [[0]])], io := [true] }
def an79 : Ann := { vars := [0, 1, 4], np := 2, outs := [(1000000, [4], [])] }
def an80 : Ann := { vars := [0, 1, 3], np := 2, outs := [(1000000, [3], [])] }
def an81 : Ann := { vars := [0, 2], np := 1, outs := [(1000000, [2], [])] }
def an82 : Ann := { vars := [0, 2], np := 1, outs := [(1000000, [], [[0]])], io := [true] }
def an83 : Ann := { vars := [0, 2, 3, 4, 5], np := 1, keep := [(0, [0, 3], [[0]]), (2, [0, 3, 4, 5], [[0]])], outs := [(0, [0], [[0]]), (2, [0, 3], [[0]]), (1000000, [2], [[0]])], io := [true] }
def an84 : Ann := { vars := [0, 1, 4], np := 2, outs := [(1000000, [4], [])] }
def an85 : Ann := { vars := [0, 1, 3], np := 2, outs := [(1000000, [3], [])] }
def an86 : Ann := { vars := [0, 1, 2, 3, 8, 9, 10, 11, 12, 13, 14, 15, 16, 17, 18], np := 4, keep := [(0, [0, 1, 2, 3, 8, 9], [[0]])], outs := [(0, [], [[0]]), (1000000, [], [[0]])], io := [true] }
def an87 : Ann := { vars := [0, 2], np := 1, outs := [(1000000, [2], [])] }
def an88 : Ann := { vars := [0, 1, 4], np := 2, outs := [(1000000, [4], [])] }
def an89 : Ann := { vars := [0, 1, 3], np := 2, outs := [(1000000, [3], [])] }
def an90 : Ann := { vars := [0, 1, 4, 5, 7, 8], np := 2, keep := [(0, [0, 1, 7, 8], [])], outs := [(0, [], []), (1000000, [4], [])] }
def an91 : Ann := { vars := [0, 1, 2, 3, 8, 9, 10, 11, 12, 13, 14, 15, 16, 17, 18], np := 4, keep := [(0, [0, 1, 2, 3, 8, 9], [[0]])], outs := [(0, [], [[0]]), (1000000, [], [[0]])], io := [true] }
def an92 : Ann := { vars := [0, 1, 4, 5, 7, 8], np := 2, keep := [(0, [0, 1, 7, 8], [])], outs := [(0, [], []), (1000000, [4], [])] }
def an93 : Ann := { vars := [0, 1, 2, 6, 7], np := 3, keep := [(0, [0, 1, 2, 6], [[0]]), (2, [0, 1, 2, 6, 7], [[0]])], outs := [(0, [], [[0]]), (2, [0, 1, 2, 6], [[0]]), (1000000, [], [[0]])], io := [true], hw := [((6, 2), [[0]], []), ((6, 3), [[0]], []), ((6, 4), [[0]], []), ((6, 15), [], [[0]]), ((6, 17), [], [[0]])], vk := [((6, 2), [], []), ((6, 3), [], []), ((6, 4), [], []), ((6, 15), [], []), ((6, 17), [], [])] }
def an94 : Ann := { vars := [0, 1, 2, 6, 7, 8, 9, 10], np := 3, keep := [(0, [0, 6, 7, 8, 9], []), (2, [0, 6, 7, 10], [])], outs := [(0, [0, 6, 7, 8], []), (2, [], []), (1000000, [], [])] }
def an95 : Ann := { vars := [0, 1, 2, 6, 7, 8, 9, 10], np := 3, keep := [(0, [0, 1, 6, 7, 8, 9], [[7]])], outs := [(0, [], []), (1000000, [], [])] }
def an96 : Ann := { vars := [0, 1, 2, 6, 7, 8, 9, 10, 11, 12, 49], np := 3, outs := [(1000000, [6, 7], [])] }
def an97 : Ann := { vars := [0, 1, 2, 6, 7], np := 3, keep := [(0, [0, 6, 7], [])], outs := [(0, [], []), (1000000, [], [])] }
def an98 : Ann := { vars := [0, 1, 2, 6, 7, 8, 9, 10], np := 3, keep := [(0, [0, 1, 2, 7, 8], []), (2, [0, 1, 2, 7, 8], []), (4, [0, 1, 2, 7, 8, 9], []), (6, [0, 1, 2, 7, 8, 10], [])], outs := [(0, [], []), (2, [0, 1, 2, 7, 8], []), (4, [0, 1, 2, 7, 8], []), (6, [0, 1, 2, 7, 8], []), (1000000, [6], [])] }
def an99 : Ann := { vars := [0, 1, 4], np := 2, outs := [(1000000, [4], [])] }
def an100 : Ann := { vars := [0, 1, 2, 3, 8, 9, 10], np := 4, keep := [(0, [0, 1, 9, 10], []), (2, [0, 1, 9, 10], []), (4, [0, 1, 9, 10], [])], outs := [(0, [9], []), (2, [0, 1, 9, 10], []), (4, [0, 1, 9, 10], []), (1000000, [8], [])] }
def an101 : Ann := { vars := [0, 1, 2, 3, 8, 9, 10, 11], np := 4, keep := [(0, [0, 1, 10, 11], []), (2, [0, 1, 10, 11], []), (4, [0, 1, 10, 11], []), (6, [0, 1, 10, 11], []), (8, [0, 1, 10, 11], [])], outs := [(0, [0, 1, 10, 11], []), (2, [0, 1, 10, 11], []), (4, [0, 1, 11], []), (6, [0, 1, 10, 11], []), (8, [0, 1, 10, 11], []), (1000000, [8, 9], [])] }
def an102 : Ann := { vars := [0, 2], np := 1, outs := [(1000000, [2], [])] }
def an103 : Ann := { vars := [0, 2], np := 1, outs := [(1000000, [2], [])] }
def an104 : Ann := { vars := [0, 1, 4, 5, 7, 8], np := 2, keep := [(0, [0, 1, 7, 8], [])], outs := [(0, [], []), (1000000, [4], [])] }
def an105 : Ann := { vars := [0, 1, 2, 6, 7], np := 3, keep := [(0, [0, 1, 2, 6], [[0]]), (2, [0, 1, 2, 6, 7], [[0]])], outs := [(0, [], [[0]]), (2, [0, 1, 2, 6], [[0]]), (1000000, [], [[0]])], io := [true], hw := [((6, 2), [[0]], []), ((6, 3), [[0]], []), ((6, 4), [[0]], []), ((6, 15), [], [[0]]), ((6, 17), [], [[0]])], vk := [((6, 2), [], []), ((6, 3), [], []), ((6, 4), [], []), ((6, 15), [], []), ((6, 17), [], [])] }
def an106 : Ann := { vars := [0, 1, 2, 6, 7, 8, 9, 10], np := 3, keep := [(0, [0, 6, 7, 8, 9], []), (2, [0, 6, 7, 10], [])], outs := [(0, [0, 6, 7, 8], []), (2, [], []), (1000000, [], [])] }
def an107 : Ann := { vars := [0, 1, 2, 6, 7, 8, 9, 10], np := 3, keep := [(0, [0, 1, 6, 7, 8, 9], [[7]])], outs := [(0, [], []), (1000000, [], [])] }
def an108 : Ann := { vars := [0, 1, 2, 6, 7, 8, 9, 10, 11, 12, 49], np := 3, outs := [(1000000, [6, 7], [])] }
def an109 : Ann := { vars := [0, 1, 2, 6, 7], np := 3, keep := [(0, [0, 6, 7], [])], outs := [(0, [], []), (1000000, [], [])] }
def an110 : Ann := { vars := [0, 1, 2, 6, 7, 8, 9, 10], np := 3, keep := [(0, [0, 1, 2, 7, 8], []), (2, [0, 1, 2, 7, 8], []), (4, [0, 1, 2, 7, 8, 9], []), (6, [0, 1, 2, 7, 8, 10], [])], outs := [(0, [], []), (2, [0, 1, 2, 7, 8], []), (4, [0, 1, 2, 7, 8], []), (6, [0, 1, 2, 7, 8], []), (1000000, [6], [])] }
def an111 : Ann := { vars := [0, 1, 4], np := 2, outs := [(1000000, [4], [])] }
def an112 : Ann := { vars := [0, 1, 2, 3, 8, 9, 10], np := 4, keep := [(0, [0, 1, 9, 10], []), (2, [0, 1, 9, 10], []), (4, [0, 1, 9, 10], [])], outs := [(0, [9], []), (2, [0, 1, 9, 10], []), (4, [0, 1, 9, 10], []), (1000000, [8], [])] }
def an113 : Ann := { vars := [0, 1, 2, 3, 8, 9, 10, 11], np := 4, keep := [(0, [0, 1, 10, 11], []), (2, [0, 1, 10, 11], []), (4, [0, 1, 10, 11], []), (6, [0, 1, 10, 11], []), (8, [0, 1, 10, 11], [])], outs := [(0, [0, 1, 10, 11], []), (2, [0, 1, 10, 11], []), (4, [0, 1, 11], []), (6, [0, 1, 10, 11], []), (8, [0, 1, 10, 11], []), (1000000, [8, 9], [])] }
def an114 : Ann := { vars := [0, 1, 2, 3, 8, 9], np := 4, keep := [(0, [0, 2, 3, 8], [])], outs := [(0, [], []), (1000000, [], [])] }
def an115 : Ann := { vars := [0, 2], np := 1, outs := [(1000000, [2], [])] }
def an116 : Ann := { vars := [0, 2], np := 1, outs := [(1000000, [2], [])] }
def an117 : Ann := { vars := [0, 1, 2, 6], np := 3, outs := [(1000000, [6], [])] }
def an118 : Ann := { vars := [0, 1, 2, 3, 4, 10], np := 5, outs := [(1000000, [10], [])] }
def an119 : Ann := { vars := [0, 2], np := 1, outs := [(1000000, [2], [])] }
def an120 : Ann := { vars := [0, 1, 2, 3, 8, 9], np := 4, keep := [(0, [0, 2, 3, 8], [])], outs := [(0, [], []), (1000000, [], [])] }
def an121 : Ann := { vars := [0, 1, 2, 6], np := 3, outs := [(1000000, [6], [])] }
def an122 : Ann := { vars := [0, 1, 2, 3, 4, 10], np := 5, outs := [(1000000, [10], [])] }
def an123 : Ann := { vars := [0, 2], np := 1, outs := [(1000000, [2], [])] }
def an124 : Ann := { vars := [0, 1, 2, 3, 8, 9], np := 4, outs := [(1000000, [8, 9], [])] }
def an125 : Ann := { vars := [0, 1, 2, 3, 8, 9], np := 4, outs := [(1000000, [8, 9], [])] }
def annA : FuncId → Ann
  | 2 => an2
  | 3 => an3
  | 4 => an4
  | 5 => an5
  | 6 => an6
  | 7 => an7
  | 8 => an8
  | 9 => an9
  | 10 => an10
  | 11 => an11
  | 12 => an12
  | 13 => an13
  | 14 => an14
  | 15 => an15
  | 16 => an16
  | 17 => an17
  | 18 => an18
  | 19 => an19
  | 20 => an20
  | 21 => an21
  | 22 => an22
  | 23 => an23
  | 24 => an24
  | 25 => an25
  | 26 => an26
  | 27 => an27
  | 28 => an28
  | 29 => an29
  | 30 => an30
  | 31 => an31
  | 32 => an32
  | 33 => an33
  | 34 => an34
  | 35 => an35
  | 36 => an36
  | 37 => an37
  | 38 => an38
  | 39 => an39
  | 40 => an40
  | 41 => an41
  | 42 => an42
  | 43 => an43
  | 44 => an44
  | 45 => an45
  | 46 => an46
  | 47 => an47
  | 48 => an48
  | 49 => an49
  | 50 => an50
  | 51 => an51
  | 52 => an52
  | 53 => an53
  | 54 => an54
  | 55 => an55
  | 56 => an56
  | 57 => an57
  | 58 => an58
  | 59 => an59
  | 60 => an60
  | 61 => an61
  | 62 => an62
  | 63 => an63
  | 64 => an64
  | 65 => an65
  | 66 => an66
  | 67 => an67
  | 68 => an68
  | 69 => an69
  | 70 => an70
  | 71 => an71
  | 72 => an72
  | 73 => an73
  | 74 => an74
  | 75 => an75
  | 76 => an76
  | 77 => an77
  | 78 => an78
  | 79 => an79
  | 80 => an80
  | 81 => an81
  | 82 => an82
  | 83 => an83
  | 84 => an84
  | 85 => an85
  | 86 => an86
  | 87 => an87
  | 88 => an88
  | 89 => an89
  | 90 => an90
  | 91 => an91
  | 92 => an92
  | 93 => an93
  | 94 => an94
  | 95 => an95
  | 96 => an96
  | 97 => an97
  | 98 => an98
  | 99 => an99
  | 100 => an100
  | 101 => an101
  | 102 => an102
  | 103 => an103
  | 104 => an104
  | 105 => an105
  | 106 => an106
  | 107 => an107
  | 108 => an108
  | 109 => an109
  | 110 => an110
  | 111 => an111
  | 112 => an112
  | 113 => an113
  | 114 => an114
  | 115 => an115
  | 116 => an116
  | 117 => an117
  | 118 => an118
  | 119 => an119
  | 120 => an120
  | 121 => an121
  | 122 => an122
  | 123 => an123
  | 124 => an124
  | 125 => an125
  | _ => {}
theorem annA_2 : annA 2 = an2 := rfl
theorem annA_3 : annA 3 = an3 := rfl
theorem annA_4 : annA 4 = an4 := rfl
theorem annA_5 : annA 5 = an5 := rfl
theorem annA_6 : annA 6 = an6 := rfl
theorem annA_7 : annA 7 = an7 := rfl
theorem annA_8 : annA 8 = an8 := rfl
theorem annA_9 : annA 9 = an9 := rfl
theorem annA_10 : annA 10 = an10 := rfl
theorem annA_11 : annA 11 = an11 := rfl
theorem annA_12 : annA 12 = an12 := rfl
theorem annA_13 : annA 13 = an13 := rfl
theorem annA_14 : annA 14 = an14 := rfl
theorem annA_15 : annA 15 = an15 := rfl
theorem annA_16 : annA 16 = an16 := rfl
theorem annA_17 : annA 17 = an17 := rfl
theorem annA_18 : annA 18 = an18 := rfl
theorem annA_19 : annA 19 = an19 := rfl
theorem annA_20 : annA 20 = an20 := rfl
theorem annA_21 : annA 21 = an21 := rfl
theorem annA_22 : annA 22 = an22 := rfl
theorem annA_23 : annA 23 = an23 := rfl
theorem annA_24 : annA 24 = an24 := rfl
theorem annA_25 : annA 25 = an25 := rfl
theorem annA_26 : annA 26 = an26 := rfl
theorem annA_27 : annA 27 = an27 := rfl
theorem annA_28 : annA 28 = an28 := rfl
theorem annA_29 : annA 29 = an29 := rfl
theorem annA_30 : annA 30 = an30 := rfl
theorem annA_31 : annA 31 = an31 := rfl
theorem annA_32 : annA 32 = an32 := rfl
theorem annA_33 : annA 33 = an33 := rfl
theorem annA_34 : annA 34 = an34 := rfl
theorem annA_35 : annA 35 = an35 := rfl
theorem annA_36 : annA 36 = an36 := rfl
theorem annA_37 : annA 37 = an37 := rfl
theorem annA_38 : annA 38 = an38 := rfl
theorem annA_39 : annA 39 = an39 := rfl
theorem annA_40 : annA 40 = an40 := rfl
theorem annA_41 : annA 41 = an41 := rfl
theorem annA_42 : annA 42 = an42 := rfl
theorem annA_43 : annA 43 = an43 := rfl
theorem annA_44 : annA 44 = an44 := rfl
theorem annA_45 : annA 45 = an45 := rfl
theorem annA_46 : annA 46 = an46 := rfl
theorem annA_47 : annA 47 = an47 := rfl
theorem annA_48 : annA 48 = an48 := rfl
theorem annA_49 : annA 49 = an49 := rfl
theorem annA_50 : annA 50 = an50 := rfl
theorem annA_51 : annA 51 = an51 := rfl
theorem annA_52 : annA 52 = an52 := rfl
theorem annA_53 : annA 53 = an53 := rfl
theorem annA_54 : annA 54 = an54 := rfl
theorem annA_55 : annA 55 = an55 := rfl
theorem annA_56 : annA 56 = an56 := rfl
theorem annA_57 : annA 57 = an57 := rfl
theorem annA_58 : annA 58 = an58 := rfl
theorem annA_59 : annA 59 = an59 := rfl
theorem annA_60 : annA 60 = an60 := rfl
theorem annA_61 : annA 61 = an61 := rfl
theorem annA_62 : annA 62 = an62 := rfl
theorem annA_63 : annA 63 = an63 := rfl
theorem annA_64 : annA 64 = an64 := rfl
theorem annA_65 : annA 65 = an65 := rfl
theorem annA_66 : annA 66 = an66 := rfl
theorem annA_67 : annA 67 = an67 := rfl
theorem annA_68 : annA 68 = an68 := rfl
theorem annA_69 : annA 69 = an69 := rfl
theorem annA_70 : annA 70 = an70 := rfl
theorem annA_71 : annA 71 = an71 := rfl
theorem annA_72 : annA 72 = an72 := rfl
theorem annA_73 : annA 73 = an73 := rfl
theorem annA_74 : annA 74 = an74 := rfl
theorem annA_75 : annA 75 = an75 := rfl
theorem annA_76 : annA 76 = an76 := rfl
theorem annA_77 : annA 77 = an77 := rfl
theorem annA_78 : annA 78 = an78 := rfl
theorem annA_79 : annA 79 = an79 := rfl
theorem annA_80 : annA 80 = an80 := rfl
theorem annA_81 : annA 81 = an81 := rfl
theorem annA_82 : annA 82 = an82 := rfl
theorem annA_83 : annA 83 = an83 := rfl
theorem annA_84 : annA 84 = an84 := rfl
theorem annA_85 : annA 85 = an85 := rfl
theorem annA_86 : annA 86 = an86 := rfl
theorem annA_87 : annA 87 = an87 := rfl
theorem annA_88 : annA 88 = an88 := rfl
theorem annA_89 : annA 89 = an89 := rfl
theorem annA_90 : annA 90 = an90 := rfl
theorem annA_91 : annA 91 = an91 := rfl
theorem annA_92 : annA 92 = an92 := rfl
theorem annA_93 : annA 93 = an93 := rfl
theorem annA_94 : annA 94 = an94 := rfl
theorem annA_95 : annA 95 = an95 := rfl
theorem annA_96 : annA 96 = an96 := rfl
theorem annA_97 : annA 97 = an97 := rfl
theorem annA_98 : annA 98 = an98 := rfl
theorem annA_99 : annA 99 = an99 := rfl
theorem annA_100 : annA 100 = an100 := rfl
theorem annA_101 : annA 101 = an101 := rfl
theorem annA_102 : annA 102 = an102 := rfl
theorem annA_103 : annA 103 = an103 := rfl
theorem annA_104 : annA 104 = an104 := rfl
theorem annA_105 : annA 105 = an105 := rfl
theorem annA_106 : annA 106 = an106 := rfl
theorem annA_107 : annA 107 = an107 := rfl
theorem annA_108 : annA 108 = an108 := rfl
theorem annA_109 : annA 109 = an109 := rfl
theorem annA_110 : annA 110 = an110 := rfl
theorem annA_111 : annA 111 = an111 := rfl
theorem annA_112 : annA 112 = an112 := rfl
theorem annA_113 : annA 113 = an113 := rfl
theorem annA_114 : annA 114 = an114 := rfl
theorem annA_115 : annA 115 = an115 := rfl
theorem annA_116 : annA 116 = an116 := rfl
theorem annA_117 : annA 117 = an117 := rfl
theorem annA_118 : annA 118 = an118 := rfl
theorem annA_119 : annA 119 = an119 := rfl
theorem annA_120 : annA 120 = an120 := rfl
theorem annA_121 : annA 121 = an121 := rfl
theorem annA_122 : annA 122 = an122 := rfl
theorem annA_123 : annA 123 = an123 := rfl
theorem annA_124 : annA 124 = an124 := rfl
theorem annA_125 : annA 125 = an125 := rfl
theorem an2_vars : an2.vars = [] := rfl
theorem an3_vars : an3.vars = [0, 1, 2, 4, 5, 6, 7, 8, 9, 10, 11, 12, 13, 14, 15] := rfl
theorem an4_vars : an4.vars = [0, 1, 2, 4, 5, 6, 7, 8, 9, 10, 11, 12, 13, 14, 15] := rfl
theorem an5_vars : an5.vars = [0, 1, 2, 4, 5, 6, 7, 8, 9, 10, 11, 12, 13, 14, 15] := rfl
theorem an6_vars : an6.vars = [0, 1, 2, 4] := rfl
theorem an7_vars : an7.vars = [0, 1, 2, 4, 5, 6] := rfl
theorem an8_vars : an8.vars = [0, 1, 2, 3] := rfl
theorem an9_vars : an9.vars = [0, 1, 2, 4, 5, 6, 7, 8] := rfl
theorem an10_vars : an10.vars = [0, 1, 2, 3, 4] := rfl
theorem an11_vars : an11.vars = [0, 1, 2, 4] := rfl
theorem an12_vars : an12.vars = [0, 1, 2, 4] := rfl
theorem an13_vars : an13.vars = [0, 1, 2, 4, 5, 6] := rfl
theorem an14_vars : an14.vars = [0, 1, 2, 4, 5, 6, 7, 8] := rfl
theorem an15_vars : an15.vars = [0, 1, 2, 4, 5, 6] := rfl
theorem an16_vars : an16.vars = [0, 1, 2, 4, 5, 6, 7, 8] := rfl
theorem an17_vars : an17.vars = [0, 1, 4] := rfl
theorem an18_vars : an18.vars = [0, 1, 4, 5] := rfl
theorem an19_vars : an19.vars = [0, 1, 2, 4] := rfl
theorem an20_vars : an20.vars = [0, 1, 2, 4, 5] := rfl
theorem an21_vars : an21.vars = [0, 2, 3, 4] := rfl
theorem an22_vars : an22.vars = [0, 2, 3, 4] := rfl
theorem an23_vars : an23.vars = [0, 2, 3, 4, 6] := rfl
theorem an24_vars : an24.vars = [0, 2] := rfl
theorem an25_vars : an25.vars = [0, 1, 2, 3, 4, 17, 18, 19] := rfl
theorem an26_vars : an26.vars = [0, 1, 2, 3, 5, 17, 18, 19] := rfl
theorem an27_vars : an27.vars = [0, 2, 3, 5, 6] := rfl
theorem an28_vars : an28.vars = [0, 1, 2, 4] := rfl
theorem an29_vars : an29.vars = [0, 2] := rfl
theorem an30_vars : an30.vars = [0, 1, 2, 3, 4, 12, 13] := rfl
theorem an31_vars : an31.vars = [0, 1, 4, 5] := rfl
theorem an32_vars : an32.vars = [0, 1, 4, 5] := rfl
theorem an33_vars : an33.vars = [0, 1, 4, 5] := rfl
theorem an34_vars : an34.vars = [0, 1, 4, 5] := rfl
theorem an35_vars : an35.vars = [0, 1, 4, 5] := rfl
theorem an36_vars : an36.vars = [0, 1, 4, 5] := rfl
theorem an37_vars : an37.vars = [0, 1, 2, 4, 5, 6, 7] := rfl
theorem an38_vars : an38.vars = [0, 1, 2, 4, 5, 6, 7] := rfl
theorem an39_vars : an39.vars = [0, 1, 2, 6, 7] := rfl
theorem an40_vars : an40.vars = [0, 1, 2, 4] := rfl
theorem an41_vars : an41.vars = [0, 1, 2, 3, 4, 5] := rfl
theorem an42_vars : an42.vars = [0, 1, 2, 3, 4] := rfl
theorem an43_vars : an43.vars = [0, 2, 3] := rfl
theorem an44_vars : an44.vars = [0, 1, 2, 4, 5] := rfl
theorem an45_vars : an45.vars = [0, 1, 2, 4, 5, 6] := rfl
theorem an46_vars : an46.vars = [0, 1, 2, 3] := rfl
theorem an47_vars : an47.vars = [0, 1, 2] := rfl
theorem an48_vars : an48.vars = [0, 1, 4, 5, 12, 13] := rfl
theorem an49_vars : an49.vars = [0, 1, 2, 3, 5, 7, 10, 11, 12, 17, 18, 19] := rfl
theorem an50_vars : an50.vars = [0, 1, 2, 6] := rfl
theorem an51_vars : an51.vars = [0, 1, 4, 5, 7, 8] := rfl
theorem an52_vars : an52.vars = [0, 1, 2, 3, 5, 8, 9, 10] := rfl
theorem an53_vars : an53.vars = [0, 1, 2, 3, 4] := rfl
theorem an54_vars : an54.vars = [0, 2, 3] := rfl
theorem an55_vars : an55.vars = [0, 1, 2, 4, 5] := rfl
theorem an56_vars : an56.vars = [0, 1, 2, 3, 4, 5] := rfl
theorem an57_vars : an57.vars = [0, 2, 3, 4, 5] := rfl
theorem an58_vars : an58.vars = [0, 1, 2, 3, 4, 5, 6, 7, 8] := rfl
theorem an59_vars : an59.vars = [0, 1, 2, 6] := rfl
theorem an60_vars : an60.vars = [0, 2, 3, 4] := rfl
theorem an61_vars : an61.vars = [0, 2] := rfl
theorem an62_vars : an62.vars = [0, 2, 3] := rfl
theorem an63_vars : an63.vars = [0, 1, 3, 4] := rfl
theorem an64_vars : an64.vars = [0, 1, 2, 3, 5, 10, 11, 12] := rfl
theorem an65_vars : an65.vars = [0, 2] := rfl
theorem an66_vars : an66.vars = [0, 2] := rfl
theorem an67_vars : an67.vars = [0, 2, 3] := rfl
theorem an68_vars : an68.vars = [0, 1, 3, 4] := rfl
theorem an69_vars : an69.vars = [0, 2] := rfl
theorem an70_vars : an70.vars = [0, 2, 3, 5, 7, 8, 9] := rfl
theorem an71_vars : an71.vars = [0, 2, 3] := rfl
theorem an72_vars : an72.vars = [0, 2, 3] := rfl
theorem an73_vars : an73.vars = [0, 2] := rfl
theorem an74_vars : an74.vars = [0, 2] := rfl
theorem an75_vars : an75.vars = [0, 2] := rfl
theorem an76_vars : an76.vars = [0, 2] := rfl
theorem an77_vars : an77.vars = [0, 1, 3, 4] := rfl
theorem an78_vars : an78.vars = [0, 2, 3, 4, 5] := rfl
theorem an79_vars : an79.vars = [0, 1, 4] := rfl
theorem an80_vars : an80.vars = [0, 1, 3] := rfl
theorem an81_vars : an81.vars = [0, 2] := rfl
theorem an82_vars : an82.vars = [0, 2] := rfl
theorem an83_vars : an83.vars = [0, 2, 3, 4, 5] := rfl
theorem an84_vars : an84.vars = [0, 1, 4] := rfl
theorem an85_vars : an85.vars = [0, 1, 3] := rfl
theorem an86_vars : an86.vars = [0, 1, 2, 3, 8, 9, 10, 11, 12, 13, 14, 15, 16, 17, 18] := rfl
theorem an87_vars : an87.vars = [0, 2] := rfl
theorem an88_vars : an88.vars = [0, 1, 4] := rfl
theorem an89_vars : an89.vars = [0, 1, 3] := rfl
theorem an90_vars : an90.vars = [0, 1, 4, 5, 7, 8] := rfl
theorem an91_vars : an91.vars = [0, 1, 2, 3, 8, 9, 10, 11, 12, 13, 14, 15, 16, 17, 18] := rfl
theorem an92_vars : an92.vars = [0, 1, 4, 5, 7, 8] := rfl
theorem an93_vars : an93.vars = [0, 1, 2, 6, 7] := rfl
theorem an94_vars : an94.vars = [0, 1, 2, 6, 7, 8, 9, 10] := rfl
theorem an95_vars : an95.vars = [0, 1, 2, 6, 7, 8, 9, 10] := rfl
theorem an96_vars : an96.vars = [0, 1, 2, 6, 7, 8, 9, 10, 11, 12, 49] := rfl
theorem an97_vars : an97.vars = [0, 1, 2, 6, 7] := rfl
theorem an98_vars : an98.vars = [0, 1, 2, 6, 7, 8, 9, 10] := rfl
theorem an99_vars : an99.vars = [0, 1, 4] := rfl
theorem an100_vars : an100.vars = [0, 1, 2, 3, 8, 9, 10] := rfl
theorem an101_vars : an101.vars = [0, 1, 2, 3, 8, 9, 10, 11] := rfl
theorem an102_vars : an102.vars = [0, 2] := rfl
theorem an103_vars : an103.vars = [0, 2] := rfl
theorem an104_vars : an104.vars = [0, 1, 4, 5, 7, 8] := rfl
theorem an105_vars : an105.vars = [0, 1, 2, 6, 7] := rfl
theorem an106_vars : an106.vars = [0, 1, 2, 6, 7, 8, 9, 10] := rfl
theorem an107_vars : an107.vars = [0, 1, 2, 6, 7, 8, 9, 10] := rfl
theorem an108_vars : an108.vars = [0, 1, 2, 6, 7, 8, 9, 10, 11, 12, 49] := rfl
theorem an109_vars : an109.vars = [0, 1, 2, 6, 7] := rfl
theorem an110_vars : an110.vars = [0, 1, 2, 6, 7, 8, 9, 10] := rfl
theorem an111_vars : an111.vars = [0, 1, 4] := rfl
theorem an112_vars : an112.vars = [0, 1, 2, 3, 8, 9, 10] := rfl
theorem an113_vars : an113.vars = [0, 1, 2, 3, 8, 9, 10, 11] := rfl
theorem an114_vars : an114.vars = [0, 1, 2, 3, 8, 9] := rfl
theorem an115_vars : an115.vars = [0, 2] := rfl
theorem an116_vars : an116.vars = [0, 2] := rfl
theorem an117_vars : an117.vars = [0, 1, 2, 6] := rfl
theorem an118_vars : an118.vars = [0, 1, 2, 3, 4, 10] := rfl
theorem an119_vars : an119.vars = [0, 2] := rfl
theorem an120_vars : an120.vars = [0, 1, 2, 3, 8, 9] := rfl
theorem an121_vars : an121.vars = [0, 1, 2, 6] := rfl
theorem an122_vars : an122.vars = [0, 1, 2, 3, 4, 10] := rfl
theorem an123_vars : an123.vars = [0, 2] := rfl
theorem an124_vars : an124.vars = [0, 1, 2, 3, 8, 9] := rfl
theorem an125_vars : an125.vars = [0, 1, 2, 3, 8, 9] := rfl
attribute [go_sem] an2_vars an3_vars an4_vars an5_vars an6_vars an7_vars an8_vars an9_vars an10_vars an11_vars an12_vars an13_vars an14_vars an15_vars an16_vars an17_vars an18_vars an19_vars an20_vars an21_vars an22_vars an23_vars an24_vars an25_vars an26_vars an27_vars an28_vars an29_vars an30_vars an31_vars an32_vars an33_vars an34_vars an35_vars an36_vars an37_vars an38_vars an39_vars an40_vars an41_vars an42_vars an43_vars an44_vars an45_vars an46_vars an47_vars an48_vars an49_vars an50_vars an51_vars an52_vars an53_vars an54_vars an55_vars an56_vars an57_vars an58_vars an59_vars an60_vars an61_vars an62_vars an63_vars an64_vars an65_vars an66_vars an67_vars an68_vars an69_vars an70_vars an71_vars an72_vars an73_vars an74_vars an75_vars an76_vars an77_vars an78_vars an79_vars an80_vars an81_vars an82_vars an83_vars an84_vars an85_vars an86_vars an87_vars an88_vars an89_vars an90_vars an91_vars an92_vars an93_vars an94_vars an95_vars an96_vars an97_vars an98_vars an99_vars an100_vars an101_vars an102_vars an103_vars an104_vars an105_vars an106_vars an107_vars an108_vars an109_vars an110_vars an111_vars an112_vars an113_vars an114_vars an115_vars an116_vars an117_vars an118_vars an119_vars an120_vars an121_vars an122_vars an123_vars an124_vars an125_vars
theorem an2_np : an2.np = 0 := rfl
theorem an3_np : an3.np = 2 := rfl
theorem an4_np : an4.np = 2 := rfl
theorem an5_np : an5.np = 2 := rfl
theorem an6_np : an6.np = 2 := rfl
theorem an7_np : an7.np = 2 := rfl
theorem an8_np : an8.np = 1 := rfl
theorem an9_np : an9.np = 2 := rfl
theorem an10_np : an10.np = 2 := rfl
theorem an11_np : an11.np = 2 := rfl
theorem an12_np : an12.np = 2 := rfl
theorem an13_np : an13.np = 2 := rfl
theorem an14_np : an14.np = 2 := rfl
theorem an15_np : an15.np = 2 := rfl
theorem an16_np : an16.np = 2 := rfl
theorem an17_np : an17.np = 2 := rfl
theorem an18_np : an18.np = 2 := rfl
theorem an19_np : an19.np = 2 := rfl
theorem an20_np : an20.np = 2 := rfl
theorem an21_np : an21.np = 1 := rfl
theorem an22_np : an22.np = 1 := rfl
theorem an23_np : an23.np = 1 := rfl
theorem an24_np : an24.np = 1 := rfl
theorem an25_np : an25.np = 1 := rfl
theorem an26_np : an26.np = 1 := rfl
theorem an27_np : an27.np = 1 := rfl
theorem an28_np : an28.np = 2 := rfl
theorem an29_np : an29.np = 1 := rfl
theorem an30_np : an30.np = 1 := rfl
theorem an31_np : an31.np = 2 := rfl
theorem an32_np : an32.np = 2 := rfl
theorem an33_np : an33.np = 2 := rfl
theorem an34_np : an34.np = 2 := rfl
theorem an35_np : an35.np = 2 := rfl
theorem an36_np : an36.np = 2 := rfl
theorem an37_np : an37.np = 2 := rfl
theorem an38_np : an38.np = 2 := rfl
theorem an39_np : an39.np = 3 := rfl
theorem an40_np : an40.np = 2 := rfl
theorem an41_np : an41.np = 1 := rfl
theorem an42_np : an42.np = 1 := rfl
theorem an43_np : an43.np = 1 := rfl
theorem an44_np : an44.np = 2 := rfl
theorem an45_np : an45.np = 2 := rfl
theorem an46_np : an46.np = 1 := rfl
theorem an47_np : an47.np = 1 := rfl
theorem an48_np : an48.np = 2 := rfl
theorem an49_np : an49.np = 1 := rfl
theorem an50_np : an50.np = 3 := rfl
theorem an51_np : an51.np = 2 := rfl
theorem an52_np : an52.np = 1 := rfl
theorem an53_np : an53.np = 2 := rfl
theorem an54_np : an54.np = 1 := rfl
theorem an55_np : an55.np = 2 := rfl
theorem an56_np : an56.np = 1 := rfl
theorem an57_np : an57.np = 1 := rfl
theorem an58_np : an58.np = 1 := rfl
theorem an59_np : an59.np = 3 := rfl
theorem an60_np : an60.np = 1 := rfl
theorem an61_np : an61.np = 1 := rfl
theorem an62_np : an62.np = 1 := rfl
theorem an63_np : an63.np = 2 := rfl
theorem an64_np : an64.np = 1 := rfl
theorem an65_np : an65.np = 1 := rfl
theorem an66_np : an66.np = 1 := rfl
theorem an67_np : an67.np = 1 := rfl
theorem an68_np : an68.np = 2 := rfl
theorem an69_np : an69.np = 1 := rfl
theorem an70_np : an70.np = 1 := rfl
theorem an71_np : an71.np = 1 := rfl
theorem an72_np : an72.np = 1 := rfl
theorem an73_np : an73.np = 1 := rfl
theorem an74_np : an74.np = 1 := rfl
theorem an75_np : an75.np = 1 := rfl
theorem an76_np : an76.np = 1 := rfl
theorem an77_np : an77.np = 2 := rfl
theorem an78_np : an78.np = 1 := rfl
theorem an79_np : an79.np = 2 := rfl
theorem an80_np : an80.np = 2 := rfl
theorem an81_np : an81.np = 1 := rfl
theorem an82_np : an82.np = 1 := rfl
theorem an83_np : an83.np = 1 := rfl
theorem an84_np : an84.np = 2 := rfl
theorem an85_np : an85.np = 2 := rfl
theorem an86_np : an86.np = 4 := rfl
theorem an87_np : an87.np = 1 := rfl
theorem an88_np : an88.np = 2 := rfl
theorem an89_np : an89.np = 2 := rfl
theorem an90_np : an90.np = 2 := rfl
theorem an91_np : an91.np = 4 := rfl
theorem an92_np : an92.np = 2 := rfl
theorem an93_np : an93.np = 3 := rfl
theorem an94_np : an94.np = 3 := rfl
theorem an95_np : an95.np = 3 := rfl
theorem an96_np : an96.np = 3 := rfl
theorem an97_np : an97.np = 3 := rfl
theorem an98_np : an98.np = 3 := rfl
theorem an99_np : an99.np = 2 := rfl
theorem an100_np : an100.np = 4 := rfl
theorem an101_np : an101.np = 4 := rfl
theorem an102_np : an102.np = 1 := rfl
theorem an103_np : an103.np = 1 := rfl
theorem an104_np : an104.np = 2 := rfl
theorem an105_np : an105.np = 3 := rfl
theorem an106_np : an106.np = 3 := rfl
theorem an107_np : an107.np = 3 := rfl
theorem an108_np : an108.np = 3 := rfl
theorem an109_np : an109.np = 3 := rfl
theorem an110_np : an110.np = 3 := rfl
theorem an111_np : an111.np = 2 := rfl
theorem an112_np : an112.np = 4 := rfl
theorem an113_np : an113.np = 4 := rfl
theorem an114_np : an114.np = 4 := rfl
theorem an115_np : an115.np = 1 := rfl
theorem an116_np : an116.np = 1 := rfl
theorem an117_np : an117.np = 3 := rfl
theorem an118_np : an118.np = 5 := rfl
theorem an119_np : an119.np = 1 := rfl
theorem an120_np : an120.np = 4 := rfl
theorem an121_np : an121.np = 3 := rfl
theorem an122_np : an122.np = 5 := rfl
theorem an123_np : an123.np = 1 := rfl
theorem an124_np : an124.np = 4 := rfl
theorem an125_np : an125.np = 4 := rfl
attribute [go_sem] an2_np an3_np an4_np an5_np an6_np an7_np an8_np an9_np an10_np an11_np an12_np an13_np an14_np an15_np an16_np an17_np an18_np an19_np an20_np an21_np an22_np an23_np an24_np an25_np an26_np an27_np an28_np an29_np an30_np an31_np an32_np an33_np an34_np an35_np an36_np an37_np an38_np an39_np an40_np an41_np an42_np an43_np an44_np an45_np an46_np an47_np an48_np an49_np an50_np an51_np an52_np an53_np an54_np an55_np an56_np an57_np an58_np an59_np an60_np an61_np an62_np an63_np an64_np an65_np an66_np an67_np an68_np an69_np an70_np an71_np an72_np an73_np an74_np an75_np an76_np an77_np an78_np an79_np an80_np an81_np an82_np an83_np an84_np an85_np an86_np an87_np an88_np an89_np an90_np an91_np an92_np an93_np an94_np an95_np an96_np an97_np an98_np an99_np an100_np an101_np an102_np an103_np an104_np an105_np an106_np an107_np an108_np an109_np an110_np an111_np an112_np an113_np an114_np an115_np an116_np an117_np an118_np an119_np an120_np an121_np an122_np an123_np an124_np an125_np
theorem an2_keep : an2.keep = [] := rfl
theorem an3_keep : an3.keep = [] := rfl
theorem an4_keep : an4.keep = [] := rfl
theorem an5_keep : an5.keep = [] := rfl
theorem an6_keep : an6.keep = [] := rfl
theorem an7_keep : an7.keep = [] := rfl
theorem an8_keep : an8.keep = [] := rfl
theorem an9_keep : an9.keep = [] := rfl
theorem an10_keep : an10.keep = [] := rfl
theorem an11_keep : an11.keep = [] := rfl
theorem an12_keep : an12.keep = [] := rfl
theorem an13_keep : an13.keep = [] := rfl
theorem an14_keep : an14.keep = [] := rfl
theorem an15_keep : an15.keep = [] := rfl
theorem an16_keep : an16.keep = [] := rfl
theorem an17_keep : an17.keep = [] := rfl
theorem an18_keep : an18.keep = [(0, [0, 1, 5], [])] := rfl
theorem an19_keep : an19.keep = [] := rfl
theorem an20_keep : an20.keep = [] := rfl
theorem an21_keep : an21.keep = [(0, [0, 3, 4], [[7]])] := rfl
theorem an22_keep : an22.keep = [(0, [0, 3, 4], [[7], [60]])] := rfl
theorem an23_keep : an23.keep = [(0, [0, 3], [])] := rfl
theorem an24_keep : an24.keep = [] := rfl
theorem an25_keep : an25.keep = [(0, [1, 17, 18, 19], [[1]])] := rfl
theorem an26_keep : an26.keep = [(0, [2, 3, 17, 18, 19], [[2], [3], [8], [11], [14], [32]])] := rfl
theorem an27_keep : an27.keep = [(0, [0, 5, 6], [])] := rfl
theorem an28_keep : an28.keep = [] := rfl
theorem an29_keep : an29.keep = [] := rfl
theorem an30_keep : an30.keep = [(0, [2, 3, 12, 13], [[2], [3], [60], [61], [62], [63], [64]])] := rfl
theorem an31_keep : an31.keep = [(0, [0, 1, 5], [])] := rfl
theorem an32_keep : an32.keep = [(0, [0, 1, 5], [])] := rfl
theorem an33_keep : an33.keep = [(0, [0, 1, 5], [[0]])] := rfl
theorem an34_keep : an34.keep = [(0, [0, 1, 5], [[0]])] := rfl
theorem an35_keep : an35.keep = [(0, [0, 1, 5], [])] := rfl
theorem an36_keep : an36.keep = [(0, [0, 1, 5], [])] := rfl
theorem an37_keep : an37.keep = [(0, [2, 4, 6, 7], [[2], [4], [38], [45], [70], [71], [72], [73]])] := rfl
theorem an38_keep : an38.keep = [(0, [2, 4, 6, 7], [[2], [4], [38], [43], [49], [70], [71], [72], [73]])] := rfl
theorem an39_keep : an39.keep = [] := rfl
theorem an40_keep : an40.keep = [] := rfl
theorem an41_keep : an41.keep = [(0, [1, 3], [[1]]), (2, [1, 4, 5], [[1]])] := rfl
theorem an42_keep : an42.keep = [(0, [1, 2, 3, 4], [[1], [2], [3], [5], [8], [9], [12], [13], [14], [17], [44]])] := rfl
theorem an43_keep : an43.keep = [(0, [0, 3], [])] := rfl
theorem an44_keep : an44.keep = [(0, [1, 2, 5], [[2]])] := rfl
theorem an45_keep : an45.keep = [(0, [2, 4, 5, 6], [[2], [4], [0, 0], [0, 1], [0, 2], [0, 3]])] := rfl
theorem an46_keep : an46.keep = [] := rfl
theorem an47_keep : an47.keep = [] := rfl
theorem an48_keep : an48.keep = [(0, [0, 1, 12, 13], [])] := rfl
theorem an49_keep : an49.keep = [(0, [3, 10, 11, 12], [[8]]), (2, [3, 10, 11, 12, 17, 18, 19], [[8]])] := rfl
theorem an50_keep : an50.keep = [] := rfl
theorem an51_keep : an51.keep = [(0, [0, 1, 7, 8], [])] := rfl
theorem an52_keep : an52.keep = [(0, [3, 8, 9, 10], [[6], [18]])] := rfl
theorem an53_keep : an53.keep = [] := rfl
theorem an54_keep : an54.keep = [(0, [0, 3], [])] := rfl
theorem an55_keep : an55.keep = [] := rfl
theorem an56_keep : an56.keep = [(0, [1, 3], [[1]]), (2, [1, 3, 4], [[1]]), (4, [1, 5], [[1]])] := rfl
theorem an57_keep : an57.keep = [(0, [3, 4], []), (2, [3, 4, 5], [])] := rfl
theorem an58_keep : an58.keep = [(0, [1, 3, 4, 5], [[1], [9], [12], [28]]), (2, [3, 4, 6], [[9], [12], [28]]), (4, [3, 4, 6, 7, 8], [[9], [12], [28]])] := rfl
theorem an59_keep : an59.keep = [] := rfl
theorem an60_keep : an60.keep = [(0, [0, 3, 4], [[5], [24]])] := rfl
theorem an61_keep : an61.keep = [] := rfl
theorem an62_keep : an62.keep = [] := rfl
theorem an63_keep : an63.keep = [] := rfl
theorem an64_keep : an64.keep = [(0, [3, 10, 11, 12], [[8], [20]])] := rfl
theorem an65_keep : an65.keep = [] := rfl
theorem an66_keep : an66.keep = [] := rfl
theorem an67_keep : an67.keep = [] := rfl
theorem an68_keep : an68.keep = [] := rfl
theorem an69_keep : an69.keep = [] := rfl
theorem an70_keep : an70.keep = [(0, [3, 7, 8, 9], [[6], [19]])] := rfl
theorem an71_keep : an71.keep = [(0, [0, 3], [])] := rfl
theorem an72_keep : an72.keep = [(0, [0, 3], [])] := rfl
theorem an73_keep : an73.keep = [] := rfl
theorem an74_keep : an74.keep = [] := rfl
theorem an75_keep : an75.keep = [] := rfl
theorem an76_keep : an76.keep = [] := rfl
theorem an77_keep : an77.keep = [] := rfl
theorem an78_keep : an78.keep = [(0, [0, 3], [[0]]), (2, [0, 3, 4, 5], [[0]])] := rfl
theorem an79_keep : an79.keep = [] := rfl
theorem an80_keep : an80.keep = [] := rfl
theorem an81_keep : an81.keep = [] := rfl
theorem an82_keep : an82.keep = [] := rfl
theorem an83_keep : an83.keep = [(0, [0, 3], [[0]]), (2, [0, 3, 4, 5], [[0]])] := rfl
theorem an84_keep : an84.keep = [] := rfl
theorem an85_keep : an85.keep = [] := rfl
theorem an86_keep : an86.keep = [(0, [0, 1, 2, 3, 8, 9], [[0]])] := rfl
theorem an87_keep : an87.keep = [] := rfl
theorem an88_keep : an88.keep = [] := rfl
theorem an89_keep : an89.keep = [] := rfl
theorem an90_keep : an90.keep = [(0, [0, 1, 7, 8], [])] := rfl
theorem an91_keep : an91.keep = [(0, [0, 1, 2, 3, 8, 9], [[0]])] := rfl
theorem an92_keep : an92.keep = [(0, [0, 1, 7, 8], [])] := rfl
theorem an93_keep : an93.keep = [(0, [0, 1, 2, 6], [[0]]), (2, [0, 1, 2, 6, 7], [[0]])] := rfl
theorem an94_keep : an94.keep = [(0, [0, 6, 7, 8, 9], []), (2, [0, 6, 7, 10], [])] := rfl
theorem an95_keep : an95.keep = [(0, [0, 1, 6, 7, 8, 9], [[7]])] := rfl
theorem an96_keep : an96.keep = [] := rfl
theorem an97_keep : an97.keep = [(0, [0, 6, 7], [])] := rfl
theorem an98_keep : an98.keep = [(0, [0, 1, 2, 7, 8], []), (2, [0, 1, 2, 7, 8], []), (4, [0, 1, 2, 7, 8, 9], []), (6, [0, 1, 2, 7, 8, 10], [])] := rfl
theorem an99_keep : an99.keep = [] := rfl
theorem an100_keep : an100.keep = [(0, [0, 1, 9, 10], []), (2, [0, 1, 9, 10], []), (4, [0, 1, 9, 10], [])] := rfl
theorem an101_keep : an101.keep = [(0, [0, 1, 10, 11], []), (2, [0, 1, 10, 11], []), (4, [0, 1, 10, 11], []), (6, [0, 1, 10, 11], []), (8, [0, 1, 10, 11], [])] := rfl
theorem an102_keep : an102.keep = [] := rfl
theorem an103_keep : an103.keep = [] := rfl
theorem an104_keep : an104.keep = [(0, [0, 1, 7, 8], [])] := rfl
theorem an105_keep : an105.keep = [(0, [0, 1, 2, 6], [[0]]), (2, [0, 1, 2, 6, 7], [[0]])] := rfl
theorem an106_keep : an106.keep = [(0, [0, 6, 7, 8, 9], []), (2, [0, 6, 7, 10], [])] := rfl
theorem an107_keep : an107.keep = [(0, [0, 1, 6, 7, 8, 9], [[7]])] := rfl
theorem an108_keep : an108.keep = [] := rfl
theorem an109_keep : an109.keep = [(0, [0, 6, 7], [])] := rfl
theorem an110_keep : an110.keep = [(0, [0, 1, 2, 7, 8], []), (2, [0, 1, 2, 7, 8], []), (4, [0, 1, 2, 7, 8, 9], []), (6, [0, 1, 2, 7, 8, 10], [])] := rfl
theorem an111_keep : an111.keep = [] := rfl
theorem an112_keep : an112.keep = [(0, [0, 1, 9, 10], []), (2, [0, 1, 9, 10], []), (4, [0, 1, 9, 10], [])] := rfl
theorem an113_keep : an113.keep = [(0, [0, 1, 10, 11], []), (2, [0, 1, 10, 11], []), (4, [0, 1, 10, 11], []), (6, [0, 1, 10, 11], []), (8, [0, 1, 10, 11], [])] := rfl
theorem an114_keep : an114.keep = [(0, [0, 2, 3, 8], [])] := rfl
theorem an115_keep : an115.keep = [] := rfl
theorem an116_keep : an116.keep = [] := rfl
theorem an117_keep : an117.keep = [] := rfl
theorem an118_keep : an118.keep = [] := rfl
theorem an119_keep : an119.keep = [] := rfl
theorem an120_keep : an120.keep = [(0, [0, 2, 3, 8], [])] := rfl
theorem an121_keep : an121.keep = [] := rfl
theorem an122_keep : an122.keep = [] := rfl
theorem an123_keep : an123.keep = [] := rfl
theorem an124_keep : an124.keep = [] := rfl
theorem an125_keep : an125.keep = [] := rfl
attribute [go_sem] an2_keep an3_keep an4_keep an5_keep an6_keep an7_keep an8_keep an9_keep an10_keep an11_keep an12_keep an13_keep an14_keep an15_keep an16_keep an17_keep an18_keep an19_keep an20_keep an21_keep an22_keep an23_keep an24_keep an25_keep an26_keep an27_keep an28_keep an29_keep an30_keep an31_keep an32_keep an33_keep an34_keep an35_keep an36_keep an37_keep an38_keep an39_keep an40_keep an41_keep an42_keep an43_keep an44_keep an45_keep an46_keep an47_keep an48_keep an49_keep an50_keep an51_keep an52_keep an53_keep an54_keep an55_keep an56_keep an57_keep an58_keep an59_keep an60_keep an61_keep an62_keep an63_keep an64_keep an65_keep an66_keep an67_keep an68_keep an69_keep an70_keep an71_keep an72_keep an73_keep an74_keep an75_keep an76_keep an77_keep an78_keep an79_keep an80_keep an81_keep an82_keep an83_keep an84_keep an85_keep an86_keep an87_keep an88_keep an89_keep an90_keep an91_keep an92_keep an93_keep an94_keep an95_keep an96_keep an97_keep an98_keep an99_keep an100_keep an101_keep an102_keep an103_keep an104_keep an105_keep an106_keep an107_keep an108_keep an109_keep an110_keep an111_keep an112_keep an113_keep an114_keep an115_keep an116_keep an117_keep an118_keep an119_keep an120_keep an121_keep an122_keep an123_keep an124_keep an125_keep
theorem an2_outs : an2.outs = [(1000000, [], [])] := rfl
theorem an3_outs : an3.outs = [(1000000, [4], [])] := rfl
theorem an4_outs : an4.outs = [(1000000, [4], [])] := rfl
theorem an5_outs : an5.outs = [(1000000, [4], [])] := rfl
theorem an6_outs : an6.outs = [(1000000, [4], [])] := rfl
theorem an7_outs : an7.outs = [(1000000, [4, 5], [[4]])] := rfl
theorem an8_outs : an8.outs = [(1000000, [2], [[2], [60], [61], [62], [63]])] := rfl
theorem an9_outs : an9.outs = [(1000000, [4, 5], [[4], [57], [70], [71], [72], [73], [75], [76], [77], [78]])] := rfl
theorem an10_outs : an10.outs = [(1000000, [4], [])] := rfl
theorem an11_outs : an11.outs = [(1000000, [4], [[0, 0], [0, 1], [0, 2], [0, 3]])] := rfl
theorem an12_outs : an12.outs = [(1000000, [4], [])] := rfl
theorem an13_outs : an13.outs = [(1000000, [4, 5], [[4]])] := rfl
theorem an14_outs : an14.outs = [(1000000, [4, 5], [[4], [70], [71], [72], [73], [74], [75], [76], [77], [78]])] := rfl
theorem an15_outs : an15.outs = [(1000000, [4, 5], [[4]])] := rfl
theorem an16_outs : an16.outs = [(1000000, [4, 5], [[4], [70], [71], [72], [73], [75], [76], [77], [78]])] := rfl
theorem an17_outs : an17.outs = [(1000000, [4], [])] := rfl
theorem an18_outs : an18.outs = [(0, [1], []), (1000000, [4], [])] := rfl
theorem an19_outs : an19.outs = [(1000000, [4], [])] := rfl
theorem an20_outs : an20.outs = [(1000000, [4, 5], [[4], [38], [70], [71], [72], [73]])] := rfl
theorem an21_outs : an21.outs = [(0, [3], [[7]]), (1000000, [2], [[7]])] := rfl
theorem an22_outs : an22.outs = [(0, [3], [[7], [60]]), (1000000, [2], [[7], [60]])] := rfl
theorem an23_outs : an23.outs = [(0, [], []), (1000000, [2], [])] := rfl
theorem an24_outs : an24.outs = [(1000000, [2], [])] := rfl
theorem an25_outs : an25.outs = [(0, [], []), (1000000, [2], [])] := rfl
theorem an26_outs : an26.outs = [(0, [2, 3], [[2], [3], [8], [11], [14], [32]]), (1000000, [2], [[2], [8], [11], [14], [32]])] := rfl
theorem an27_outs : an27.outs = [(0, [0], []), (1000000, [2], [])] := rfl
theorem an28_outs : an28.outs = [(1000000, [4], [])] := rfl
theorem an29_outs : an29.outs = [(1000000, [2], [[5], [7]])] := rfl
theorem an30_outs : an30.outs = [(0, [2, 3], [[2], [3], [60], [61], [62], [63], [64]]), (1000000, [2], [[2], [60], [61], [62], [63], [64]])] := rfl
theorem an31_outs : an31.outs = [(0, [], []), (1000000, [4], [])] := rfl
theorem an32_outs : an32.outs = [(0, [], []), (1000000, [4], [])] := rfl
theorem an33_outs : an33.outs = [(0, [1], [[0]]), (1000000, [4], [[0]])] := rfl
theorem an34_outs : an34.outs = [(0, [1], [[0]]), (1000000, [4], [[0]])] := rfl
theorem an35_outs : an35.outs = [(0, [1], []), (1000000, [4], [])] := rfl
theorem an36_outs : an36.outs = [(0, [1], []), (1000000, [4], [])] := rfl
theorem an37_outs : an37.outs = [(0, [2, 4, 6], [[2], [4], [38], [45], [70], [71], [72], [73]]), (1000000, [4, 5], [[4], [38], [45], [70], [71], [72], [73]])] := rfl
theorem an38_outs : an38.outs = [(0, [2, 4, 6], [[2], [4], [38], [43], [49], [70], [71], [72], [73]]), (1000000, [4, 5], [[4], [38], [43], [49], [70], [71], [72], [73]])] := rfl
theorem an39_outs : an39.outs = [(1000000, [6], [[0], [26]])] := rfl
theorem an40_outs : an40.outs = [(1000000, [4], [])] := rfl
theorem an41_outs : an41.outs = [(0, [1], [[1]]), (2, [], []), (1000000, [2], [])] := rfl
theorem an42_outs : an42.outs = [(0, [2, 3], [[2], [3], [5], [8], [9], [12], [13], [14], [17], [44]]), (1000000, [2], [[2], [5], [8], [9], [12], [13], [14], [17], [44]])] := rfl
theorem an43_outs : an43.outs = [(0, [0], []), (1000000, [2], [])] := rfl
theorem an44_outs : an44.outs = [(0, [], []), (1000000, [4], [])] := rfl
theorem an45_outs : an45.outs = [(0, [2, 4], [[2], [4], [0, 0], [0, 1], [0, 2], [0, 3]]), (1000000, [4], [[4], [0, 0], [0, 1], [0, 2], [0, 3]])] := rfl
theorem an46_outs : an46.outs = [(1000000, [2], [[2], [60]])] := rfl
theorem an47_outs : an47.outs = [(1000000, [2], [])] := rfl
theorem an48_outs : an48.outs = [(0, [], []), (1000000, [4], [])] := rfl
theorem an49_outs : an49.outs = [(0, [3], [[8]]), (2, [3, 10, 11, 12], [[8]]), (1000000, [2], [[8]])] := rfl
theorem an50_outs : an50.outs = [(1000000, [6], [])] := rfl
theorem an51_outs : an51.outs = [(0, [], []), (1000000, [4], [])] := rfl
theorem an52_outs : an52.outs = [(0, [3], [[6], [18]]), (1000000, [2], [[6], [18]])] := rfl
theorem an53_outs : an53.outs = [(1000000, [4], [])] := rfl
theorem an54_outs : an54.outs = [(0, [3], []), (1000000, [2], [])] := rfl
theorem an55_outs : an55.outs = [(1000000, [4], [[4], [0, 0], [0, 1], [0, 2], [0, 3]])] := rfl
theorem an56_outs : an56.outs = [(0, [1], [[1]]), (2, [1, 3], [[1]]), (4, [], []), (1000000, [2], [])] := rfl
theorem an57_outs : an57.outs = [(0, [], []), (2, [3, 4], []), (1000000, [2], [])] := rfl
theorem an58_outs : an58.outs = [(0, [3, 4], [[9], [12], [28]]), (2, [3], [[9]]), (4, [3, 4, 6], [[9], [12], [28]]), (1000000, [2], [[9]])] := rfl
theorem an59_outs : an59.outs = [(1000000, [6], [])] := rfl
theorem an60_outs : an60.outs = [(0, [3], [[5], [24]]), (1000000, [2], [[5], [24]])] := rfl
theorem an61_outs : an61.outs = [(1000000, [2], [])] := rfl
theorem an62_outs : an62.outs = [(1000000, [2], [])] := rfl
theorem an63_outs : an63.outs = [(1000000, [4], [])] := rfl
theorem an64_outs : an64.outs = [(0, [3], [[8], [20]]), (1000000, [2], [[8], [20]])] := rfl
theorem an65_outs : an65.outs = [(1000000, [2], [])] := rfl
theorem an66_outs : an66.outs = [(1000000, [2], [])] := rfl
theorem an67_outs : an67.outs = [(1000000, [2], [])] := rfl
theorem an68_outs : an68.outs = [(1000000, [4], [])] := rfl
theorem an69_outs : an69.outs = [(1000000, [2], [])] := rfl
theorem an70_outs : an70.outs = [(0, [3], [[6], [19]]), (1000000, [2], [[6], [19]])] := rfl
theorem an71_outs : an71.outs = [(0, [0], []), (1000000, [2], [])] := rfl
theorem an72_outs : an72.outs = [(0, [0], []), (1000000, [2], [])] := rfl
theorem an73_outs : an73.outs = [(1000000, [2], [])] := rfl
theorem an74_outs : an74.outs = [(1000000, [2], [])] := rfl
theorem an75_outs : an75.outs = [(1000000, [2], [[5], [7]])] := rfl
theorem an76_outs : an76.outs = [(1000000, [], [[0]])] := rfl
theorem an77_outs : an77.outs = [(1000000, [4], [])] := rfl
theorem an78_outs : an78.outs = [(0, [0], [[0]]), (2, [0, 3], [[0]]), (1000000, [2], [[0]])] := rfl
theorem an79_outs : an79.outs = [(1000000, [4], [])] := rfl
theorem an80_outs : an80.outs = [(1000000, [3], [])] := rfl
theorem an81_outs : an81.outs = [(1000000, [2], [])] := rfl
theorem an82_outs : an82.outs = [(1000000, [], [[0]])] := rfl
theorem an83_outs : an83.outs = [(0, [0], [[0]]), (2, [0, 3], [[0]]), (1000000, [2], [[0]])] := rfl
theorem an84_outs : an84.outs = [(1000000, [4], [])] := rfl
theorem an85_outs : an85.outs = [(1000000, [3], [])] := rfl
theorem an86_outs : an86.outs = [(0, [], [[0]]), (1000000, [], [[0]])] := rfl
theorem an87_outs : an87.outs = [(1000000, [2], [])] := rfl
theorem an88_outs : an88.outs = [(1000000, [4], [])] := rfl
theorem an89_outs : an89.outs = [(1000000, [3], [])] := rfl
theorem an90_outs : an90.outs = [(0, [], []), (1000000, [4], [])] := rfl
theorem an91_outs : an91.outs = [(0, [], [[0]]), (1000000, [], [[0]])] := rfl
theorem an92_outs : an92.outs = [(0, [], []), (1000000, [4], [])] := rfl
theorem an93_outs : an93.outs = [(0, [], [[0]]), (2, [0, 1, 2, 6], [[0]]), (1000000, [], [[0]])] := rfl
theorem an94_outs : an94.outs = [(0, [0, 6, 7, 8], []), (2, [], []), (1000000, [], [])] := rfl
theorem an95_outs : an95.outs = [(0, [], []), (1000000, [], [])] := rfl
theorem an96_outs : an96.outs = [(1000000, [6, 7], [])] := rfl
theorem an97_outs : an97.outs = [(0, [], []), (1000000, [], [])] := rfl
theorem an98_outs : an98.outs = [(0, [], []), (2, [0, 1, 2, 7, 8], []), (4, [0, 1, 2, 7, 8], []), (6, [0, 1, 2, 7, 8], []), (1000000, [6], [])] := rfl
theorem an99_outs : an99.outs = [(1000000, [4], [])] := rfl
theorem an100_outs : an100.outs = [(0, [9], []), (2, [0, 1, 9, 10], []), (4, [0, 1, 9, 10], []), (1000000, [8], [])] := rfl
theorem an101_outs : an101.outs = [(0, [0, 1, 10, 11], []), (2, [0, 1, 10, 11], []), (4, [0, 1, 11], []), (6, [0, 1, 10, 11], []), (8, [0, 1, 10, 11], []), (1000000, [8, 9], [])] := rfl
theorem an102_outs : an102.outs = [(1000000, [2], [])] := rfl
theorem an103_outs : an103.outs = [(1000000, [2], [])] := rfl
theorem an104_outs : an104.outs = [(0, [], []), (1000000, [4], [])] := rfl
theorem an105_outs : an105.outs = [(0, [], [[0]]), (2, [0, 1, 2, 6], [[0]]), (1000000, [], [[0]])] := rfl
theorem an106_outs : an106.outs = [(0, [0, 6, 7, 8], []), (2, [], []), (1000000, [], [])] := rfl
theorem an107_outs : an107.outs = [(0, [], []), (1000000, [], [])] := rfl
theorem an108_outs : an108.outs = [(1000000, [6, 7], [])] := rfl
theorem an109_outs : an109.outs = [(0, [], []), (1000000, [], [])] := rfl
theorem an110_outs : an110.outs = [(0, [], []), (2, [0, 1, 2, 7, 8], []), (4, [0, 1, 2, 7, 8], []), (6, [0, 1, 2, 7, 8], []), (1000000, [6], [])] := rfl
theorem an111_outs : an111.outs = [(1000000, [4], [])] := rfl
theorem an112_outs : an112.outs = [(0, [9], []), (2, [0, 1, 9, 10], []), (4, [0, 1, 9, 10], []), (1000000, [8], [])] := rfl
theorem an113_outs : an113.outs = [(0, [0, 1, 10, 11], []), (2, [0, 1, 10, 11], []), (4, [0, 1, 11], []), (6, [0, 1, 10, 11], []), (8, [0, 1, 10, 11], []), (1000000, [8, 9], [])] := rfl
theorem an114_outs : an114.outs = [(0, [], []), (1000000, [], [])] := rfl
theorem an115_outs : an115.outs = [(1000000, [2], [])] := rfl
theorem an116_outs : an116.outs = [(1000000, [2], [])] := rfl
theorem an117_outs : an117.outs = [(1000000, [6], [])] := rfl
theorem an118_outs : an118.outs = [(1000000, [10], [])] := rfl
theorem an119_outs : an119.outs = [(1000000, [2], [])] := rfl
theorem an120_outs : an120.outs = [(0, [], []), (1000000, [], [])] := rfl
theorem an121_outs : an121.outs = [(1000000, [6], [])] := rfl
theorem an122_outs : an122.outs = [(1000000, [10], [])] := rfl
theorem an123_outs : an123.outs = [(1000000, [2], [])] := rfl
theorem an124_outs : an124.outs = [(1000000, [8, 9], [])] := rfl
theorem an125_outs : an125.outs = [(1000000, [8, 9], [])] := rfl
attribute [go_sem] an2_outs an3_outs an4_outs an5_outs an6_outs an7_outs an8_outs an9_outs an10_outs an11_outs an12_outs an13_outs an14_outs an15_outs an16_outs an17_outs an18_outs an19_outs an20_outs an21_outs an22_outs an23_outs an24_outs an25_outs an26_outs an27_outs an28_outs an29_outs an30_outs an31_outs an32_outs an33_outs an34_outs an35_outs an36_outs an37_outs an38_outs an39_outs an40_outs an41_outs an42_outs an43_outs an44_outs an45_outs an46_outs an47_outs an48_outs an49_outs an50_outs an51_outs an52_outs an53_outs an54_outs an55_outs an56_outs an57_outs an58_outs an59_outs an60_outs an61_outs an62_outs an63_outs an64_outs an65_outs an66_outs an67_outs an68_outs an69_outs an70_outs an71_outs an72_outs an73_outs an74_outs an75_outs an76_outs an77_outs an78_outs an79_outs an80_outs an81_outs an82_outs an83_outs an84_outs an85_outs an86_outs an87_outs an88_outs an89_outs an90_outs an91_outs an92_outs an93_outs an94_outs an95_outs an96_outs an97_outs an98_outs an99_outs an100_outs an101_outs an102_outs an103_outs an104_outs an105_outs an106_outs an107_outs an108_outs an109_outs an110_outs an111_outs an112_outs an113_outs an114_outs an115_outs an116_outs an117_outs an118_outs an119_outs an120_outs an121_outs an122_outs an123_outs an124_outs an125_outs
theorem an2_io : an2.io = [] := rfl
theorem an3_io : an3.io = [] := rfl
theorem an4_io : an4.io = [] := rfl
theorem an5_io : an5.io = [] := rfl
theorem an6_io : an6.io = [] := rfl
theorem an7_io : an7.io = [] := rfl
theorem an8_io : an8.io = [] := rfl
theorem an9_io : an9.io = [] := rfl
theorem an10_io : an10.io = [] := rfl
theorem an11_io : an11.io = [true] := rfl
theorem an12_io : an12.io = [] := rfl
theorem an13_io : an13.io = [] := rfl
theorem an14_io : an14.io = [] := rfl
theorem an15_io : an15.io = [] := rfl
theorem an16_io : an16.io = [] := rfl
theorem an17_io : an17.io = [] := rfl
theorem an18_io : an18.io = [] := rfl
theorem an19_io : an19.io = [] := rfl
theorem an20_io : an20.io = [] := rfl
theorem an21_io : an21.io = [] := rfl
theorem an22_io : an22.io = [] := rfl
theorem an23_io : an23.io = [] := rfl
theorem an24_io : an24.io = [] := rfl
theorem an25_io : an25.io = [] := rfl
theorem an26_io : an26.io = [] := rfl
theorem an27_io : an27.io = [] := rfl
theorem an28_io : an28.io = [] := rfl
theorem an29_io : an29.io = [] := rfl
theorem an30_io : an30.io = [] := rfl
theorem an31_io : an31.io = [] := rfl
theorem an32_io : an32.io = [] := rfl
theorem an33_io : an33.io = [true] := rfl
theorem an34_io : an34.io = [true] := rfl
theorem an35_io : an35.io = [] := rfl
theorem an36_io : an36.io = [] := rfl
theorem an37_io : an37.io = [] := rfl
theorem an38_io : an38.io = [] := rfl
theorem an39_io : an39.io = [true] := rfl
theorem an40_io : an40.io = [] := rfl
theorem an41_io : an41.io = [] := rfl
theorem an42_io : an42.io = [] := rfl
theorem an43_io : an43.io = [] := rfl
theorem an44_io : an44.io = [] := rfl
theorem an45_io : an45.io = [true, true] := rfl
theorem an46_io : an46.io = [] := rfl
theorem an47_io : an47.io = [] := rfl
theorem an48_io : an48.io = [] := rfl
theorem an49_io : an49.io = [] := rfl
theorem an50_io : an50.io = [] := rfl
theorem an51_io : an51.io = [] := rfl
theorem an52_io : an52.io = [] := rfl
theorem an53_io : an53.io = [] := rfl
theorem an54_io : an54.io = [] := rfl
theorem an55_io : an55.io = [true] := rfl
theorem an56_io : an56.io = [] := rfl
theorem an57_io : an57.io = [] := rfl
theorem an58_io : an58.io = [] := rfl
theorem an59_io : an59.io = [] := rfl
theorem an60_io : an60.io = [] := rfl
theorem an61_io : an61.io = [] := rfl
theorem an62_io : an62.io = [] := rfl
theorem an63_io : an63.io = [] := rfl
theorem an64_io : an64.io = [] := rfl
theorem an65_io : an65.io = [] := rfl
theorem an66_io : an66.io = [] := rfl
theorem an67_io : an67.io = [] := rfl
theorem an68_io : an68.io = [] := rfl
theorem an69_io : an69.io = [] := rfl
theorem an70_io : an70.io = [] := rfl
theorem an71_io : an71.io = [] := rfl
theorem an72_io : an72.io = [] := rfl
theorem an73_io : an73.io = [] := rfl
theorem an74_io : an74.io = [] := rfl
theorem an75_io : an75.io = [] := rfl
theorem an76_io : an76.io = [true] := rfl
theorem an77_io : an77.io = [] := rfl
theorem an78_io : an78.io = [true] := rfl
theorem an79_io : an79.io = [] := rfl
theorem an80_io : an80.io = [] := rfl
theorem an81_io : an81.io = [] := rfl
theorem an82_io : an82.io = [true] := rfl
theorem an83_io : an83.io = [true] := rfl
theorem an84_io : an84.io = [] := rfl
theorem an85_io : an85.io = [] := rfl
theorem an86_io : an86.io = [true] := rfl
theorem an87_io : an87.io = [] := rfl
theorem an88_io : an88.io = [] := rfl
theorem an89_io : an89.io = [] := rfl
theorem an90_io : an90.io = [] := rfl
theorem an91_io : an91.io = [true] := rfl
theorem an92_io : an92.io = [] := rfl
theorem an93_io : an93.io = [true] := rfl
theorem an94_io : an94.io = [] := rfl
theorem an95_io : an95.io = [] := rfl
theorem an96_io : an96.io = [] := rfl
theorem an97_io : an97.io = [] := rfl
theorem an98_io : an98.io = [] := rfl
theorem an99_io : an99.io = [] := rfl
theorem an100_io : an100.io = [] := rfl
theorem an101_io : an101.io = [] := rfl
theorem an102_io : an102.io = [] := rfl
theorem an103_io : an103.io = [] := rfl
theorem an104_io : an104.io = [] := rfl
theorem an105_io : an105.io = [true] := rfl
theorem an106_io : an106.io = [] := rfl
theorem an107_io : an107.io = [] := rfl
theorem an108_io : an108.io = [] := rfl
theorem an109_io : an109.io = [] := rfl
theorem an110_io : an110.io = [] := rfl
theorem an111_io : an111.io = [] := rfl
theorem an112_io : an112.io = [] := rfl
theorem an113_io : an113.io = [] := rfl
theorem an114_io : an114.io = [] := rfl
theorem an115_io : an115.io = [] := rfl
theorem an116_io : an116.io = [] := rfl
theorem an117_io : an117.io = [] := rfl
theorem an118_io : an118.io = [] := rfl
theorem an119_io : an119.io = [] := rfl
theorem an120_io : an120.io = [] := rfl
theorem an121_io : an121.io = [] := rfl
theorem an122_io : an122.io = [] := rfl
theorem an123_io : an123.io = [] := rfl
theorem an124_io : an124.io = [] := rfl
theorem an125_io : an125.io = [] := rfl
attribute [go_sem] an2_io an3_io an4_io an5_io an6_io an7_io an8_io an9_io an10_io an11_io an12_io an13_io an14_io an15_io an16_io an17_io an18_io an19_io an20_io an21_io an22_io an23_io an24_io an25_io an26_io an27_io an28_io an29_io an30_io an31_io an32_io an33_io an34_io an35_io an36_io an37_io an38_io an39_io an40_io an41_io an42_io an43_io an44_io an45_io an46_io an47_io an48_io an49_io an50_io an51_io an52_io an53_io an54_io an55_io an56_io an57_io an58_io an59_io an60_io an61_io an62_io an63_io an64_io an65_io an66_io an67_io an68_io an69_io an70_io an71_io an72_io an73_io an74_io an75_io an76_io an77_io an78_io an79_io an80_io an81_io an82_io an83_io an84_io an85_io an86_io an87_io an88_io an89_io an90_io an91_io an92_io an93_io an94_io an95_io an96_io an97_io an98_io an99_io an100_io an101_io an102_io an103_io an104_io an105_io an106_io an107_io an108_io an109_io an110_io an111_io an112_io an113_io an114_io an115_io an116_io an117_io an118_io an119_io an120_io an121_io an122_io an123_io an124_io an125_io
theorem an2_own : an2.own = [] := rfl
theorem an3_own : an3.own = [(32, [[201], [202], [203], [204]]), (36, [[205], [206], [207], [208]])] := rfl
theorem an4_own : an4.own = [(32, [[201], [202], [203], [204]]), (36, [[205], [206], [207], [208]])] := rfl
theorem an5_own : an5.own = [(32, [[201], [202], [203], [204]]), (36, [[205], [206], [207], [208]])] := rfl
theorem an6_own : an6.own = [] := rfl
theorem an7_own : an7.own = [] := rfl
theorem an8_own : an8.own = [(6, [[60]]), (10, [[61]]), (14, [[62]]), (18, [[63]])] := rfl
theorem an9_own : an9.own = [(25, [[70], [71], [72], [73]]), (54, [[54]]), (60, [[75], [76], [77], [78]])] := rfl
theorem an10_own : an10.own = [] := rfl
theorem an11_own : an11.own = [] := rfl
theorem an12_own : an12.own = [] := rfl
theorem an13_own : an13.own = [] := rfl
theorem an14_own : an14.own = [(25, [[70], [71], [72], [73]]), (38, [[74]]), (41, [[75], [76], [77], [78]])] := rfl
theorem an15_own : an15.own = [] := rfl
theorem an16_own : an16.own = [(25, [[70], [71], [72], [73]]), (40, [[75], [76], [77], [78]])] := rfl
theorem an17_own : an17.own = [] := rfl
theorem an18_own : an18.own = [] := rfl
theorem an19_own : an19.own = [] := rfl
theorem an20_own : an20.own = [(7, [[70], [71], [72], [73]])] := rfl
theorem an21_own : an21.own = [] := rfl
theorem an22_own : an22.own = [(20, [[60]])] := rfl
theorem an23_own : an23.own = [] := rfl
theorem an24_own : an24.own = [] := rfl
theorem an25_own : an25.own = [] := rfl
theorem an26_own : an26.own = [(8, [[8]]), (11, [[11]]), (14, [[14]]), (29, [[29]])] := rfl
theorem an27_own : an27.own = [] := rfl
theorem an28_own : an28.own = [] := rfl
theorem an29_own : an29.own = [] := rfl
theorem an30_own : an30.own = [(6, [[60], [61], [62], [63]]), (8, [[64]])] := rfl
theorem an31_own : an31.own = [] := rfl
theorem an32_own : an32.own = [] := rfl
theorem an33_own : an33.own = [] := rfl
theorem an34_own : an34.own = [] := rfl
theorem an35_own : an35.own = [] := rfl
theorem an36_own : an36.own = [] := rfl
theorem an37_own : an37.own = [(9, [[70], [71], [72], [73]])] := rfl
theorem an38_own : an38.own = [(9, [[70], [71], [72], [73]])] := rfl
theorem an39_own : an39.own = [] := rfl
theorem an40_own : an40.own = [] := rfl
theorem an41_own : an41.own = [] := rfl
theorem an42_own : an42.own = [] := rfl
theorem an43_own : an43.own = [] := rfl
theorem an44_own : an44.own = [] := rfl
theorem an45_own : an45.own = [] := rfl
theorem an46_own : an46.own = [(9, [[60]])] := rfl
theorem an47_own : an47.own = [] := rfl
theorem an48_own : an48.own = [] := rfl
theorem an49_own : an49.own = [] := rfl
theorem an50_own : an50.own = [] := rfl
theorem an51_own : an51.own = [] := rfl
theorem an52_own : an52.own = [] := rfl
theorem an53_own : an53.own = [] := rfl
theorem an54_own : an54.own = [] := rfl
theorem an55_own : an55.own = [] := rfl
theorem an56_own : an56.own = [] := rfl
theorem an57_own : an57.own = [] := rfl
theorem an58_own : an58.own = [] := rfl
theorem an59_own : an59.own = [] := rfl
theorem an60_own : an60.own = [] := rfl
theorem an61_own : an61.own = [] := rfl
theorem an62_own : an62.own = [(5, [[5]])] := rfl
theorem an63_own : an63.own = [] := rfl
theorem an64_own : an64.own = [] := rfl
theorem an65_own : an65.own = [] := rfl
theorem an66_own : an66.own = [] := rfl
theorem an67_own : an67.own = [(5, [[5]])] := rfl
theorem an68_own : an68.own = [] := rfl
theorem an69_own : an69.own = [] := rfl
theorem an70_own : an70.own = [] := rfl
theorem an71_own : an71.own = [] := rfl
theorem an72_own : an72.own = [] := rfl
theorem an73_own : an73.own = [] := rfl
theorem an74_own : an74.own = [] := rfl
theorem an75_own : an75.own = [] := rfl
theorem an76_own : an76.own = [] := rfl
theorem an77_own : an77.own = [] := rfl
theorem an78_own : an78.own = [] := rfl
theorem an79_own : an79.own = [] := rfl
theorem an80_own : an80.own = [] := rfl
theorem an81_own : an81.own = [] := rfl
theorem an82_own : an82.own = [] := rfl
theorem an83_own : an83.own = [] := rfl
theorem an84_own : an84.own = [] := rfl
theorem an85_own : an85.own = [] := rfl
theorem an86_own : an86.own = [] := rfl
theorem an87_own : an87.own = [] := rfl
theorem an88_own : an88.own = [] := rfl
theorem an89_own : an89.own = [] := rfl
theorem an90_own : an90.own = [] := rfl
theorem an91_own : an91.own = [] := rfl
theorem an92_own : an92.own = [] := rfl
theorem an93_own : an93.own = [] := rfl
theorem an94_own : an94.own = [] := rfl
theorem an95_own : an95.own = [] := rfl
theorem an96_own : an96.own = [] := rfl
theorem an97_own : an97.own = [] := rfl
theorem an98_own : an98.own = [] := rfl
theorem an99_own : an99.own = [] := rfl
theorem an100_own : an100.own = [] := rfl
theorem an101_own : an101.own = [] := rfl
theorem an102_own : an102.own = [] := rfl
theorem an103_own : an103.own = [] := rfl
theorem an104_own : an104.own = [] := rfl
theorem an105_own : an105.own = [] := rfl
theorem an106_own : an106.own = [] := rfl
theorem an107_own : an107.own = [] := rfl
theorem an108_own : an108.own = [] := rfl
theorem an109_own : an109.own = [] := rfl
theorem an110_own : an110.own = [] := rfl
theorem an111_own : an111.own = [] := rfl
theorem an112_own : an112.own = [] := rfl
theorem an113_own : an113.own = [] := rfl
theorem an114_own : an114.own = [] := rfl
theorem an115_own : an115.own = [] := rfl
theorem an116_own : an116.own = [] := rfl
theorem an117_own : an117.own = [] := rfl
theorem an118_own : an118.own = [] := rfl
theorem an119_own : an119.own = [] := rfl
theorem an120_own : an120.own = [] := rfl
theorem an121_own : an121.own = [] := rfl
theorem an122_own : an122.own = [] := rfl
theorem an123_own : an123.own = [] := rfl
theorem an124_own : an124.own = [] := rfl
theorem an125_own : an125.own = [] := rfl
attribute [go_sem] an2_own an3_own an4_own an5_own an6_own an7_own an8_own an9_own an10_own an11_own an12_own an13_own an14_own an15_own an16_own an17_own an18_own an19_own an20_own an21_own an22_own an23_own an24_own an25_own an26_own an27_own an28_own an29_own an30_own an31_own an32_own an33_own an34_own an35_own an36_own an37_own an38_own an39_own an40_own an41_own an42_own an43_own an44_own an45_own an46_own an47_own an48_own an49_own an50_own an51_own an52_own an53_own an54_own an55_own an56_own an57_own an58_own an59_own an60_own an61_own an62_own an63_own an64_own an65_own an66_own an67_own an68_own an69_own an70_own an71_own an72_own an73_own an74_own an75_own an76_own an77_own an78_own an79_own an80_own an81_own an82_own an83_own an84_own an85_own an86_own an87_own an88_own an89_own an90_own an91_own an92_own an93_own an94_own an95_own an96_own an97_own an98_own an99_own an100_own an101_own an102_own an103_own an104_own an105_own an106_own an107_own an108_own an109_own an110_own an111_own an112_own an113_own an114_own an115_own an116_own an117_own an118_own an119_own an120_own an121_own an122_own an123_own an124_own an125_own
theorem an2_hw : an2.hw = [] := rfl
theorem an3_hw : an3.hw = [] := rfl
theorem an4_hw : an4.hw = [] := rfl
theorem an5_hw : an5.hw = [] := rfl
theorem an6_hw : an6.hw = [] := rfl
theorem an7_hw : an7.hw = [] := rfl
theorem an8_hw : an8.hw = [] := rfl
theorem an9_hw : an9.hw = [((8, 0), [[54], [56]], []), ((8, 1), [[54], [56]], []), ((8, 2), [[54]], []), ((8, 5), [], [[54]]), ((8, 7), [], [[54], [56]]), ((8, 8), [], [[56], [57], [70], [71], [72], [73]]), ((8, 10), [], [[7]])] := rfl
theorem an10_hw : an10.hw = [] := rfl
theorem an11_hw : an11.hw = [] := rfl
theorem an12_hw : an12.hw = [] := rfl
theorem an13_hw : an13.hw = [] := rfl
theorem an14_hw : an14.hw = [((4, 0), [[7]], []), ((4, 1), [[7]], [[70], [71], [72], [73]]), ((4, 2), [[7], [70], [71], [72], [73]], []), ((4, 3), [[7], [70], [71], [72], [73]], []), ((4, 4), [[7]], []), ((4, 5), [[70], [71], [72], [73]], [[7]]), ((4, 6), [], [[7]])] := rfl
theorem an15_hw : an15.hw = [] := rfl
theorem an16_hw : an16.hw = [((4, 0), [[7]], []), ((4, 1), [[7]], [[70], [71], [72], [73]]), ((4, 2), [[7], [70], [71], [72], [73]], []), ((4, 3), [[7], [70], [71], [72], [73]], []), ((4, 4), [[7]], []), ((4, 5), [[70], [71], [72], [73]], [[7]]), ((4, 6), [], [[7]])] := rfl
theorem an17_hw : an17.hw = [] := rfl
theorem an18_hw : an18.hw = [] := rfl
theorem an19_hw : an19.hw = [] := rfl
theorem an20_hw : an20.hw = [((9, 0), [[32], [35], [37]], []), ((9, 1), [[32], [35], [37]], []), ((9, 2), [[32]], []), ((9, 4), [[32]], []), ((9, 5), [[32]], []), ((9, 6), [], [[32]]), ((9, 8), [], [[32], [35], [37]]), ((9, 9), [], [[38], [70], [71], [72], [73]]), ((9, 11), [], [[2]])] := rfl
theorem an21_hw : an21.hw = [] := rfl
theorem an22_hw : an22.hw = [] := rfl
theorem an23_hw : an23.hw = [] := rfl
theorem an24_hw : an24.hw = [] := rfl
theorem an25_hw : an25.hw = [] := rfl
theorem an26_hw : an26.hw = [((1, 0), [[3]], []), ((1, 1), [[3]], []), ((1, 2), [[3]], [[8]]), ((1, 3), [[3], [8]], []), ((1, 4), [[3], [8]], []), ((1, 5), [[3]], [[11]]), ((1, 6), [[3], [8], [11]], []), ((1, 7), [[3], [8], [11]], []), ((1, 8), [[3]], [[14]]), ((1, 9), [[3]], []), ((1, 10), [[8], [11], [14]], [[3]]), ((1, 11), [], [[3]]), ((5, 0), [[29], [31]], []), ((5, 1), [[29], [31]], []), ((5, 2), [[29]], []), ((5, 3), [[29]], []), ((5, 6), [], [[29]]), ((5, 8), [], [[29], [31]]), ((5, 9), [], [[8], [11], [14], [31], [32]]), ((5, 11), [], [[3]])] := rfl
theorem an27_hw : an27.hw = [] := rfl
theorem an28_hw : an28.hw = [] := rfl
theorem an29_hw : an29.hw = [] := rfl
theorem an30_hw : an30.hw = [] := rfl
theorem an31_hw : an31.hw = [] := rfl
theorem an32_hw : an32.hw = [] := rfl
theorem an33_hw : an33.hw = [] := rfl
theorem an34_hw : an34.hw = [] := rfl
theorem an35_hw : an35.hw = [] := rfl
theorem an36_hw : an36.hw = [] := rfl
theorem an37_hw : an37.hw = [((5, 7), [], [[38], [45], [70], [71], [72], [73]]), ((5, 8), [], [[2]]), ((9, 6), [], [[38], [45], [70], [71], [72], [73]]), ((9, 7), [], [[2]])] := rfl
theorem an38_hw : an38.hw = [((8, 10), [], [[38], [43], [49], [70], [71], [72], [73]]), ((8, 11), [], [[2]]), ((9, 1), [[38]], []), ((9, 2), [[38]], []), ((9, 3), [[38]], []), ((9, 4), [[38]], []), ((9, 5), [], [[38]]), ((9, 6), [[38]], []), ((9, 7), [[38]], []), ((9, 8), [[38]], []), ((9, 9), [[38]], []), ((9, 10), [[38]], []), ((9, 11), [], [[38], [43]]), ((9, 13), [], [[2]])] := rfl
theorem an39_hw : an39.hw = [((5, 6), [], [[0], [26]])] := rfl
theorem an40_hw : an40.hw = [] := rfl
theorem an41_hw : an41.hw = [] := rfl
theorem an42_hw : an42.hw = [((1, 0), [[3], [9], [13], [14]], [[5]]), ((1, 1), [[3], [5], [9], [13], [14]], []), ((1, 2), [[3], [5], [9], [13], [14]], []), ((1, 3), [[3], [9], [13], [14]], [[5]]), ((1, 4), [[3], [5], [13], [14]], [[9]]), ((1, 5), [[3], [5], [9], [13], [14]], []), ((1, 6), [[3], [5], [9], [13], [14]], []), ((1, 7), [[3], [13], [14]], [[9]]), ((1, 8), [[3], [5], [9], [14]], [[13]]), ((1, 9), [[3], [5], [9], [13]], [[14]]), ((1, 10), [[3], [5], [9], [13], [14]], []), ((1, 11), [[3], [5], [9], [13], [14]], []), ((1, 12), [[3], [13]], [[14]]), ((1, 13), [[3]], []), ((1, 14), [[5], [9], [13], [14]], [[3]]), ((1, 15), [], [[3]]), ((5, 0), [[34], [41], [43]], []), ((5, 1), [[34], [41], [43]], []), ((5, 2), [[34]], []), ((5, 3), [[34]], []), ((5, 4), [[34]], []), ((5, 5), [[34]], []), ((5, 6), [[34]], []), ((5, 7), [[34]], []), ((5, 9), [[34]], []), ((5, 10), [[34]], []), ((5, 11), [[34]], []), ((5, 12), [[34]], []), ((5, 13), [[34]], []), ((5, 14), [[34]], []), ((5, 15), [], [[34]]), ((5, 17), [], [[34], [41], [43]]), ((5, 18), [], [[5], [8], [9], [12], [13], [14], [17], [44]]), ((5, 20), [], [[3]])] := rfl
theorem an43_hw : an43.hw = [] := rfl
theorem an44_hw : an44.hw = [] := rfl
theorem an45_hw : an45.hw = [((5, 10), [], [[0, 0], [0, 1], [0, 2], [0, 3]])] := rfl
theorem an46_hw : an46.hw = [] := rfl
theorem an47_hw : an47.hw = [] := rfl
theorem an48_hw : an48.hw = [] := rfl
theorem an49_hw : an49.hw = [] := rfl
theorem an50_hw : an50.hw = [] := rfl
theorem an51_hw : an51.hw = [] := rfl
theorem an52_hw : an52.hw = [] := rfl
theorem an53_hw : an53.hw = [] := rfl
theorem an54_hw : an54.hw = [] := rfl
theorem an55_hw : an55.hw = [] := rfl
theorem an56_hw : an56.hw = [] := rfl
theorem an57_hw : an57.hw = [] := rfl
theorem an58_hw : an58.hw = [] := rfl
theorem an59_hw : an59.hw = [] := rfl
theorem an60_hw : an60.hw = [] := rfl
theorem an61_hw : an61.hw = [] := rfl
theorem an62_hw : an62.hw = [] := rfl
theorem an63_hw : an63.hw = [] := rfl
theorem an64_hw : an64.hw = [] := rfl
theorem an65_hw : an65.hw = [] := rfl
theorem an66_hw : an66.hw = [] := rfl
theorem an67_hw : an67.hw = [] := rfl
theorem an68_hw : an68.hw = [] := rfl
theorem an69_hw : an69.hw = [] := rfl
theorem an70_hw : an70.hw = [] := rfl
theorem an71_hw : an71.hw = [] := rfl
theorem an72_hw : an72.hw = [] := rfl
theorem an73_hw : an73.hw = [] := rfl
theorem an74_hw : an74.hw = [] := rfl
theorem an75_hw : an75.hw = [] := rfl
theorem an76_hw : an76.hw = [] := rfl
theorem an77_hw : an77.hw = [] := rfl
theorem an78_hw : an78.hw = [] := rfl
theorem an79_hw : an79.hw = [] := rfl
theorem an80_hw : an80.hw = [] := rfl
theorem an81_hw : an81.hw = [] := rfl
theorem an82_hw : an82.hw = [] := rfl
theorem an83_hw : an83.hw = [] := rfl
theorem an84_hw : an84.hw = [] := rfl
theorem an85_hw : an85.hw = [] := rfl
theorem an86_hw : an86.hw = [] := rfl
theorem an87_hw : an87.hw = [] := rfl
theorem an88_hw : an88.hw = [] := rfl
theorem an89_hw : an89.hw = [] := rfl
theorem an90_hw : an90.hw = [] := rfl
theorem an91_hw : an91.hw = [] := rfl
theorem an92_hw : an92.hw = [] := rfl
theorem an93_hw : an93.hw = [((6, 2), [[0]], []), ((6, 3), [[0]], []), ((6, 4), [[0]], []), ((6, 15), [], [[0]]), ((6, 17), [], [[0]])] := rfl
theorem an94_hw : an94.hw = [] := rfl
theorem an95_hw : an95.hw = [] := rfl
theorem an96_hw : an96.hw = [] := rfl
theorem an97_hw : an97.hw = [] := rfl
theorem an98_hw : an98.hw = [] := rfl
theorem an99_hw : an99.hw = [] := rfl
theorem an100_hw : an100.hw = [] := rfl
theorem an101_hw : an101.hw = [] := rfl
theorem an102_hw : an102.hw = [] := rfl
theorem an103_hw : an103.hw = [] := rfl
theorem an104_hw : an104.hw = [] := rfl
theorem an105_hw : an105.hw = [((6, 2), [[0]], []), ((6, 3), [[0]], []), ((6, 4), [[0]], []), ((6, 15), [], [[0]]), ((6, 17), [], [[0]])] := rfl
theorem an106_hw : an106.hw = [] := rfl
theorem an107_hw : an107.hw = [] := rfl
theorem an108_hw : an108.hw = [] := rfl
theorem an109_hw : an109.hw = [] := rfl
theorem an110_hw : an110.hw = [] := rfl
theorem an111_hw : an111.hw = [] := rfl
theorem an112_hw : an112.hw = [] := rfl
theorem an113_hw : an113.hw = [] := rfl
theorem an114_hw : an114.hw = [] := rfl
theorem an115_hw : an115.hw = [] := rfl
theorem an116_hw : an116.hw = [] := rfl
theorem an117_hw : an117.hw = [] := rfl
theorem an118_hw : an118.hw = [] := rfl
theorem an119_hw : an119.hw = [] := rfl
theorem an120_hw : an120.hw = [] := rfl
theorem an121_hw : an121.hw = [] := rfl
theorem an122_hw : an122.hw = [] := rfl
theorem an123_hw : an123.hw = [] := rfl
theorem an124_hw : an124.hw = [] := rfl
theorem an125_hw : an125.hw = [] := rfl
attribute [go_sem] an2_hw an3_hw an4_hw an5_hw an6_hw an7_hw an8_hw an9_hw an10_hw an11_hw an12_hw an13_hw an14_hw an15_hw an16_hw an17_hw an18_hw an19_hw an20_hw an21_hw an22_hw an23_hw an24_hw an25_hw an26_hw an27_hw an28_hw an29_hw an30_hw an31_hw an32_hw an33_hw an34_hw an35_hw an36_hw an37_hw an38_hw an39_hw an40_hw an41_hw an42_hw an43_hw an44_hw an45_hw an46_hw an47_hw an48_hw an49_hw an50_hw an51_hw an52_hw an53_hw an54_hw an55_hw an56_hw an57_hw an58_hw an59_hw an60_hw an61_hw an62_hw an63_hw an64_hw an65_hw an66_hw an67_hw an68_hw an69_hw an70_hw an71_hw an72_hw an73_hw an74_hw an75_hw an76_hw an77_hw an78_hw an79_hw an80_hw an81_hw an82_hw an83_hw an84_hw an85_hw an86_hw an87_hw an88_hw an89_hw an90_hw an91_hw an92_hw an93_hw an94_hw an95_hw an96_hw an97_hw an98_hw an99_hw an100_hw an101_hw an102_hw an103_hw an104_hw an105_hw an106_hw an107_hw an108_hw an109_hw an110_hw an111_hw an112_hw an113_hw an114_hw an115_hw an116_hw an117_hw an118_hw an119_hw an120_hw an121_hw an122_hw an123_hw an124_hw an125_hw
theorem an2_vk : an2.vk = [] := rfl
theorem an3_vk : an3.vk = [] := rfl
theorem an4_vk : an4.vk = [] := rfl
theorem an5_vk : an5.vk = [] := rfl
theorem an6_vk : an6.vk = [] := rfl
theorem an7_vk : an7.vk = [] := rfl
theorem an8_vk : an8.vk = [] := rfl
theorem an9_vk : an9.vk = [] := rfl
theorem an10_vk : an10.vk = [] := rfl
theorem an11_vk : an11.vk = [] := rfl
theorem an12_vk : an12.vk = [] := rfl
theorem an13_vk : an13.vk = [] := rfl
theorem an14_vk : an14.vk = [] := rfl
theorem an15_vk : an15.vk = [] := rfl
theorem an16_vk : an16.vk = [] := rfl
theorem an17_vk : an17.vk = [] := rfl
theorem an18_vk : an18.vk = [] := rfl
theorem an19_vk : an19.vk = [] := rfl
theorem an20_vk : an20.vk = [] := rfl
theorem an21_vk : an21.vk = [] := rfl
theorem an22_vk : an22.vk = [] := rfl
theorem an23_vk : an23.vk = [] := rfl
theorem an24_vk : an24.vk = [] := rfl
theorem an25_vk : an25.vk = [] := rfl
theorem an26_vk : an26.vk = [] := rfl
theorem an27_vk : an27.vk = [] := rfl
theorem an28_vk : an28.vk = [] := rfl
theorem an29_vk : an29.vk = [] := rfl
theorem an30_vk : an30.vk = [] := rfl
theorem an31_vk : an31.vk = [] := rfl
theorem an32_vk : an32.vk = [] := rfl
theorem an33_vk : an33.vk = [] := rfl
theorem an34_vk : an34.vk = [] := rfl
theorem an35_vk : an35.vk = [] := rfl
theorem an36_vk : an36.vk = [] := rfl
theorem an37_vk : an37.vk = [((5, 7), [], []), ((9, 6), [], [])] := rfl
theorem an38_vk : an38.vk = [((8, 10), [], [])] := rfl
theorem an39_vk : an39.vk = [] := rfl
theorem an40_vk : an40.vk = [] := rfl
theorem an41_vk : an41.vk = [] := rfl
theorem an42_vk : an42.vk = [] := rfl
theorem an43_vk : an43.vk = [] := rfl
theorem an44_vk : an44.vk = [] := rfl
theorem an45_vk : an45.vk = [((5, 10), [], [])] := rfl
theorem an46_vk : an46.vk = [] := rfl
theorem an47_vk : an47.vk = [] := rfl
theorem an48_vk : an48.vk = [] := rfl
theorem an49_vk : an49.vk = [] := rfl
theorem an50_vk : an50.vk = [] := rfl
theorem an51_vk : an51.vk = [] := rfl
theorem an52_vk : an52.vk = [] := rfl
theorem an53_vk : an53.vk = [] := rfl
theorem an54_vk : an54.vk = [] := rfl
theorem an55_vk : an55.vk = [] := rfl
theorem an56_vk : an56.vk = [] := rfl
theorem an57_vk : an57.vk = [] := rfl
theorem an58_vk : an58.vk = [] := rfl
theorem an59_vk : an59.vk = [] := rfl
theorem an60_vk : an60.vk = [] := rfl
theorem an61_vk : an61.vk = [] := rfl
theorem an62_vk : an62.vk = [] := rfl
theorem an63_vk : an63.vk = [] := rfl
theorem an64_vk : an64.vk = [] := rfl
theorem an65_vk : an65.vk = [] := rfl
theorem an66_vk : an66.vk = [] := rfl
theorem an67_vk : an67.vk = [] := rfl
theorem an68_vk : an68.vk = [] := rfl
theorem an69_vk : an69.vk = [] := rfl
theorem an70_vk : an70.vk = [] := rfl
theorem an71_vk : an71.vk = [] := rfl
theorem an72_vk : an72.vk = [] := rfl
theorem an73_vk : an73.vk = [] := rfl
theorem an74_vk : an74.vk = [] := rfl
theorem an75_vk : an75.vk = [] := rfl
theorem an76_vk : an76.vk = [] := rfl
theorem an77_vk : an77.vk = [] := rfl
theorem an78_vk : an78.vk = [] := rfl
theorem an79_vk : an79.vk = [] := rfl
theorem an80_vk : an80.vk = [] := rfl
theorem an81_vk : an81.vk = [] := rfl
theorem an82_vk : an82.vk = [] := rfl
theorem an83_vk : an83.vk = [] := rfl
theorem an84_vk : an84.vk = [] := rfl
theorem an85_vk : an85.vk = [] := rfl
theorem an86_vk : an86.vk = [] := rfl
theorem an87_vk : an87.vk = [] := rfl
theorem an88_vk : an88.vk = [] := rfl
theorem an89_vk : an89.vk = [] := rfl
theorem an90_vk : an90.vk = [] := rfl
theorem an91_vk : an91.vk = [] := rfl
theorem an92_vk : an92.vk = [] := rfl
theorem an93_vk : an93.vk = [((6, 2), [], []), ((6, 3), [], []), ((6, 4), [], []), ((6, 15), [], []), ((6, 17), [], [])] := rfl
theorem an94_vk : an94.vk = [] := rfl
theorem an95_vk : an95.vk = [] := rfl
theorem an96_vk : an96.vk = [] := rfl
theorem an97_vk : an97.vk = [] := rfl
theorem an98_vk : an98.vk = [] := rfl
theorem an99_vk : an99.vk = [] := rfl
theorem an100_vk : an100.vk = [] := rfl
theorem an101_vk : an101.vk = [] := rfl
theorem an102_vk : an102.vk = [] := rfl
theorem an103_vk : an103.vk = [] := rfl
theorem an104_vk : an104.vk = [] := rfl
theorem an105_vk : an105.vk = [((6, 2), [], []), ((6, 3), [], []), ((6, 4), [], []), ((6, 15), [], []), ((6, 17), [], [])] := rfl
theorem an106_vk : an106.vk = [] := rfl
theorem an107_vk : an107.vk = [] := rfl
theorem an108_vk : an108.vk = [] := rfl
theorem an109_vk : an109.vk = [] := rfl
theorem an110_vk : an110.vk = [] := rfl
theorem an111_vk : an111.vk = [] := rfl
theorem an112_vk : an112.vk = [] := rfl
theorem an113_vk : an113.vk = [] := rfl
theorem an114_vk : an114.vk = [] := rfl
theorem an115_vk : an115.vk = [] := rfl
theorem an116_vk : an116.vk = [] := rfl
theorem an117_vk : an117.vk = [] := rfl
theorem an118_vk : an118.vk = [] := rfl
theorem an119_vk : an119.vk = [] := rfl
theorem an120_vk : an120.vk = [] := rfl
theorem an121_vk : an121.vk = [] := rfl
theorem an122_vk : an122.vk = [] := rfl
theorem an123_vk : an123.vk = [] := rfl
theorem an124_vk : an124.vk = [] := rfl
theorem an125_vk : an125.vk = [] := rfl
attribute [go_sem] an2_vk an3_vk an4_vk an5_vk an6_vk an7_vk an8_vk an9_vk an10_vk an11_vk an12_vk an13_vk an14_vk an15_vk an16_vk an17_vk an18_vk an19_vk an20_vk an21_vk an22_vk an23_vk an24_vk an25_vk an26_vk an27_vk an28_vk an29_vk an30_vk an31_vk an32_vk an33_vk an34_vk an35_vk an36_vk an37_vk an38_vk an39_vk an40_vk an41_vk an42_vk an43_vk an44_vk an45_vk an46_vk an47_vk an48_vk an49_vk an50_vk an51_vk an52_vk an53_vk an54_vk an55_vk an56_vk an57_vk an58_vk an59_vk an60_vk an61_vk an62_vk an63_vk an64_vk an65_vk an66_vk an67_vk an68_vk an69_vk an70_vk an71_vk an72_vk an73_vk an74_vk an75_vk an76_vk an77_vk an78_vk an79_vk an80_vk an81_vk an82_vk an83_vk an84_vk an85_vk an86_vk an87_vk an88_vk an89_vk an90_vk an91_vk an92_vk an93_vk an94_vk an95_vk an96_vk an97_vk an98_vk an99_vk an100_vk an101_vk an102_vk an103_vk an104_vk an105_vk an106_vk an107_vk an108_vk an109_vk an110_vk an111_vk an112_vk an113_vk an114_vk an115_vk an116_vk an117_vk an118_vk an119_vk an120_vk an121_vk an122_vk an123_vk an124_vk an125_vk
theorem an2_dp : an2.dp = false := rfl
theorem an3_dp : an3.dp = false := rfl
theorem an4_dp : an4.dp = false := rfl
theorem an5_dp : an5.dp = false := rfl
theorem an6_dp : an6.dp = false := rfl
theorem an7_dp : an7.dp = false := rfl
theorem an8_dp : an8.dp = false := rfl
theorem an9_dp : an9.dp = true := rfl
theorem an10_dp : an10.dp = false := rfl
theorem an11_dp : an11.dp = false := rfl
theorem an12_dp : an12.dp = false := rfl
theorem an13_dp : an13.dp = false := rfl
theorem an14_dp : an14.dp = false := rfl
theorem an15_dp : an15.dp = false := rfl
theorem an16_dp : an16.dp = false := rfl
theorem an17_dp : an17.dp = false := rfl
theorem an18_dp : an18.dp = false := rfl
theorem an19_dp : an19.dp = false := rfl
theorem an20_dp : an20.dp = false := rfl
theorem an21_dp : an21.dp = false := rfl
theorem an22_dp : an22.dp = true := rfl
theorem an23_dp : an23.dp = false := rfl
theorem an24_dp : an24.dp = false := rfl
theorem an25_dp : an25.dp = false := rfl
theorem an26_dp : an26.dp = true := rfl
theorem an27_dp : an27.dp = false := rfl
theorem an28_dp : an28.dp = false := rfl
theorem an29_dp : an29.dp = false := rfl
theorem an30_dp : an30.dp = false := rfl
theorem an31_dp : an31.dp = false := rfl
theorem an32_dp : an32.dp = false := rfl
theorem an33_dp : an33.dp = false := rfl
theorem an34_dp : an34.dp = false := rfl
theorem an35_dp : an35.dp = false := rfl
theorem an36_dp : an36.dp = false := rfl
theorem an37_dp : an37.dp = false := rfl
theorem an38_dp : an38.dp = false := rfl
theorem an39_dp : an39.dp = false := rfl
theorem an40_dp : an40.dp = false := rfl
theorem an41_dp : an41.dp = false := rfl
theorem an42_dp : an42.dp = false := rfl
theorem an43_dp : an43.dp = false := rfl
theorem an44_dp : an44.dp = false := rfl
theorem an45_dp : an45.dp = false := rfl
theorem an46_dp : an46.dp = false := rfl
theorem an47_dp : an47.dp = false := rfl
theorem an48_dp : an48.dp = false := rfl
theorem an49_dp : an49.dp = false := rfl
theorem an50_dp : an50.dp = false := rfl
theorem an51_dp : an51.dp = false := rfl
theorem an52_dp : an52.dp = false := rfl
theorem an53_dp : an53.dp = false := rfl
theorem an54_dp : an54.dp = false := rfl
theorem an55_dp : an55.dp = false := rfl
theorem an56_dp : an56.dp = false := rfl
theorem an57_dp : an57.dp = false := rfl
theorem an58_dp : an58.dp = false := rfl
theorem an59_dp : an59.dp = false := rfl
theorem an60_dp : an60.dp = false := rfl
theorem an61_dp : an61.dp = false := rfl
theorem an62_dp : an62.dp = false := rfl
theorem an63_dp : an63.dp = false := rfl
theorem an64_dp : an64.dp = false := rfl
theorem an65_dp : an65.dp = false := rfl
theorem an66_dp : an66.dp = false := rfl
theorem an67_dp : an67.dp = false := rfl
theorem an68_dp : an68.dp = false := rfl
theorem an69_dp : an69.dp = false := rfl
theorem an70_dp : an70.dp = false := rfl
theorem an71_dp : an71.dp = false := rfl
theorem an72_dp : an72.dp = false := rfl
theorem an73_dp : an73.dp = false := rfl
theorem an74_dp : an74.dp = false := rfl
theorem an75_dp : an75.dp = false := rfl
theorem an76_dp : an76.dp = false := rfl
theorem an77_dp : an77.dp = false := rfl
theorem an78_dp : an78.dp = false := rfl
theorem an79_dp : an79.dp = false := rfl
theorem an80_dp : an80.dp = false := rfl
theorem an81_dp : an81.dp = false := rfl
theorem an82_dp : an82.dp = false := rfl
theorem an83_dp : an83.dp = false := rfl
theorem an84_dp : an84.dp = false := rfl
theorem an85_dp : an85.dp = false := rfl
theorem an86_dp : an86.dp = false := rfl
theorem an87_dp : an87.dp = false := rfl
theorem an88_dp : an88.dp = false := rfl
theorem an89_dp : an89.dp = false := rfl
theorem an90_dp : an90.dp = false := rfl
theorem an91_dp : an91.dp = false := rfl
theorem an92_dp : an92.dp = false := rfl
theorem an93_dp : an93.dp = false := rfl
theorem an94_dp : an94.dp = false := rfl
theorem an95_dp : an95.dp = false := rfl
theorem an96_dp : an96.dp = false := rfl
theorem an97_dp : an97.dp = false := rfl
theorem an98_dp : an98.dp = false := rfl
theorem an99_dp : an99.dp = false := rfl
theorem an100_dp : an100.dp = false := rfl
theorem an101_dp : an101.dp = false := rfl
theorem an102_dp : an102.dp = false := rfl
theorem an103_dp : an103.dp = false := rfl
theorem an104_dp : an104.dp = false := rfl
theorem an105_dp : an105.dp = false := rfl
theorem an106_dp : an106.dp = false := rfl
theorem an107_dp : an107.dp = false := rfl
theorem an108_dp : an108.dp = false := rfl
theorem an109_dp : an109.dp = false := rfl
theorem an110_dp : an110.dp = false := rfl
theorem an111_dp : an111.dp = false := rfl
theorem an112_dp : an112.dp = false := rfl
theorem an113_dp : an113.dp = false := rfl
theorem an114_dp : an114.dp = false := rfl
theorem an115_dp : an115.dp = false := rfl
theorem an116_dp : an116.dp = false := rfl
theorem an117_dp : an117.dp = false := rfl
theorem an118_dp : an118.dp = false := rfl
theorem an119_dp : an119.dp = false := rfl
theorem an120_dp : an120.dp = false := rfl
theorem an121_dp : an121.dp = false := rfl
theorem an122_dp : an122.dp = false := rfl
theorem an123_dp : an123.dp = false := rfl
theorem an124_dp : an124.dp = false := rfl
theorem an125_dp : an125.dp = false := rfl
attribute [go_sem] an2_dp an3_dp an4_dp an5_dp an6_dp an7_dp an8_dp an9_dp an10_dp an11_dp an12_dp an13_dp an14_dp an15_dp an16_dp an17_dp an18_dp an19_dp an20_dp an21_dp an22_dp an23_dp an24_dp an25_dp an26_dp an27_dp an28_dp an29_dp an30_dp an31_dp an32_dp an33_dp an34_dp an35_dp an36_dp an37_dp an38_dp an39_dp an40_dp an41_dp an42_dp an43_dp an44_dp an45_dp an46_dp an47_dp an48_dp an49_dp an50_dp an51_dp an52_dp an53_dp an54_dp an55_dp an56_dp an57_dp an58_dp an59_dp an60_dp an61_dp an62_dp an63_dp an64_dp an65_dp an66_dp an67_dp an68_dp an69_dp an70_dp an71_dp an72_dp an73_dp an74_dp an75_dp an76_dp an77_dp an78_dp an79_dp an80_dp an81_dp an82_dp an83_dp an84_dp an85_dp an86_dp an87_dp an88_dp an89_dp an90_dp an91_dp an92_dp an93_dp an94_dp an95_dp an96_dp an97_dp an98_dp an99_dp an100_dp an101_dp an102_dp an103_dp an104_dp an105_dp an106_dp an107_dp an108_dp an109_dp an110_dp an111_dp an112_dp an113_dp an114_dp an115_dp an116_dp an117_dp an118_dp an119_dp an120_dp an121_dp an122_dp an123_dp an124_dp an125_dp
theorem an2_fl : an2.fl = [] := rfl
theorem an3_fl : an3.fl = [] := rfl
theorem an4_fl : an4.fl = [] := rfl
theorem an5_fl : an5.fl = [] := rfl
theorem an6_fl : an6.fl = [] := rfl
theorem an7_fl : an7.fl = [] := rfl
theorem an8_fl : an8.fl = [] := rfl
theorem an9_fl : an9.fl = [] := rfl
theorem an10_fl : an10.fl = [] := rfl
theorem an11_fl : an11.fl = [] := rfl
theorem an12_fl : an12.fl = [] := rfl
theorem an13_fl : an13.fl = [] := rfl
theorem an14_fl : an14.fl = [37] := rfl
theorem an15_fl : an15.fl = [] := rfl
theorem an16_fl : an16.fl = [] := rfl
theorem an17_fl : an17.fl = [] := rfl
theorem an18_fl : an18.fl = [] := rfl
theorem an19_fl : an19.fl = [] := rfl
theorem an20_fl : an20.fl = [] := rfl
theorem an21_fl : an21.fl = [] := rfl
theorem an22_fl : an22.fl = [] := rfl
theorem an23_fl : an23.fl = [] := rfl
theorem an24_fl : an24.fl = [] := rfl
theorem an25_fl : an25.fl = [] := rfl
theorem an26_fl : an26.fl = [] := rfl
theorem an27_fl : an27.fl = [] := rfl
theorem an28_fl : an28.fl = [] := rfl
theorem an29_fl : an29.fl = [] := rfl
theorem an30_fl : an30.fl = [] := rfl
theorem an31_fl : an31.fl = [] := rfl
theorem an32_fl : an32.fl = [] := rfl
theorem an33_fl : an33.fl = [] := rfl
theorem an34_fl : an34.fl = [] := rfl
theorem an35_fl : an35.fl = [] := rfl
theorem an36_fl : an36.fl = [] := rfl
theorem an37_fl : an37.fl = [] := rfl
theorem an38_fl : an38.fl = [] := rfl
theorem an39_fl : an39.fl = [] := rfl
theorem an40_fl : an40.fl = [] := rfl
theorem an41_fl : an41.fl = [] := rfl
theorem an42_fl : an42.fl = [] := rfl
theorem an43_fl : an43.fl = [] := rfl
theorem an44_fl : an44.fl = [] := rfl
theorem an45_fl : an45.fl = [] := rfl
theorem an46_fl : an46.fl = [] := rfl
theorem an47_fl : an47.fl = [] := rfl
theorem an48_fl : an48.fl = [] := rfl
theorem an49_fl : an49.fl = [] := rfl
theorem an50_fl : an50.fl = [] := rfl
theorem an51_fl : an51.fl = [] := rfl
theorem an52_fl : an52.fl = [] := rfl
theorem an53_fl : an53.fl = [] := rfl
theorem an54_fl : an54.fl = [] := rfl
theorem an55_fl : an55.fl = [] := rfl
theorem an56_fl : an56.fl = [] := rfl
theorem an57_fl : an57.fl = [] := rfl
theorem an58_fl : an58.fl = [] := rfl
theorem an59_fl : an59.fl = [] := rfl
theorem an60_fl : an60.fl = [] := rfl
theorem an61_fl : an61.fl = [] := rfl
theorem an62_fl : an62.fl = [] := rfl
theorem an63_fl : an63.fl = [] := rfl
theorem an64_fl : an64.fl = [] := rfl
theorem an65_fl : an65.fl = [] := rfl
theorem an66_fl : an66.fl = [] := rfl
theorem an67_fl : an67.fl = [] := rfl
theorem an68_fl : an68.fl = [] := rfl
theorem an69_fl : an69.fl = [] := rfl
theorem an70_fl : an70.fl = [] := rfl
theorem an71_fl : an71.fl = [] := rfl
theorem an72_fl : an72.fl = [] := rfl
theorem an73_fl : an73.fl = [] := rfl
theorem an74_fl : an74.fl = [] := rfl
theorem an75_fl : an75.fl = [] := rfl
theorem an76_fl : an76.fl = [] := rfl
theorem an77_fl : an77.fl = [] := rfl
theorem an78_fl : an78.fl = [] := rfl
theorem an79_fl : an79.fl = [] := rfl
theorem an80_fl : an80.fl = [] := rfl
theorem an81_fl : an81.fl = [] := rfl
theorem an82_fl : an82.fl = [] := rfl
theorem an83_fl : an83.fl = [] := rfl
theorem an84_fl : an84.fl = [] := rfl
theorem an85_fl : an85.fl = [] := rfl
theorem an86_fl : an86.fl = [] := rfl
theorem an87_fl : an87.fl = [] := rfl
theorem an88_fl : an88.fl = [] := rfl
theorem an89_fl : an89.fl = [] := rfl
theorem an90_fl : an90.fl = [] := rfl
theorem an91_fl : an91.fl = [] := rfl
theorem an92_fl : an92.fl = [] := rfl
theorem an93_fl : an93.fl = [] := rfl
theorem an94_fl : an94.fl = [] := rfl
theorem an95_fl : an95.fl = [] := rfl
theorem an96_fl : an96.fl = [] := rfl
theorem an97_fl : an97.fl = [] := rfl
theorem an98_fl : an98.fl = [] := rfl
theorem an99_fl : an99.fl = [] := rfl
theorem an100_fl : an100.fl = [] := rfl
theorem an101_fl : an101.fl = [] := rfl
theorem an102_fl : an102.fl = [] := rfl
theorem an103_fl : an103.fl = [] := rfl
theorem an104_fl : an104.fl = [] := rfl
theorem an105_fl : an105.fl = [] := rfl
theorem an106_fl : an106.fl = [] := rfl
theorem an107_fl : an107.fl = [] := rfl
theorem an108_fl : an108.fl = [] := rfl
theorem an109_fl : an109.fl = [] := rfl
theorem an110_fl : an110.fl = [] := rfl
theorem an111_fl : an111.fl = [] := rfl
theorem an112_fl : an112.fl = [] := rfl
theorem an113_fl : an113.fl = [] := rfl
theorem an114_fl : an114.fl = [] := rfl
theorem an115_fl : an115.fl = [] := rfl
theorem an116_fl : an116.fl = [] := rfl
theorem an117_fl : an117.fl = [] := rfl
theorem an118_fl : an118.fl = [] := rfl
theorem an119_fl : an119.fl = [] := rfl
theorem an120_fl : an120.fl = [] := rfl
theorem an121_fl : an121.fl = [] := rfl
theorem an122_fl : an122.fl = [] := rfl
theorem an123_fl : an123.fl = [] := rfl
theorem an124_fl : an124.fl = [] := rfl
theorem an125_fl : an125.fl = [] := rfl
attribute [go_sem] an2_fl an3_fl an4_fl an5_fl an6_fl an7_fl an8_fl an9_fl an10_fl an11_fl an12_fl an13_fl an14_fl an15_fl an16_fl an17_fl an18_fl an19_fl an20_fl an21_fl an22_fl an23_fl an24_fl an25_fl an26_fl an27_fl an28_fl an29_fl an30_fl an31_fl an32_fl an33_fl an34_fl an35_fl an36_fl an37_fl an38_fl an39_fl an40_fl an41_fl an42_fl an43_fl an44_fl an45_fl an46_fl an47_fl an48_fl an49_fl an50_fl an51_fl an52_fl an53_fl an54_fl an55_fl an56_fl an57_fl an58_fl an59_fl an60_fl an61_fl an62_fl an63_fl an64_fl an65_fl an66_fl an67_fl an68_fl an69_fl an70_fl an71_fl an72_fl an73_fl an74_fl an75_fl an76_fl an77_fl an78_fl an79_fl an80_fl an81_fl an82_fl an83_fl an84_fl an85_fl an86_fl an87_fl an88_fl an89_fl an90_fl an91_fl an92_fl an93_fl an94_fl an95_fl an96_fl an97_fl an98_fl an99_fl an100_fl an101_fl an102_fl an103_fl an104_fl an105_fl an106_fl an107_fl an108_fl an109_fl an110_fl an111_fl an112_fl an113_fl an114_fl an115_fl an116_fl an117_fl an118_fl an119_fl an120_fl an121_fl an122_fl an123_fl an124_fl an125_fl
attribute [go_sem] annA_2 annA_3 annA_4 annA_5 annA_6 annA_7 annA_8 annA_9 annA_10 annA_11 annA_12 annA_13 annA_14 annA_15 annA_16 annA_17 annA_18 annA_19 annA_20 annA_21 annA_22 annA_23 annA_24 annA_25 annA_26 annA_27 annA_28 annA_29 annA_30 annA_31 annA_32 annA_33 annA_34 annA_35 annA_36 annA_37 annA_38 annA_39 annA_40 annA_41 annA_42 annA_43 annA_44 annA_45 annA_46 annA_47 annA_48 annA_49 annA_50 annA_51 annA_52 annA_53 annA_54 annA_55 annA_56 annA_57 annA_58 annA_59 annA_60 annA_61 annA_62 annA_63 annA_64 annA_65 annA_66 annA_67 annA_68 annA_69 annA_70 annA_71 annA_72 annA_73 annA_74 annA_75 annA_76 annA_77 annA_78 annA_79 annA_80 annA_81 annA_82 annA_83 annA_84 annA_85 annA_86 annA_87 annA_88 annA_89 annA_90 annA_91 annA_92 annA_93 annA_94 annA_95 annA_96 annA_97 annA_98 annA_99 annA_100 annA_101 annA_102 annA_103 annA_104 annA_105 annA_106 annA_107 annA_108 annA_109 annA_110 annA_111 annA_112 annA_113 annA_114 annA_115 annA_116 annA_117 annA_118 annA_119 annA_120 annA_121 annA_122 annA_123 annA_124 annA_125
end Go.Proofs.YtenmfblmekilaaaGreat

namespace Go.Proofs.YtenmfblmekilaaaGreat
open Go
structure Io where
  host : Int
  at_ : Int
  data : List UInt8
  deriving Inhabited, DecidableEq
def eIo (x : Io) : AV := .agg [.int .i64 x.host, .int .i64 x.at_, .str x.data]
/-- The newest write of a host to a sector, among the first n. -/
def rdN (h a : Int) (ps : List Io) : Nat → Option (List UInt8)
  | 0 => none
  | n + 1 => match ps[n]? with
    | some x => if x.host = h ∧ x.at_ = a then some x.data else rdN h a ps n
    | none => rdN h a ps n
def rdL (ss : List (List UInt8)) (ps : List Io) (h a : Int) : List UInt8 := match rdN h a ps ps.length with
  | some t => t
  | none => ss.getD a.toNat []
/-- What is asked of a disk that is read. -/
def ReadsAs (ss : List (List UInt8)) (ps : List Io) (h a : Int) (args : List AV) : Prop :=
  args = [.agg [.sl 1 (ss.map .str), .sl 3 (ps.map eIo)], .int .i64 h, .int .i64 a] ∧ 0 ≤ a ∧ a.toNat < ss.length ∧ ps.length ≤ 1073741824
open Classical in
noncomputable def readX (args : List AV) : Option Res :=
  if h : ∃ x : List (List UInt8) × List Io × Int × Int, ReadsAs x.1 x.2.1 x.2.2.1 x.2.2.2 args then
    some { val := .str (rdL (Classical.choose h).1 (Classical.choose h).2.1 (Classical.choose h).2.2.1 (Classical.choose h).2.2.2) } else none
theorem eIo_inj {a b : Io} (h : eIo a = eIo b) : a = b := by
  cases a; cases b; simp [eIo] at h; simp [h]
theorem map_inj {α β : Type} {f : α → β} (hf : ∀ a b, f a = f b → a = b) : ∀ {l m : List α}, l.map f = m.map f → l = m := by
  intro l
  induction l with
  | nil => intro m h; cases m <;> simp at h; rfl
  | cons a l ih =>
    intro m h
    cases m with
    | nil => simp at h
    | cons b m =>
      simp only [List.map_cons, List.cons.injEq] at h
      rw [hf _ _ h.1, ih h.2]
theorem readX_of {ss : List (List UInt8)} {ps : List Io} {h a : Int} {args : List AV} (hr : ReadsAs ss ps h a args) : readX args = some { val := .str (rdL ss ps h a) } := by
  have hx : ∃ x : List (List UInt8) × List Io × Int × Int, ReadsAs x.1 x.2.1 x.2.2.1 x.2.2.2 args := ⟨(ss, ps, h, a), hr⟩
  unfold readX
  rw [dif_pos hx]
  have hc := Classical.choose_spec hx
  generalize Classical.choose hx = y at hc ⊢
  obtain ⟨ss', ps', h', a'⟩ := y
  obtain ⟨e, _⟩ := hc
  obtain ⟨e', _⟩ := hr
  rw [e'] at e
  simp only [List.cons.injEq, AV.agg.injEq, AV.sl.injEq, AV.int.injEq, true_and, and_true] at e
  obtain ⟨⟨e1, e2⟩, e3, e4⟩ := e
  have q1 := map_inj (fun _ _ h => by injection h) e1
  have q2 := map_inj (fun _ _ h => eIo_inj h) e2
  subst q1; subst q2; subst e3; subst e4; rfl
theorem readX_some {args : List AV} {r : Res} (h : readX args = some r) : ∃ ss ps h a, ReadsAs ss ps h a args ∧ r = { val := .str (rdL ss ps h a) } := by
  unfold readX at h
  split at h
  · rename_i hx
    have hc := Classical.choose_spec hx
    injection h with h
    exact ⟨_, _, _, _, hc, h.symm⟩
  · cases h
end Go.Proofs.YtenmfblmekilaaaGreat
