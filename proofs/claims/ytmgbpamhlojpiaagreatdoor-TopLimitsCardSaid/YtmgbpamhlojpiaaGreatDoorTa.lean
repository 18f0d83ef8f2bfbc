/- The interpreter at this program: what is known of its functions and tables. -/
import Derived.Test.YtmgbpamhlojpiaaGreatDoorXf
import Derived.Test.YtmgbpamhlojpiaaGreatDoorProg
import Derived.KernelRfl
set_option linter.unusedVariables false
/-! The orders of the regions that draw; the functions without a body. -/
namespace Go.X
open Go.Ex Go.Proofs
noncomputable def an7 : List (Nat × An) := [(8, .fl [0, 2, 3, 4, 5] 1 [6, 7, 8])]
noncomputable def an8 : List (Nat × An) := [(15, .ord [0, 1, 2, 3, 4, 5, 6, 7, 8, 9, 10, 11, 12, 13, 14, 15, 16, 17, 18]), (17, .ord [0, 1, 2, 5, 6, 7, 3, 4, 8, 9, 10, 11, 12])]
noncomputable def an10 : List (Nat × An) := [(1, .ord [0, 2, 1, 3, 4])]
noncomputable def an13 : List (Nat × An) := [(5, .ord [0, 1, 2, 3, 4, 5, 6, 7, 8, 9, 10, 11]), (7, .ord [0, 1, 2, 3, 4, 5, 6, 7, 8])]
noncomputable def an15 : List (Nat × An) := [(8, .ord [0, 1, 2, 3, 4, 5, 6, 7, 8, 9, 10])]
noncomputable def an16 : List (Nat × An) := [(11, .ord [0, 1, 2, 3, 4, 5, 6, 7, 8, 9, 10, 11, 12, 13])]
noncomputable def an18 : List (Nat × An) := [(28, .ord [0, 1, 2, 3, 4, 5, 6, 7, 8, 9, 10, 11, 12, 13, 14, 15])]
noncomputable def an32 : List (Nat × An) := [(14, .ord [0, 1, 2, 3, 4, 5, 6, 7, 8, 9, 10])]
noncomputable def an35 : List (Nat × An) := [(3, .ord [0, 1, 2, 3, 4, 5, 6, 7, 8, 9, 10, 11, 12, 13, 14])]
noncomputable def an40 : List (Nat × An) := [(1, .ord [0, 1, 2, 3, 4, 5, 6, 7, 8, 9, 10, 11])]
noncomputable def an42 : List (Nat × An) := [(14, .ord [0, 1, 2, 3, 4, 5, 6, 7, 8, 9, 10, 11]), (15, .ord [0, 1, 2, 3, 4, 5, 6, 7])]
noncomputable def an44 : List (Nat × An) := [(15, .ord [0, 1, 2, 3, 4, 5, 6, 7, 8, 9, 10, 11])]
noncomputable def an47 : List (Nat × An) := [(7, .ord [0, 2, 3, 4, 1, 5])]
noncomputable def an53 : List (Nat × An) := [(8, .ord [0, 1, 2, 3, 4, 6, 7, 5, 8, 9, 10, 11, 12]), (10, .ord [0, 1, 2, 3, 4, 6, 7, 10, 11, 13, 14, 5, 8, 9, 12, 15, 16, 17, 18, 19, 20]), (18, .ord [0, 1, 2, 3, 4, 5, 6, 7, 8, 9, 10, 11, 12, 13, 14, 15, 16, 17, 18]), (22, .ord [0, 1, 2, 3, 4, 5, 6, 7, 8, 9, 10, 11, 12, 13, 14, 15, 16, 17, 18, 19, 20, 21, 22, 23, 24, 25, 26, 27, 28, 29, 30]), (26, .ord [0, 1, 2, 3, 4, 5, 6, 7, 8, 9, 10, 11, 12, 13, 14, 15, 16, 17, 18, 19, 20, 21, 22, 23, 24, 25, 26, 27, 28, 29, 30, 31, 32, 33, 34, 35, 36, 37, 38, 39, 40, 41, 42])]
noncomputable def an55 : List (Nat × An) := [(1, .ord [0, 1, 2, 3, 4, 5, 6, 7, 8, 9, 10, 11, 12, 13, 14, 15, 16, 17])]
noncomputable def an56 : List (Nat × An) := [(3, .ord [0, 1, 2, 3, 4, 5, 6, 7, 8, 9, 10, 11, 12])]
noncomputable def an59 : List (Nat × An) := [(1, .ord [0, 1, 2, 3, 4, 5, 6, 7, 8, 9, 10, 11, 12, 13, 14, 15])]
noncomputable def an65 : List (Nat × An) := [(3, .ord [0, 1, 2, 3, 4, 5, 6, 7, 8, 9, 10, 11, 12]), (4, .ord [0, 1, 2, 3, 4, 5, 6, 7, 8, 9, 10])]
noncomputable def an70 : List (Nat × An) := [(6, .ord [0, 1, 2, 3, 4, 5]), (7, .ord [0, 1, 2, 3, 4, 5, 6, 7, 8, 9, 10])]
noncomputable def an71 : List (Nat × An) := [(4, .fl [0, 1, 2, 3, 4, 5, 6, 7, 8, 9, 10, 11, 12, 13, 14, 15, 16, 17, 18, 19, 20] 21 [22, 23]), (8, .ord [0, 1, 2, 3, 4, 5, 6, 7, 8, 9, 10])]
noncomputable def an81 : List (Nat × An) := [(19, .ord [0, 1, 2, 3, 4, 5, 6, 7, 8, 9, 10, 11, 12])]
noncomputable def an82 : List (Nat × An) := [(6, .ord [0, 1, 2, 3, 4, 5, 6, 7, 8])]
noncomputable def an87 : List (Nat × An) := [(4, .ord [0, 1, 2, 3, 4, 5, 6, 7, 8, 9, 10, 11, 12, 13]), (8, .ord [0, 1, 2, 3, 4, 5, 6, 7, 8, 9, 10, 11, 12, 13, 14, 15, 16])]
noncomputable def an88 : List (Nat × An) := [(3, .ord [0, 1, 2, 3, 4, 5, 6, 7, 8, 9, 10, 11, 12])]
noncomputable def an89 : List (Nat × An) := [(11, .ord [0, 1, 2, 3, 4, 5]), (13, .ord [0, 1, 2, 3, 4, 5, 6, 7, 8, 9, 10, 11])]
noncomputable def an90 : List (Nat × An) := [(5, .ord [0, 1, 2, 3, 4, 5, 6, 7, 8, 9, 10, 11, 12, 13])]
noncomputable def an92 : List (Nat × An) := [(3, .ord [0, 1, 2, 3, 4, 5, 6, 7, 8, 9, 10, 11])]
noncomputable def an107 : List (Nat × An) := [(1, .ord [0, 1, 2, 3, 4, 5, 6, 7, 8, 9, 10, 11, 12, 13, 14, 15, 16, 17, 18, 19, 20, 21, 22]), (2, .ord [0, 1, 2, 3, 4, 5, 6, 7, 8, 9, 10, 11, 12, 13, 14, 15, 16, 17, 18, 19, 20, 21, 22, 23, 24, 25, 26, 27, 28, 29, 30, 31, 32, 33, 34, 35, 36, 37, 38, 39, 40, 41, 42, 43, 44, 45, 46])]
noncomputable def an109 : List (Nat × An) := [(3, .ord [0, 1, 2, 3, 4, 5, 6, 7, 8, 9, 10, 11, 12, 13, 14, 15, 16])]
noncomputable def an116 : List (Nat × An) := [(14, .ord [0, 1, 2, 3, 4, 5, 6, 7, 8, 9, 10, 11, 12])]
noncomputable def an117 : List (Nat × An) := [(12, .ord [0, 1, 2, 3, 4, 5, 6, 7, 8, 9, 10, 11, 12])]
noncomputable def an118 : List (Nat × An) := [(3, .ord [0, 1, 2, 3, 4, 5, 6, 7, 8, 9, 10, 11, 12, 13, 14, 15, 16, 17, 18, 19, 20, 21, 22]), (5, .ord [0, 1, 2, 3, 4, 5, 6, 7, 8, 9, 10, 11, 12, 13, 14, 15, 16, 17, 18, 19, 20, 21, 22])]
noncomputable def an119 : List (Nat × An) := [(0, .fl [0, 1, 2, 3, 4, 5, 6, 7, 8, 9, 10, 11, 12] 13 [14, 15, 16])]
noncomputable def an121 : List (Nat × An) := [(1, .ord [0, 1, 2, 3, 4, 5, 6, 7, 8, 9, 10, 11, 12, 13, 14, 15])]
noncomputable def an123 : List (Nat × An) := [(15, .ord [0, 1, 2, 3, 4, 5])]
noncomputable def an134 : List (Nat × An) := [(0, .ord [0, 1, 2, 3, 4, 5, 6, 7, 9, 10, 11, 12, 13, 8, 14, 15])]
noncomputable def an135 : List (Nat × An) := [(5, .ord [0, 1, 2, 3, 4, 5, 6, 7, 8, 9, 10, 11, 12, 13])]
noncomputable def an136 : List (Nat × An) := [(1, .ord [0, 1, 2, 3, 4, 5, 6, 7, 8, 9, 10, 11, 12, 13, 14, 15, 16, 17, 18]), (3, .ord [0, 1, 2, 3, 4, 5, 6, 7, 8, 9, 10]), (4, .ord [0, 1, 2, 3, 4, 5, 6, 7, 8, 9, 10, 11, 12, 13, 14])]
noncomputable def an137 : List (Nat × An) := [(7, .ord [0, 1, 2, 3, 4, 8, 9, 5, 6, 7, 10, 11, 12, 13, 14])]
noncomputable def an142 : List (Nat × An) := [(10, .ord [0, 1, 2, 3, 4, 5, 6, 7, 8, 9])]
noncomputable def an144 : List (Nat × An) := [(15, .ord [0, 1, 2, 3])]
noncomputable def an163 : List (Nat × An) := [(5, .ord [0, 1, 2, 3, 4, 5, 6, 7, 8, 9])]
noncomputable def an173 : List (Nat × An) := [(3, .ord [0, 1, 2, 3, 4, 5, 6, 7, 8, 9, 10, 11, 12, 13, 14, 15, 16, 17, 18])]
noncomputable def an178 : List (Nat × An) := [(1, .ord [0, 1, 2, 3, 4, 5, 6, 7, 8, 9, 10, 11, 12, 13, 14, 15, 16])]
noncomputable def an184 : List (Nat × An) := [(7, .ord [0, 1, 2, 3, 4, 5, 6, 7, 8, 9, 10, 11, 12, 13, 14, 15, 16, 17, 18, 19])]
noncomputable def an185 : List (Nat × An) := [(5, .ord [0, 1, 2, 3, 4, 5, 6, 7, 8, 9, 10, 11, 12, 13, 14])]
noncomputable def an188 : List (Nat × An) := [(6, .ord [0, 1, 2, 3, 4, 5, 6, 7, 8])]
noncomputable def an192 : List (Nat × An) := [(5, .ord [0, 1, 2, 3, 4, 5, 6, 7, 9, 10, 8, 11, 12, 13, 14, 15, 16])]
noncomputable def an193 : List (Nat × An) := [(5, .ord [0, 1, 2, 3, 4, 5, 6, 7, 8, 9, 10, 11, 12, 13, 14, 15])]
noncomputable def an201 : List (Nat × An) := [(7, .ord [0, 1, 2, 3, 4, 5, 6, 7, 8, 9, 10, 11, 12, 13, 14]), (8, .ord [0, 1, 2, 3, 4, 5, 6, 7, 8, 9, 10, 11, 12, 13, 14]), (9, .ord [0, 1, 2, 3, 4, 5, 6, 7, 8, 9, 10, 11, 12, 13, 14]), (10, .ord [0, 1, 2, 3, 4, 5, 6, 7, 8, 9, 10, 11, 12, 13, 14]), (17, .ord [0, 1, 2, 3, 4, 5, 6, 7, 8, 9, 10, 11, 12, 13, 14]), (18, .ord [0, 1, 2, 3, 4, 5, 6, 7, 8, 9, 10, 11, 12, 13, 14]), (23, .ord [0, 1, 2, 3, 4, 5, 6, 7, 8, 9, 10, 11, 12, 13, 14])]
noncomputable def an213 : List (Nat × An) := [(3, .ord [0, 1, 2, 3, 4, 5, 6, 7])]
noncomputable def an216 : List (Nat × An) := [(8, .ord [0, 1, 3, 5, 6, 7, 8, 9, 11, 12, 2, 4, 10, 13, 14, 15])]
noncomputable def an222 : List (Nat × An) := [(3, .ord [0, 1, 2, 3, 4, 5, 6, 7, 8, 9, 10, 11, 12, 13, 14, 15])]
noncomputable def an233 : List (Nat × An) := [(17, .ord [0, 1, 2, 3, 4, 5, 6, 7, 8, 9, 10, 11, 12, 13, 14])]
noncomputable def an237 : List (Nat × An) := [(3, .ord [0, 1, 2, 3, 4, 5, 6, 7, 8, 9, 10, 11])]
noncomputable def an248 : List (Nat × An) := [(11, .ord [0, 1, 2, 3, 4, 5, 6, 7, 8, 9, 10])]
noncomputable def an257 : List (Nat × An) := [(1, .ord [0, 1, 2, 3, 4, 5, 6, 7, 8, 9, 10, 11, 12, 13, 14, 15, 16, 17, 18, 19, 20, 21, 22, 23, 24, 25]), (3, .ord [0, 1, 2, 3, 4, 5, 6, 7, 8, 9, 10, 11, 12, 13, 14])]
noncomputable def an262 : List (Nat × An) := [(7, .ord [0, 1, 2, 3, 4, 6, 7, 5, 8, 9, 10, 11, 12]), (9, .ord [0, 1, 2, 3, 4, 6, 7, 10, 11, 13, 14, 5, 8, 9, 12, 15, 16, 17, 18, 19, 20]), (17, .ord [0, 1, 2, 3, 4, 5, 6, 7, 8, 9, 10, 11, 12, 13, 14, 15, 16]), (21, .ord [0, 1, 2, 3, 4, 5, 6, 7, 8, 9, 10, 11, 12, 13, 14, 15, 16, 17, 18, 19, 20, 21, 22, 23, 24, 25, 26]), (25, .ord [0, 1, 2, 3, 4, 5, 6, 7, 8, 9, 10, 11, 12, 13, 14, 15, 16, 17, 18, 19, 20, 21, 22, 23, 24, 25, 26, 27, 28, 29, 30, 31, 32, 33, 34, 35, 36])]
noncomputable def an270 : List (Nat × An) := [(5, .ord [0, 1, 2, 3, 4, 5, 6, 7, 8, 9, 10, 11, 12])]
noncomputable def an273 : List (Nat × An) := [(6, .ord [0, 1, 2, 3, 4, 5, 6, 7, 8, 9, 10, 11, 12, 13, 14, 15, 16])]
noncomputable def an285 : List (Nat × An) := [(6, .ord [0, 1, 2, 3, 4, 5, 6, 7, 8, 9]), (11, .ord [0, 1, 2, 3, 4, 5, 6, 7, 8, 9])]
noncomputable def an288 : List (Nat × An) := [(4, .ord [0, 1, 2, 3, 4, 5, 6, 7, 8, 9, 10, 11, 12, 13, 14]), (6, .ord [0, 1, 2, 3, 4, 5, 6, 7, 8, 9, 10, 11, 12, 13, 14, 15, 16, 17])]
noncomputable def an289 : List (Nat × An) := [(10, .ord [0, 1, 2, 3, 4, 5, 6, 7, 8, 9, 10, 11, 12, 13, 14, 15, 16, 17, 18, 19])]
noncomputable def an290 : List (Nat × An) := [(10, .ord [0, 1, 2, 3, 4, 5, 6, 7, 8, 9, 10, 11, 12, 13, 14, 15, 16, 17, 18, 19])]
noncomputable def an292 : List (Nat × An) := [(3, .ord [0, 1, 2, 3, 4, 5, 6, 7, 8, 9, 10, 11, 12, 13, 14, 15])]
noncomputable def an293 : List (Nat × An) := [(5, .ord [0, 1, 2, 3, 4, 5, 6, 7, 8, 9, 10, 11, 12, 13, 14, 15]), (11, .ord [0, 1, 2, 3, 4, 5, 6, 7, 8, 9, 10, 11, 12, 13, 14, 15, 16, 17]), (16, .ord [0, 1, 2, 3, 4, 5, 6, 7, 8, 9, 10]), (17, .ord [0, 1, 2, 3, 4, 5, 6, 7, 8, 9, 10, 11, 12, 13, 14, 15, 16, 17]), (22, .ord [0, 1, 2, 3, 4, 5, 6, 7, 8, 9, 10]), (23, .ord [0, 1, 2, 3, 4, 5, 6, 7, 8, 9, 10, 11, 12, 13, 14, 15, 16, 17])]
noncomputable def an295 : List (Nat × An) := [(1, .ord [0, 1, 2, 3, 4, 5, 6, 7, 8, 9, 10, 11, 12, 13, 14, 15]), (3, .ord [0, 1, 2, 3, 4, 5, 6, 7, 8, 9, 10, 11, 12, 13, 14]), (5, .ord [0, 1, 2, 3, 4, 5, 6, 7, 8, 9, 10, 11, 12, 13]), (8, .ord [0, 1, 2, 3, 4, 5, 6, 7, 8, 9, 10, 11, 12, 13, 14, 15])]
noncomputable def an296 : List (Nat × An) := [(1, .ord [0, 1, 2, 3, 4, 5, 6, 7, 8, 9, 10, 11, 12, 13, 14, 15]), (3, .ord [0, 1, 2, 3, 4, 5, 6, 7, 8, 9, 10, 11, 12, 13]), (5, .ord [0, 1, 2, 3, 4, 5, 6, 7, 8, 9, 10, 11, 12, 13, 14]), (8, .ord [0, 1, 2, 3, 4, 5, 6, 7, 8, 9, 10, 11, 12, 13, 14, 15]), (10, .ord [0, 1, 2, 3, 4, 5, 6, 7, 8, 9, 10, 11, 12, 13, 14, 15]), (13, .ord [0, 1, 2, 3, 4, 5, 6, 7, 8, 9, 10, 11, 12, 13]), (15, .ord [0, 1, 2, 3, 4, 5, 6, 7, 8, 9, 10, 11, 12, 13, 14]), (18, .ord [0, 1, 2, 3, 4, 5, 6, 7, 8, 9, 10, 11, 12, 13, 14, 15]), (21, .ord [0, 1, 2, 3, 4, 5, 6, 7, 8, 9, 10, 11, 12, 13, 14, 15])]
noncomputable def an300 : List (Nat × An) := [(6, .ord [0, 1, 2, 3, 4, 5, 6]), (7, .ord [0, 1, 2, 3, 4, 5, 6, 7, 8]), (14, .ord [0, 1, 2, 3, 4, 5, 6, 7, 8, 9, 10]), (31, .ord [0, 1, 2, 3, 4, 5, 6, 7, 8, 9, 10])]
noncomputable def an305 : List (Nat × An) := [(6, .ord [0, 1, 2, 3, 4, 5, 6, 7])]
noncomputable def an313 : List (Nat × An) := [(1, .ord [0, 1, 2, 3, 4, 5, 6, 7, 8, 9, 10, 11, 12, 13, 14, 15, 16, 17, 18]), (2, .ord [0, 1, 2, 3, 4, 5, 6, 7, 8, 9, 10, 11, 12, 13, 14, 15, 16, 17, 18, 19, 20, 21, 22, 23, 24, 25, 26, 27, 28, 29, 30, 31, 32, 33, 34, 35, 36, 37, 38])]
noncomputable def an319 : List (Nat × An) := [(1, .ord [0, 1, 3, 2, 4, 5, 6])]
noncomputable def an320 : List (Nat × An) := [(1, .ord [0, 1, 3, 2, 4, 5, 6])]
noncomputable def an326 : List (Nat × An) := [(17, .ord [0, 1, 2, 3, 4, 5, 6, 7, 8, 9, 10, 11, 12, 13, 14])]
noncomputable def an327 : List (Nat × An) := [(3, .ord [0, 1, 2, 3, 4, 5, 6, 7, 8, 9, 10, 11, 12, 13, 14, 15, 16, 17, 18, 19]), (5, .ord [0, 1, 2, 3, 4, 5, 6, 7, 8, 9, 10, 11, 12, 13]), (6, .ord [0, 1, 2, 3, 4, 5, 6, 7, 8, 9, 10, 11, 12, 13, 14, 15, 16, 17, 18, 19, 20, 21, 22, 23])]
noncomputable def an329 : List (Nat × An) := [(1, .ord [0, 1, 2, 3, 4, 5, 6, 7, 8, 9]), (2, .ord [0, 1, 2, 3, 4, 5, 6, 7, 8, 9]), (3, .ord [0, 1, 2, 3, 4, 5, 6, 7, 8, 9])]
noncomputable def an336 : List (Nat × An) := [(7, .ord [0, 1, 2, 3, 4, 5, 6, 7, 8, 9, 10, 11, 12, 13, 14])]
noncomputable def an343 : List (Nat × An) := [(3, .ord [0, 1, 2, 3, 4, 5, 6, 7, 8])]
noncomputable def an347 : List (Nat × An) := [(4, .ord [0, 1, 2, 3, 4, 5, 6, 7, 8, 9, 10, 11, 12, 13, 14]), (6, .ord [0, 1, 2, 3, 4, 5, 6, 7, 8, 9, 10, 11, 12, 13, 14, 15, 16, 17])]
noncomputable def an348 : List (Nat × An) := [(10, .ord [0, 1, 2, 3, 4, 5, 6, 7, 8, 9, 10, 11, 12, 13, 14, 15, 16, 17, 18, 19])]
noncomputable def an349 : List (Nat × An) := [(10, .ord [0, 1, 2, 3, 4, 5, 6, 7, 8, 9, 10, 11, 12, 13, 14, 15, 16, 17, 18, 19])]
noncomputable def an351 : List (Nat × An) := [(3, .ord [0, 1, 2, 3, 4, 5, 6, 7, 8, 9, 10, 11, 12, 13, 14, 15])]
noncomputable def an352 : List (Nat × An) := [(5, .ord [0, 1, 2, 3, 4, 5, 6, 7, 8, 9, 10, 11, 12, 13, 14, 15]), (11, .ord [0, 1, 2, 3, 4, 5, 6, 7, 8, 9, 10, 11, 12, 13, 14, 15, 16, 17]), (16, .ord [0, 1, 2, 3, 4, 5, 6, 7, 8, 9, 10]), (17, .ord [0, 1, 2, 3, 4, 5, 6, 7, 8, 9, 10, 11, 12, 13, 14, 15, 16, 17]), (22, .ord [0, 1, 2, 3, 4, 5, 6, 7, 8, 9, 10]), (23, .ord [0, 1, 2, 3, 4, 5, 6, 7, 8, 9, 10, 11, 12, 13, 14, 15, 16, 17])]
noncomputable def an354 : List (Nat × An) := [(1, .ord [0, 1, 2, 3, 4, 5, 6, 7, 8, 9, 10, 11, 12, 13, 14, 15]), (3, .ord [0, 1, 2, 3, 4, 5, 6, 7, 8, 9, 10, 11, 12, 13, 14]), (5, .ord [0, 1, 2, 3, 4, 5, 6, 7, 8, 9, 10, 11, 12, 13]), (8, .ord [0, 1, 2, 3, 4, 5, 6, 7, 8, 9, 10, 11, 12, 13, 14, 15])]
noncomputable def an355 : List (Nat × An) := [(1, .ord [0, 1, 2, 3, 4, 5, 6, 7, 8, 9, 10, 11, 12, 13, 14, 15]), (3, .ord [0, 1, 2, 3, 4, 5, 6, 7, 8, 9, 10, 11, 12, 13]), (5, .ord [0, 1, 2, 3, 4, 5, 6, 7, 8, 9, 10, 11, 12, 13, 14]), (8, .ord [0, 1, 2, 3, 4, 5, 6, 7, 8, 9, 10, 11, 12, 13, 14, 15]), (10, .ord [0, 1, 2, 3, 4, 5, 6, 7, 8, 9, 10, 11, 12, 13, 14, 15]), (13, .ord [0, 1, 2, 3, 4, 5, 6, 7, 8, 9, 10, 11, 12, 13]), (15, .ord [0, 1, 2, 3, 4, 5, 6, 7, 8, 9, 10, 11, 12, 13, 14]), (18, .ord [0, 1, 2, 3, 4, 5, 6, 7, 8, 9, 10, 11, 12, 13, 14, 15]), (21, .ord [0, 1, 2, 3, 4, 5, 6, 7, 8, 9, 10, 11, 12, 13, 14, 15])]
noncomputable def an356 : List (Nat × An) := [(1, .ord [0, 1, 2, 3, 4, 5, 6, 7, 8])]
noncomputable def an360 : List (Nat × An) := [(0, .ord [0, 1, 2, 3, 4, 5])]
noncomputable def an362 : List (Nat × An) := [(9, .ord [0, 1, 2, 3, 4, 5, 6, 7]), (20, .ord [0, 1, 2, 3, 4, 5, 6, 7, 8, 9, 10]), (28, .ord [0, 1, 2, 3, 4, 5, 6, 7, 8, 9, 10, 11, 12, 13, 14, 15, 16, 17])]
noncomputable def an365 : List (Nat × An) := [(3, .ord [0, 1, 2, 3, 4, 5, 6, 7, 8, 9, 10, 11, 12, 13, 14, 15, 16, 17, 18, 19]), (5, .ord [0, 1, 2, 3, 4, 5, 6, 7, 8, 9, 10, 11, 12, 13]), (6, .ord [0, 1, 2, 3, 4, 5, 6, 7, 8, 9, 10, 11, 12, 13, 14, 15, 16, 17, 18, 19, 20, 21, 22, 23])]
noncomputable def an373 : List (Nat × An) := [(11, .ord [0, 1, 2, 3, 4, 5, 6, 7, 8, 9, 10]), (23, .ord [0, 1, 2, 3, 4, 5, 6, 7, 8, 9, 10])]
noncomputable def an374 : List (Nat × An) := [(8, .ord [0, 1, 2, 3, 4, 5, 6, 7, 8, 9]), (10, .ord [0, 1, 2, 3, 4, 5, 6, 7, 8, 9, 10]), (15, .ord [0, 1, 2, 3, 4, 5, 6, 7, 8, 9, 10, 11]), (18, .ord [0, 1, 2, 3, 4, 5, 6, 7, 8, 9, 10, 11, 12, 13, 14, 15, 16]), (19, .ord [0, 1, 2, 3, 4, 5, 6, 7, 8, 9, 10, 11, 12, 13]), (23, .ord [0, 1, 2, 3, 4, 5, 6, 7, 8, 9, 10, 11, 12]), (28, .ord [0, 1, 2, 3, 4, 5, 6, 7]), (31, .ord [0, 1, 2, 3, 4, 5, 6, 7, 8, 9, 10, 11, 12])]
noncomputable def an375 : List (Nat × An) := [(1, .ord [0, 1, 2, 3, 4, 5, 6, 7, 8])]
noncomputable def an384 : List (Nat × An) := [(3, .ord [0, 1, 2, 3, 4, 5, 6, 7, 8, 9, 10, 11, 12, 13, 14])]
noncomputable def annT : Tr (List (Nat × An)) := (.nd (.nd (.nd (.nd (.nd (.nd (.nd .lf none (.nd (.nd .lf (some an319) .lf) none .lf)) none (.nd .lf none (.nd (.nd .lf (some an351) .lf) none .lf))) (some an15) (.nd .lf (some an47) .lf)) (some an7) (.nd (.nd (.nd (.nd .lf (some an135) .lf) (some an71) (.nd (.nd .lf (some an327) .lf) none .lf)) none (.nd (.nd (.nd .lf (some an295) .lf) none .lf) none .lf)) none (.nd (.nd .lf (some an87) (.nd (.nd .lf (some an343) .lf) none .lf)) (some an55) (.nd .lf (some an119) (.nd (.nd .lf (some an375) .lf) none .lf))))) none (.nd (.nd (.nd .lf (some an35) (.nd (.nd .lf (some an163) .lf) none (.nd (.nd .lf (some an355) .lf) none .lf))) none .lf) none (.nd (.nd .lf none (.nd .lf (some an107) .lf)) none (.nd (.nd .lf none (.nd (.nd .lf (some an347) .lf) none .lf)) (some an59) (.nd .lf (some an123) .lf))))) none (.nd (.nd (.nd (.nd (.nd (.nd (.nd .lf (some an257) .lf) none .lf) (some an65) (.nd .lf (some an193) .lf)) none (.nd (.nd (.nd .lf (some an289) .lf) none .lf) none .lf)) none (.nd (.nd (.nd (.nd .lf (some an273) .lf) none .lf) (some an81) .lf) none (.nd (.nd (.nd .lf (some an305) .lf) none .lf) none .lf))) none (.nd (.nd (.nd (.nd .lf (some an137) .lf) none (.nd (.nd .lf (some an329) .lf) (some an201) .lf)) none (.nd .lf none (.nd .lf (some an233) .lf))) none (.nd (.nd .lf (some an89) .lf) none (.nd (.nd (.nd .lf (some an313) .lf) (some an185) .lf) (some an121) .lf)))) none (.nd (.nd (.nd .lf none (.nd (.nd (.nd .lf (some an293) .lf) none .lf) none .lf)) none (.nd (.nd .lf none (.nd .lf (some an213) .lf)) (some an53) (.nd .lf (some an117) (.nd (.nd .lf (some an373) .lf) none .lf)))) (some an13) (.nd (.nd .lf none (.nd (.nd .lf (some an173) .lf) (some an109) (.nd (.nd .lf (some an365) .lf) (some an237) .lf))) none (.nd (.nd (.nd (.nd .lf (some an285) .lf) none .lf) none (.nd (.nd .lf (some an349) .lf) none .lf)) none .lf))))) none (.nd (.nd (.nd (.nd (.nd (.nd (.nd .lf none (.nd .lf (some an384) .lf)) none (.nd (.nd .lf (some an320) .lf) (some an192) .lf)) (some an32) (.nd (.nd (.nd .lf (some an288) .lf) none .lf) none (.nd (.nd .lf (some an352) .lf) none .lf))) (some an16) (.nd (.nd (.nd .lf (some an144) .lf) none (.nd (.nd .lf (some an336) .lf) none .lf)) none .lf)) (some an8) (.nd (.nd (.nd (.nd .lf (some an136) .lf) none .lf) (some an40) (.nd (.nd (.nd .lf (some an296) .lf) none .lf) none (.nd (.nd .lf (some an360) .lf) none .lf))) none (.nd (.nd .lf (some an88) (.nd .lf (some an216) .lf)) (some an56) (.nd (.nd .lf (some an184) .lf) none (.nd .lf (some an248) .lf))))) none (.nd (.nd (.nd .lf none (.nd (.nd (.nd .lf (some an292) .lf) none .lf) none (.nd (.nd .lf (some an356) .lf) none .lf))) none (.nd .lf none (.nd .lf (some an116) .lf))) none (.nd (.nd .lf (some an44) (.nd (.nd (.nd .lf (some an300) .lf) none .lf) none .lf)) none (.nd (.nd .lf (some an92) (.nd (.nd .lf (some an348) .lf) none .lf)) none (.nd (.nd .lf (some an188) .lf) none .lf))))) none (.nd (.nd (.nd (.nd .lf none (.nd (.nd (.nd .lf (some an290) .lf) none .lf) none (.nd (.nd .lf (some an354) .lf) none .lf))) (some an18) (.nd (.nd .lf (some an82) .lf) none (.nd (.nd .lf (some an178) .lf) none .lf))) (some an10) (.nd (.nd .lf (some an42) (.nd .lf none (.nd (.nd .lf (some an362) .lf) none .lf))) none (.nd (.nd .lf (some an90) .lf) none .lf))) none (.nd (.nd (.nd (.nd (.nd (.nd .lf (some an262) .lf) (some an134) .lf) (some an70) (.nd (.nd .lf (some an326) .lf) none .lf)) none .lf) none (.nd .lf none (.nd .lf (some an118) (.nd (.nd .lf (some an374) .lf) none .lf)))) none (.nd (.nd (.nd (.nd (.nd .lf (some an270) .lf) (some an142) .lf) none .lf) none .lf) none (.nd (.nd .lf none (.nd .lf (some an222) .lf)) none .lf))))))
noncomputable def ann : FuncId → Nat → An := annOf annT
noncomputable abbrev fnOf (f : Nat) : Func := (Tryz.prog.funcs[f]?).getD default
theorem prog_ok : progOk Tryz.prog = true := by kernel_rfl
theorem nt311 : NtIs Tryz.prog 311 (.byte) := ⟨fnOf 311, by kernel_rfl, by kernel_rfl, by kernel_rfl, by kernel_rfl, trivial⟩
theorem nt131 : NtIs Tryz.prog 131 (.same) := ⟨fnOf 131, by kernel_rfl, by kernel_rfl, by kernel_rfl, by kernel_rfl, trivial⟩
theorem nt236 : NtIs Tryz.prog 236 (.count) := ⟨fnOf 236, by kernel_rfl, by kernel_rfl, by kernel_rfl, by kernel_rfl, trivial⟩
theorem nt203 : NtIs Tryz.prog 203 (.noZero 5) := ⟨fnOf 203, by kernel_rfl, by kernel_rfl, by kernel_rfl, by kernel_rfl, ⟨29, by kernel_rfl, by kernel_rfl⟩⟩
theorem nt357 : NtIs Tryz.prog 357 (.ld32) := ⟨fnOf 357, by kernel_rfl, by kernel_rfl, by kernel_rfl, by kernel_rfl, trivial⟩
theorem nt371 : NtIs Tryz.prog 371 (.st32) := ⟨fnOf 371, by kernel_rfl, by kernel_rfl, by kernel_rfl, by kernel_rfl, trivial⟩
theorem nt377 : NtIs Tryz.prog 377 (.cas) := ⟨fnOf 377, by kernel_rfl, by kernel_rfl, by kernel_rfl, by kernel_rfl, trivial⟩
theorem nt382 : NtIs Tryz.prog 382 (.addT) := ⟨fnOf 382, by kernel_rfl, by kernel_rfl, by kernel_rfl, by kernel_rfl, trivial⟩
theorem nt376 : NtIs Tryz.prog 376 (.mark0 false) := ⟨fnOf 376, by kernel_rfl, by kernel_rfl, by kernel_rfl, by kernel_rfl, trivial⟩
theorem nt378 : NtIs Tryz.prog 378 (.mark0 true) := ⟨fnOf 378, by kernel_rfl, by kernel_rfl, by kernel_rfl, by kernel_rfl, trivial⟩
theorem nt379 : NtIs Tryz.prog 379 (.mark1 false) := ⟨fnOf 379, by kernel_rfl, by kernel_rfl, by kernel_rfl, by kernel_rfl, trivial⟩
theorem nt381 : NtIs Tryz.prog 381 (.mark1 true) := ⟨fnOf 381, by kernel_rfl, by kernel_rfl, by kernel_rfl, by kernel_rfl, trivial⟩
noncomputable def nats : List (FuncId × Nt) := [(311, .byte), (131, .same), (236, .count), (203, .noZero 5), (357, .ld32), (371, .st32), (377, .cas), (382, .addT), (376, .mark0 false), (378, .mark0 true), (379, .mark1 false), (381, .mark1 true)]
theorem nats_ok : ∀ x ∈ nats, NtIs Tryz.prog x.1 x.2 := by
  intro x hx
  unfold nats at hx
  simp only [List.mem_cons, List.mem_nil_iff, or_false] at hx
  rcases hx with rfl | rfl | rfl | rfl | rfl | rfl | rfl | rfl | rfl | rfl | rfl | rfl
  · exact nt311
  · exact nt131
  · exact nt236
  · exact nt203
  · exact nt357
  · exact nt371
  · exact nt377
  · exact nt382
  · exact nt376
  · exact nt378
  · exact nt379
  · exact nt381
def ovN (f : Nat) : Bool := Nat.beq f 311 || Nat.beq f 131 || Nat.beq f 236 || Nat.beq f 203 || Nat.beq f 357 || Nat.beq f 371 || Nat.beq f 377 || Nat.beq f 382 || Nat.beq f 376 || Nat.beq f 378 || Nat.beq f 379 || Nat.beq f 381
end Go.X
/-! The library's function that looks for a text: its contract, whatever the machine's own variable says. -/
namespace Go.X
open Go.Ex Go.Proofs Go.Shelf
noncomputable def renT : Ren := ⟨fun | 217 => 258 | 219 => 194 | 224 => 260 | 225 => 259 | 266 => 311 | 267 => 261 | 314 => 312 | _ => 0, fun | 3 => 3 | 4 => 4 | 5 => 5 | 9 => 9 | 46 => 22 | 51 => 306 | 146 => 366 | _ => 0, fun | 1 => 5 | _ => 0⟩
theorem lays219 : Lays.n219 Tryz.prog renT where
  mixed := by kernel_rfl
  f217 := by kernel_rfl
  f219 := by kernel_rfl
  f224 := by kernel_rfl
  f225 := by kernel_rfl
  f266 := by kernel_rfl
  f267 := by kernel_rfl
  f314 := by kernel_rfl
  t3 := by kernel_rfl
  a3 := fun w => by kernel_rfl
  z3 := fun w => by kernel_rfl
  v3 := fun w => by kernel_rfl
  t4 := by kernel_rfl
  a4 := fun w => by kernel_rfl
  z4 := fun w => by kernel_rfl
  v4 := fun w => by kernel_rfl
  t5 := by kernel_rfl
  a5 := fun w => by kernel_rfl
  z5 := fun w => by kernel_rfl
  v5 := fun w => by kernel_rfl
  t9 := by kernel_rfl
  a9 := fun w => by kernel_rfl
  z9 := fun w => by kernel_rfl
  v9 := fun w => by kernel_rfl
  t46 := by kernel_rfl
  a46 := fun w => by kernel_rfl
  z46 := fun w => by kernel_rfl
  v46 := fun w => by kernel_rfl
  t51 := by kernel_rfl
  a51 := fun w => by kernel_rfl
  z51 := fun w => by kernel_rfl
  v51 := fun w => by kernel_rfl
  t146 := by kernel_rfl
  a146 := fun w => by kernel_rfl
  z146 := fun w => by kernel_rfl
  v146 := fun w => by kernel_rfl
  g1 := by kernel_rfl
theorem ix_is : IxIs Tryz.prog 194 where
  body := ⟨(Tryz.prog.funcs[194]?).getD default, by kernel_rfl, by kernel_rfl⟩
  calls := fun s sub m w hs hm => Any.stringslite_Index lays219 s sub m w hs hm
end Go.X
/-! The interpreter at this program; functions of one letter. -/
namespace Go.X
open Go.Ex Go.Proofs
noncomputable def natB : NatF := natIf 194 xIx (natOf nats)
def ovB (f : Nat) : Bool := Nat.beq f 194 || ovN f
noncomputable def cfB : CallF := xF Tryz.prog ann ovB natB 100000 400
theorem natB_ok (M : Nat) : NatOk Tryz.prog M natB := natIf_ok (fun ρ U h H vs xs K r hd hh => xIx_out ix_is r hd hh) (natOf_ok prog_ok nats_ok)
theorem cfB_ok (M : Nat) : CallOk Tryz.prog M cfB := xF_sound prog_ok (natB_ok M) 400
def mChar : Nat := 340282366920938463463374607427473253888
def mStart : Nat := 10633823849912963253799452870457688064
def mPart : Nat := 10633823849912963254087507324748955648
def hiB : Nat := 1000
theorem rChar : allB 128 (fun r => cfB 52 [.int .i32 (.ofNat r)] (hpG .lf 0 hiB) (ranTo .lf (.bool (mChar.testBit r)))) = true := by kernel_rfl
end Go.X
/-! The package-level variables that are read; the interpreter over them. -/
namespace Go.X
open Go.Ex Go.Proofs
noncomputable def gc0 : List V := [.int .u8 240, .int .u8 240, .int .u8 240, .int .u8 240, .int .u8 240, .int .u8 240, .int .u8 240, .int .u8 240, .int .u8 240, .int .u8 240, .int .u8 240, .int .u8 240, .int .u8 240, .int .u8 240, .int .u8 240, .int .u8 240, .int .u8 240, .int .u8 240, .int .u8 240, .int .u8 240, .int .u8 240, .int .u8 240, .int .u8 240, .int .u8 240, .int .u8 240, .int .u8 240, .int .u8 240, .int .u8 240, .int .u8 240, .int .u8 240, .int .u8 240, .int .u8 240, .int .u8 240, .int .u8 240, .int .u8 240, .int .u8 240, .int .u8 240, .int .u8 240, .int .u8 240, .int .u8 240, .int .u8 240, .int .u8 240, .int .u8 240, .int .u8 240, .int .u8 240, .int .u8 240, .int .u8 240, .int .u8 240, .int .u8 240, .int .u8 240, .int .u8 240, .int .u8 240, .int .u8 240, .int .u8 240, .int .u8 240, .int .u8 240, .int .u8 240, .int .u8 240, .int .u8 240, .int .u8 240, .int .u8 240, .int .u8 240, .int .u8 240, .int .u8 240, .int .u8 240, .int .u8 240, .int .u8 240, .int .u8 240, .int .u8 240, .int .u8 240, .int .u8 240, .int .u8 240, .int .u8 240, .int .u8 240, .int .u8 240, .int .u8 240, .int .u8 240, .int .u8 240, .int .u8 240, .int .u8 240, .int .u8 240, .int .u8 240, .int .u8 240, .int .u8 240, .int .u8 240, .int .u8 240, .int .u8 240, .int .u8 240, .int .u8 240, .int .u8 240, .int .u8 240, .int .u8 240, .int .u8 240, .int .u8 240, .int .u8 240, .int .u8 240, .int .u8 240, .int .u8 240, .int .u8 240, .int .u8 240, .int .u8 240, .int .u8 240, .int .u8 240, .int .u8 240, .int .u8 240, .int .u8 240, .int .u8 240, .int .u8 240, .int .u8 240, .int .u8 240, .int .u8 240, .int .u8 240, .int .u8 240, .int .u8 240, .int .u8 240, .int .u8 240, .int .u8 240, .int .u8 240, .int .u8 240, .int .u8 240, .int .u8 240, .int .u8 240, .int .u8 240, .int .u8 240, .int .u8 240, .int .u8 240, .int .u8 240, .int .u8 240, .int .u8 241, .int .u8 241, .int .u8 241, .int .u8 241, .int .u8 241, .int .u8 241, .int .u8 241, .int .u8 241, .int .u8 241, .int .u8 241, .int .u8 241, .int .u8 241, .int .u8 241, .int .u8 241, .int .u8 241, .int .u8 241, .int .u8 241, .int .u8 241, .int .u8 241, .int .u8 241, .int .u8 241, .int .u8 241, .int .u8 241, .int .u8 241, .int .u8 241, .int .u8 241, .int .u8 241, .int .u8 241, .int .u8 241, .int .u8 241, .int .u8 241, .int .u8 241, .int .u8 241, .int .u8 241, .int .u8 241, .int .u8 241, .int .u8 241, .int .u8 241, .int .u8 241, .int .u8 241, .int .u8 241, .int .u8 241, .int .u8 241, .int .u8 241, .int .u8 241, .int .u8 241, .int .u8 241, .int .u8 241, .int .u8 241, .int .u8 241, .int .u8 241, .int .u8 241, .int .u8 241, .int .u8 241, .int .u8 241, .int .u8 241, .int .u8 241, .int .u8 241, .int .u8 241, .int .u8 241, .int .u8 241, .int .u8 241, .int .u8 241, .int .u8 241, .int .u8 241, .int .u8 241, .int .u8 2, .int .u8 2, .int .u8 2, .int .u8 2, .int .u8 2, .int .u8 2, .int .u8 2, .int .u8 2, .int .u8 2, .int .u8 2, .int .u8 2, .int .u8 2, .int .u8 2, .int .u8 2, .int .u8 2, .int .u8 2, .int .u8 2, .int .u8 2, .int .u8 2, .int .u8 2, .int .u8 2, .int .u8 2, .int .u8 2, .int .u8 2, .int .u8 2, .int .u8 2, .int .u8 2, .int .u8 2, .int .u8 2, .int .u8 2, .int .u8 19, .int .u8 3, .int .u8 3, .int .u8 3, .int .u8 3, .int .u8 3, .int .u8 3, .int .u8 3, .int .u8 3, .int .u8 3, .int .u8 3, .int .u8 3, .int .u8 3, .int .u8 35, .int .u8 3, .int .u8 3, .int .u8 52, .int .u8 4, .int .u8 4, .int .u8 4, .int .u8 68, .int .u8 241, .int .u8 241, .int .u8 241, .int .u8 241, .int .u8 241, .int .u8 241, .int .u8 241, .int .u8 241, .int .u8 241, .int .u8 241, .int .u8 241]
noncomputable def ob0 : Ob := .cells gc0 198 0 false true
noncomputable def gc1 : List V := [.int .u8 128, .int .u8 191, .int .u8 160, .int .u8 191, .int .u8 128, .int .u8 159, .int .u8 144, .int .u8 191, .int .u8 128, .int .u8 143, .int .u8 0, .int .u8 0, .int .u8 0, .int .u8 0, .int .u8 0, .int .u8 0, .int .u8 0, .int .u8 0, .int .u8 0, .int .u8 0, .int .u8 0, .int .u8 0, .int .u8 0, .int .u8 0, .int .u8 0, .int .u8 0, .int .u8 0, .int .u8 0, .int .u8 0, .int .u8 0, .int .u8 0, .int .u8 0]
noncomputable def ob1 : Ob := .cells gc1 201 0 false true
noncomputable def gc6 : List V := [.int .u64 1, .int .u64 10, .int .u64 100, .int .u64 1000, .int .u64 10000, .int .u64 100000, .int .u64 1000000, .int .u64 10000000, .int .u64 100000000, .int .u64 1000000000, .int .u64 10000000000, .int .u64 100000000000, .int .u64 1000000000000, .int .u64 10000000000000, .int .u64 100000000000000, .int .u64 1000000000000000, .int .u64 10000000000000000, .int .u64 100000000000000000, .int .u64 1000000000000000000, .int .u64 10000000000000000000]
noncomputable def ob6 : Ob := .cells gc6 327 0 false true
noncomputable def gc7 : List V := [.int .u8 0, .int .u8 1, .int .u8 56, .int .u8 2, .int .u8 57, .int .u8 49, .int .u8 28, .int .u8 3, .int .u8 61, .int .u8 58, .int .u8 42, .int .u8 50, .int .u8 38, .int .u8 29, .int .u8 17, .int .u8 4, .int .u8 62, .int .u8 47, .int .u8 59, .int .u8 36, .int .u8 45, .int .u8 43, .int .u8 51, .int .u8 22, .int .u8 53, .int .u8 39, .int .u8 33, .int .u8 30, .int .u8 24, .int .u8 18, .int .u8 12, .int .u8 5, .int .u8 63, .int .u8 55, .int .u8 48, .int .u8 27, .int .u8 60, .int .u8 41, .int .u8 37, .int .u8 16, .int .u8 46, .int .u8 35, .int .u8 44, .int .u8 21, .int .u8 52, .int .u8 32, .int .u8 23, .int .u8 11, .int .u8 54, .int .u8 26, .int .u8 40, .int .u8 15, .int .u8 34, .int .u8 20, .int .u8 31, .int .u8 10, .int .u8 25, .int .u8 14, .int .u8 19, .int .u8 9, .int .u8 13, .int .u8 8, .int .u8 7, .int .u8 6]
noncomputable def ob7 : Ob := .cells gc7 386 0 false true
noncomputable def G : Tr Ob := (.nd (.nd (.nd (.nd .lf (some ob7) .lf) none .lf) (some ob1) .lf) (some ob0) (.nd .lf none (.nd .lf (some ob6) .lf)))
/-- What 'told' comes to, in any heap in which these variables are as they were. -/
noncomputable def xTold (vs : List V) (h : Hp) (K : V → Hp → Bool) : Bool := match vs with | [] => bif trE (gPart h.t) G && Nat.ble h.hi hiB then K (.bool true) h else false | _ => false
noncomputable def natR : NatF := natDef Tryz.prog ann 342 <| natRange Tryz.prog ann 144 <| natIf 52 (xRune hiB mChar) (natIf 238 (xRune hiB mStart) (natIf 174 (xRune hiB mPart) natB))
def ovR (f : Nat) : Bool := Nat.beq f 342 || Nat.beq f 144 || Nat.beq f 52 || Nat.beq f 238 || Nat.beq f 174 || ovB f
noncomputable def cfR : CallF := xF Tryz.prog ann ovR natR 100000 400
noncomputable def natT : NatF := natIf 6 xTold natR
def ovT (f : Nat) : Bool := Nat.beq f 6 || ovR f
noncomputable def cfT : CallF := xF Tryz.prog ann ovT natT 100000 400
def cL : Code → Code | .seq x _ => x | c => c
def cR : Code → Code | .seq _ y => y | c => c
noncomputable def bTL : Code := ((fnOf 3).body).getD .skip
noncomputable def xTL (c : Code) (env : Tr V) (h : Hp) (k : KC) : Bool := xC Tryz.prog cfT (ann 3) 120 100000 c env h k
noncomputable def nK (k : Tr V → Hp → Bool) : KC := fun ex env h => match ex with | .n => k env h | _ => false
noncomputable def finV : V → Hp → Bool := fun v h => fE v (.bool true) && trE (gPart h.t) G
noncomputable def finK : KC := fun ex env h => match ex with | .x _ => false | .n => xRes Tryz.prog env h (fnOf 3).results.toList fun r => resS r finV h | .r => xRes Tryz.prog env h (fnOf 3).results.toList fun r => resS r finV h
noncomputable def tl2 : Code := cR (cR bTL)
/-- The law behind its first two statements: k, the unknown m, which. -/
noncomputable def runTL (c k : Nat) : Bool :=
  insK (.bool false) (pth 6) .lf fun env => insK (.int .i64 (.ofNat k)) (pth 7) env fun env => insK (.sym 1 0) (pth 8) env fun env =>
  xTL (cL tl2) env (hpG G 0 30) (nK fun env h => xTL (cL (cR tl2)) env h (nK fun env h => xTL (cL (cR (cR tl2))) env h (nK fun env h =>
    insK .any (pth 2) env fun env => insK .any (pth 33) env fun env => insK .any (pth 34) env fun env => insK (.int .u64 (.ofNat c)) (pth 35) env fun env => xTL (cR (cL (cR (cR (cR tl2))))) env h (nK fun env h => xTL (cR (cR (cR (cR tl2)))) env h finK))))
/-- Some numbers, one behind the other. -/
noncomputable def runs (c a n : Nat) : Bool := allB n fun i => fN (a + i) fun k => runTL c k
end Go.X
