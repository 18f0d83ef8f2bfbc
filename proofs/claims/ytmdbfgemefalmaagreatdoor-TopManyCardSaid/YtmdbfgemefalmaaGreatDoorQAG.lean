/- Part AG of the proof that the law TopMany answers true at every input, under no condition. -/
import Derived.Test.YtmdbfgemefalmaaGreatDoorQAF
import Derived.Test.YtmdbfgemefalmaaGreatDoorProg
import Derived.KernelRfl
set_option linter.unusedVariables false
set_option maxHeartbeats 2000000
set_option maxRecDepth 100000
namespace Go.X
open Go.Ex Go.Proofs
noncomputable def an3:List (Nat×An):=[(21,.ord [0,1,2,3,4,5,6,7,8,9,10,11,12,13,14,15,16,17,18,19,20,21,22,23,24,25,26,27,28,29,30,31,32,33,34,35,36,37,38,39,40,41,42,43,44,45,46,47,48,49,50])]
noncomputable def an7:List (Nat×An):=[(1,.ord [0,2,1,3,4])]
noncomputable def arE:List (Nat×An):=[(8,.fl [0,2,3,4,5] 1 [6,7,8])]
noncomputable def arD:List (Nat×An):=[(15,.ord [0,1,2,3,4,5,6,7,8,9,10,11,12,13,14,15,16,17,18]),(17,.ord [0,1,2,5,6,7,3,4,8,9,10,11,12])]
noncomputable def arC:List (Nat×An):=[(7,.ord [0,2,3,4,1,5])]
noncomputable def arB:List (Nat×An):=[(5,.ord [0,1,2,3,4,5,6,7,8,9,10,11]),(7,.ord [0,1,2,3,4,5,6,7,8])]
noncomputable def arA:List (Nat×An):=[(8,.ord [0,1,2,3,4,5,6,7,8,9,10])]
noncomputable def arz:List (Nat×An):=[(11,.ord [0,1,2,3,4,5,6,7,8,9,10,11,12,13])]
noncomputable def ary:List (Nat×An):=[(28,.ord [0,1,2,3,4,5,6,7,8,9,10,11,12,13,14,15])]
noncomputable def arx:List (Nat×An):=[(5,.ord [0,1,2,3,4,5,6,7,8,9,10,11,12,13])]
noncomputable def arw:List (Nat×An):=[(3,.ord [0,1,2,3,4,5,6,7,8,9,10,11,12,13,14])]
noncomputable def arv:List (Nat×An):=[(19,.ord [0,1,2,3,4,5,6,7,8,9,10,11,12])]
noncomputable def aru:List (Nat×An):=[(14,.ord [0,1,2,3,4,5,6,7,8,9,10])]
noncomputable def art:List (Nat×An):=[(1,.ord [0,1,2,3,4,5,6,7,8,9,10,11])]
noncomputable def ars:List (Nat×An):=[(14,.ord [0,1,2,3,4,5,6,7,8,9,10,11]),(15,.ord [0,1,2,3,4,5,6,7])]
noncomputable def arq:List (Nat×An):=[(15,.ord [0,1,2,3,4,5,6,7,8,9,10,11])]
noncomputable def arp:List (Nat×An):=[(11,.ord [0,1,2,3,4,5]),(13,.ord [0,1,2,3,4,5,6,7,8,9,10,11])]
noncomputable def aro:List (Nat×An):=[(3,.ord [0,1,2,3,4,5,6,7,8,9,10,11])]
noncomputable def arn:List (Nat×An):=[(10,.ord [0,1,2,3,4,5,6,7,8,9])]
noncomputable def aoN:List (Nat×An):=[(8,.ord [0,1,2,3,4,6,7,5,8,9,10,11,12]),(10,.ord [0,1,2,3,4,6,7,10,11,13,14,5,8,9,12,15,16,17,18,19,20]),(18,.ord [0,1,2,3,4,5,6,7,8,9,10,11,12,13,14,15,16,17,18]),(22,.ord [0,1,2,3,4,5,6,7,8,9,10,11,12,13,14,15,16,17,18,19,20,21,22,23,24,25,26,27,28,29,30]),(26,.ord [0,1,2,3,4,5,6,7,8,9,10,11,12,13,14,15,16,17,18,19,20,21,22,23,24,25,26,27,28,29,30,31,32,33,34,35,36,37,38,39,40,41,42])]
noncomputable def aoM:List (Nat×An):=[(1,.ord [0,1,2,3,4,5,6,7,8,9,10,11,12,13,14,15,16,17])]
noncomputable def aoL:List (Nat×An):=[(3,.ord [0,1,2,3,4,5,6,7,8,9,10,11,12])]
noncomputable def aoK:List (Nat×An):=[(1,.ord [0,1,2,3,4,5,6,7,8,9,10,11,12,13,14,15])]
noncomputable def aoJ:List (Nat×An):=[(3,.ord [0,1,2,3,4,5,6,7,8,9,10,11,12]),(4,.ord [0,1,2,3,4,5,6,7,8,9,10])]
noncomputable def aoI:List (Nat×An):=[(6,.ord [0,1,2,3,4,5]),(7,.ord [0,1,2,3,4,5,6,7,8,9,10])]
noncomputable def aoH:List (Nat×An):=[(4,.fl [0,1,2,3,4,5,6,7,8,9,10,11,12,13,14,15,16,17,18,19,20] 21 [22,23]),(8,.ord [0,1,2,3,4,5,6,7,8,9,10])]
noncomputable def aoG:List (Nat×An):=[(6,.ord [0,1,2,3,4,5,6,7,8])]
noncomputable def aoF:List (Nat×An):=[(4,.ord [0,1,2,3,4,5,6,7,8,9,10,11,12,13]),(8,.ord [0,1,2,3,4,5,6,7,8,9,10,11,12,13,14,15,16])]
noncomputable def aoE:List (Nat×An):=[(3,.ord [0,1,2,3,4,5,6,7,8,9,10,11,12])]
noncomputable def aoD:List (Nat×An):=[(5,.ord [0,1,2,3,4,5,6,7,8,9,10,11,12,13])]
noncomputable def aoC:List (Nat×An):=[(1,.ord [0,1,2,3,4,5,6,7,8,9,10,11,12,13,14,15,16,17,18]),(3,.ord [0,1,2,3,4,5,6,7,8,9,10]),(4,.ord [0,1,2,3,4,5,6,7,8,9,10,11,12,13,14])]
noncomputable def aoB:List (Nat×An):=[(7,.ord [0,1,2,3,4,8,9,5,6,7,10,11,12,13,14])]
noncomputable def aoA:List (Nat×An):=[(15,.ord [0,1,2,3])]
noncomputable def aoz:List (Nat×An):=[(5,.ord [0,1,2,3,4,5,6,7,8,9])]
noncomputable def aoy:List (Nat×An):=[(3,.ord [0,1,2,3,4,5,6,7])]
noncomputable def aox:List (Nat×An):=[(8,.ord [0,1,3,5,6,7,8,9,11,12,2,4,10,13,14,15])]
noncomputable def aow:List (Nat×An):=[(1,.ord [0,1,2,3,4,5,6,7,8,9,10,11,12,13,14,15,16,17,18,19,20,21,22]),(2,.ord [0,1,2,3,4,5,6,7,8,9,10,11,12,13,14,15,16,17,18,19,20,21,22,23,24,25,26,27,28,29,30,31,32,33,34,35,36,37,38,39,40,41,42,43,44,45,46])]
noncomputable def aov:List (Nat×An):=[(3,.ord [0,1,2,3,4,5,6,7,8,9,10,11,12,13,14,15,16])]
noncomputable def aou:List (Nat×An):=[(14,.ord [0,1,2,3,4,5,6,7,8,9,10,11,12])]
noncomputable def aot:List (Nat×An):=[(12,.ord [0,1,2,3,4,5,6,7,8,9,10,11,12])]
noncomputable def aos:List (Nat×An):=[(3,.ord [0,1,2,3,4,5,6,7,8,9,10,11,12,13,14,15,16,17,18,19,20,21,22]),(5,.ord [0,1,2,3,4,5,6,7,8,9,10,11,12,13,14,15,16,17,18,19,20,21,22])]
noncomputable def aor:List (Nat×An):=[(0,.fl [0,1,2,3,4,5,6,7,8,9,10,11,12] 13 [14,15,16])]
noncomputable def aoq:List (Nat×An):=[(1,.ord [0,1,2,3,4,5,6,7,8,9,10,11,12,13,14,15])]
noncomputable def aop:List (Nat×An):=[(15,.ord [0,1,2,3,4,5])]
noncomputable def aoo:List (Nat×An):=[(0,.ord [0,1,2,3,4,5,6,7,9,10,11,12,13,8,14,15])]
noncomputable def aon:List (Nat×An):=[(3,.ord [0,1,2,3,4,5,6,7,8,9,10,11,12,13,14,15])]
noncomputable def aom:List (Nat×An):=[(17,.ord [0,1,2,3,4,5,6,7,8,9,10,11,12,13,14])]
noncomputable def aol:List (Nat×An):=[(5,.ord [0,1,2,3,4,5,6,7,8,9,10,11,12])]
noncomputable def aok:List (Nat×An):=[(6,.ord [0,1,2,3,4,5,6,7,8,9,10,11,12,13,14,15,16])]
noncomputable def aoj:List (Nat×An):=[(3,.ord [0,1,2,3,4,5,6,7,8,9,10,11])]
noncomputable def aoi:List (Nat×An):=[(3,.ord [0,1,2,3,4,5,6,7,8,9,10,11,12,13,14,15,16,17,18])]
noncomputable def aoh:List (Nat×An):=[(1,.ord [0,1,2,3,4,5,6,7,8,9,10,11,12,13,14,15,16])]
noncomputable def aog:List (Nat×An):=[(7,.ord [0,1,2,3,4,5,6,7,8,9,10,11,12,13,14,15,16,17,18,19])]
noncomputable def aof:List (Nat×An):=[(5,.ord [0,1,2,3,4,5,6,7,8,9,10,11,12,13,14])]
noncomputable def aoe:List (Nat×An):=[(6,.ord [0,1,2,3,4,5,6,7,8])]
noncomputable def aod:List (Nat×An):=[(5,.ord [0,1,2,3,4,5,6,7,9,10,8,11,12,13,14,15,16])]
noncomputable def aoc:List (Nat×An):=[(5,.ord [0,1,2,3,4,5,6,7,8,9,10,11,12,13,14,15])]
noncomputable def aob:List (Nat×An):=[(7,.ord [0,1,2,3,4,5,6,7,8,9,10,11,12,13,14]),(8,.ord [0,1,2,3,4,5,6,7,8,9,10,11,12,13,14]),(9,.ord [0,1,2,3,4,5,6,7,8,9,10,11,12,13,14]),(10,.ord [0,1,2,3,4,5,6,7,8,9,10,11,12,13,14]),(17,.ord [0,1,2,3,4,5,6,7,8,9,10,11,12,13,14]),(18,.ord [0,1,2,3,4,5,6,7,8,9,10,11,12,13,14]),(23,.ord [0,1,2,3,4,5,6,7,8,9,10,11,12,13,14])]
noncomputable def aoa:List (Nat×An):=[(6,.ord [0,1,2,3,4,5,6,7,8,9]),(11,.ord [0,1,2,3,4,5,6,7,8,9])]
noncomputable def an9:List (Nat×An):=[(4,.ord [0,1,2,3,4,5,6,7,8,9,10,11,12,13,14]),(6,.ord [0,1,2,3,4,5,6,7,8,9,10,11,12,13,14,15,16,17])]
noncomputable def an8:List (Nat×An):=[(10,.ord [0,1,2,3,4,5,6,7,8,9,10,11,12,13,14,15,16,17,18,19])]
noncomputable def an6:List (Nat×An):=[(10,.ord [0,1,2,3,4,5,6,7,8,9,10,11,12,13,14,15,16,17,18,19])]
noncomputable def an5:List (Nat×An):=[(3,.ord [0,1,2,3,4,5,6,7,8,9,10,11,12,13,14,15])]
noncomputable def an4:List (Nat×An):=[(5,.ord [0,1,2,3,4,5,6,7,8,9,10,11,12,13,14,15]),(11,.ord [0,1,2,3,4,5,6,7,8,9,10,11,12,13,14,15,16,17]),(16,.ord [0,1,2,3,4,5,6,7,8,9,10]),(17,.ord [0,1,2,3,4,5,6,7,8,9,10,11,12,13,14,15,16,17]),(22,.ord [0,1,2,3,4,5,6,7,8,9,10]),(23,.ord [0,1,2,3,4,5,6,7,8,9,10,11,12,13,14,15,16,17])]
noncomputable def an2:List (Nat×An):=[(1,.ord [0,1,2,3,4,5,6,7,8,9,10,11,12,13,14,15]),(3,.ord [0,1,2,3,4,5,6,7,8,9,10,11,12,13,14]),(5,.ord [0,1,2,3,4,5,6,7,8,9,10,11,12,13]),(8,.ord [0,1,2,3,4,5,6,7,8,9,10,11,12,13,14,15])]
noncomputable def an1:List (Nat×An):=[(1,.ord [0,1,2,3,4,5,6,7,8,9,10,11,12,13,14,15]),(3,.ord [0,1,2,3,4,5,6,7,8,9,10,11,12,13]),(5,.ord [0,1,2,3,4,5,6,7,8,9,10,11,12,13,14]),(8,.ord [0,1,2,3,4,5,6,7,8,9,10,11,12,13,14,15]),(10,.ord [0,1,2,3,4,5,6,7,8,9,10,11,12,13,14,15]),(13,.ord [0,1,2,3,4,5,6,7,8,9,10,11,12,13]),(15,.ord [0,1,2,3,4,5,6,7,8,9,10,11,12,13,14]),(18,.ord [0,1,2,3,4,5,6,7,8,9,10,11,12,13,14,15]),(21,.ord [0,1,2,3,4,5,6,7,8,9,10,11,12,13,14,15])]
noncomputable def an0:List (Nat×An):=[(1,.ord [0,1,3,2,4,5,6])]
noncomputable def anZ:List (Nat×An):=[(1,.ord [0,1,3,2,4,5,6])]
noncomputable def anY:List (Nat×An):=[(11,.ord [0,1,2,3,4,5,6,7,8,9,10])]
noncomputable def anX:List (Nat×An):=[(1,.ord [0,1,2,3,4,5,6,7,8,9,10,11,12,13,14,15,16,17,18,19,20,21,22,23,24,25]),(3,.ord [0,1,2,3,4,5,6,7,8,9,10,11,12,13,14])]
noncomputable def anW:List (Nat×An):=[(7,.ord [0,1,2,3,4,6,7,5,8,9,10,11,12]),(9,.ord [0,1,2,3,4,6,7,10,11,13,14,5,8,9,12,15,16,17,18,19,20]),(17,.ord [0,1,2,3,4,5,6,7,8,9,10,11,12,13,14,15,16]),(21,.ord [0,1,2,3,4,5,6,7,8,9,10,11,12,13,14,15,16,17,18,19,20,21,22,23,24,25,26]),(25,.ord [0,1,2,3,4,5,6,7,8,9,10,11,12,13,14,15,16,17,18,19,20,21,22,23,24,25,26,27,28,29,30,31,32,33,34,35,36])]
noncomputable def anV:List (Nat×An):=[(17,.ord [0,1,2,3,4,5,6,7,8,9,10,11,12,13,14])]
noncomputable def anU:List (Nat×An):=[(3,.ord [0,1,2,3,4,5,6,7,8,9,10,11,12,13,14,15,16,17,18,19]),(5,.ord [0,1,2,3,4,5,6,7,8,9,10,11,12,13]),(6,.ord [0,1,2,3,4,5,6,7,8,9,10,11,12,13,14,15,16,17,18,19,20,21,22,23])]
noncomputable def anT:List (Nat×An):=[(1,.ord [0,1,2,3,4,5,6,7,8,9]),(2,.ord [0,1,2,3,4,5,6,7,8,9]),(3,.ord [0,1,2,3,4,5,6,7,8,9])]
noncomputable def anS:List (Nat×An):=[(6,.ord [0,1,2,3,4,5,6]),(7,.ord [0,1,2,3,4,5,6,7,8]),(14,.ord [0,1,2,3,4,5,6,7,8,9,10]),(31,.ord [0,1,2,3,4,5,6,7,8,9,10])]
noncomputable def anR:List (Nat×An):=[(6,.ord [0,1,2,3,4,5,6,7])]
noncomputable def anQ:List (Nat×An):=[(1,.ord [0,1,2,3,4,5,6,7,8,9,10,11,12,13,14,15,16,17,18]),(2,.ord [0,1,2,3,4,5,6,7,8,9,10,11,12,13,14,15,16,17,18,19,20,21,22,23,24,25,26,27,28,29,30,31,32,33,34,35,36,37,38])]
noncomputable def anP:List (Nat×An):=[(3,.ord [0,1,2,3,4,5,6,7,8])]
noncomputable def anO:List (Nat×An):=[(4,.ord [0,1,2,3,4,5,6,7,8,9,10,11,12,13,14]),(6,.ord [0,1,2,3,4,5,6,7,8,9,10,11,12,13,14,15,16,17])]
noncomputable def anN:List (Nat×An):=[(10,.ord [0,1,2,3,4,5,6,7,8,9,10,11,12,13,14,15,16,17,18,19])]
noncomputable def anM:List (Nat×An):=[(10,.ord [0,1,2,3,4,5,6,7,8,9,10,11,12,13,14,15,16,17,18,19])]
noncomputable def anL:List (Nat×An):=[(3,.ord [0,1,2,3,4,5,6,7,8,9,10,11,12,13,14,15])]
noncomputable def anK:List (Nat×An):=[(5,.ord [0,1,2,3,4,5,6,7,8,9,10,11,12,13,14,15]),(11,.ord [0,1,2,3,4,5,6,7,8,9,10,11,12,13,14,15,16,17]),(16,.ord [0,1,2,3,4,5,6,7,8,9,10]),(17,.ord [0,1,2,3,4,5,6,7,8,9,10,11,12,13,14,15,16,17]),(22,.ord [0,1,2,3,4,5,6,7,8,9,10]),(23,.ord [0,1,2,3,4,5,6,7,8,9,10,11,12,13,14,15,16,17])]
noncomputable def anJ:List (Nat×An):=[(1,.ord [0,1,2,3,4,5,6,7,8,9,10,11,12,13,14,15]),(3,.ord [0,1,2,3,4,5,6,7,8,9,10,11,12,13,14]),(5,.ord [0,1,2,3,4,5,6,7,8,9,10,11,12,13]),(8,.ord [0,1,2,3,4,5,6,7,8,9,10,11,12,13,14,15])]
noncomputable def anI:List (Nat×An):=[(1,.ord [0,1,2,3,4,5,6,7,8,9,10,11,12,13,14,15]),(3,.ord [0,1,2,3,4,5,6,7,8,9,10,11,12,13]),(5,.ord [0,1,2,3,4,5,6,7,8,9,10,11,12,13,14]),(8,.ord [0,1,2,3,4,5,6,7,8,9,10,11,12,13,14,15]),(10,.ord [0,1,2,3,4,5,6,7,8,9,10,11,12,13,14,15]),(13,.ord [0,1,2,3,4,5,6,7,8,9,10,11,12,13]),(15,.ord [0,1,2,3,4,5,6,7,8,9,10,11,12,13,14]),(18,.ord [0,1,2,3,4,5,6,7,8,9,10,11,12,13,14,15]),(21,.ord [0,1,2,3,4,5,6,7,8,9,10,11,12,13,14,15])]
noncomputable def anH:List (Nat×An):=[(1,.ord [0,1,2,3,4,5,6,7,8])]
noncomputable def anG:List (Nat×An):=[(7,.ord [0,1,2,3,4,5,6,7,8,9,10,11,12,13,14])]
noncomputable def anF:List (Nat×An):=[(0,.ord [0,1,2,3,4,5])]
noncomputable def anE:List (Nat×An):=[(9,.ord [0,1,2,3,4,5,6,7]),(20,.ord [0,1,2,3,4,5,6,7,8,9,10]),(28,.ord [0,1,2,3,4,5,6,7,8,9,10,11,12,13,14,15,16,17])]
noncomputable def anD:List (Nat×An):=[(3,.ord [0,1,2,3,4,5,6,7,8,9,10,11,12,13,14,15,16,17,18,19]),(5,.ord [0,1,2,3,4,5,6,7,8,9,10,11,12,13]),(6,.ord [0,1,2,3,4,5,6,7,8,9,10,11,12,13,14,15,16,17,18,19,20,21,22,23])]
noncomputable def anC:List (Nat×An):=[(11,.ord [0,1,2,3,4,5,6,7,8,9,10]),(23,.ord [0,1,2,3,4,5,6,7,8,9,10])]
noncomputable def anB:List (Nat×An):=[(8,.ord [0,1,2,3,4,5,6,7,8,9]),(10,.ord [0,1,2,3,4,5,6,7,8,9,10]),(15,.ord [0,1,2,3,4,5,6,7,8,9,10,11]),(18,.ord [0,1,2,3,4,5,6,7,8,9,10,11,12,13,14,15,16]),(19,.ord [0,1,2,3,4,5,6,7,8,9,10,11,12,13]),(23,.ord [0,1,2,3,4,5,6,7,8,9,10,11,12]),(28,.ord [0,1,2,3,4,5,6,7]),(31,.ord [0,1,2,3,4,5,6,7,8,9,10,11,12])]
noncomputable def anA:List (Nat×An):=[(1,.ord [0,1,2,3,4,5,6,7,8])]
noncomputable def anz:List (Nat×An):=[(3,.ord [0,1,2,3,4,5,6,7,8,9,10,11,12,13,14])]
noncomputable def ark:Tr (List (Nat×An)):=(.nd (.nd (.nd (.nd (.nd (.nd (.nd (.nd .lf none (.nd .lf (some anI) .lf)) none (.nd .lf (some aov) .lf)) none .lf) (some arE) (.nd (.nd (.nd .lf none (.nd .lf (some anF) .lf)) none .lf) none .lf)) (some an7) (.nd (.nd (.nd (.nd .lf none (.nd .lf (some anG) .lf)) (some ars) (.nd .lf (some aot) .lf)) none (.nd (.nd (.nd .lf (some an5) .lf) none .lf) none .lf)) none (.nd .lf (some arv) (.nd .lf none (.nd (.nd .lf (some anO) .lf) none .lf))))) (some an3) (.nd (.nd (.nd (.nd (.nd .lf (some aoG) .lf) none .lf) (some arz) (.nd (.nd (.nd .lf (some an9) .lf) none .lf) (some arn) .lf)) none .lf) none (.nd (.nd (.nd (.nd .lf (some aoC) .lf) (some arp) (.nd .lf (some aoq) .lf)) none (.nd (.nd (.nd .lf (some an1) .lf) none .lf) (some aoL) .lf)) none (.nd (.nd (.nd .lf none (.nd .lf (some anB) .lf)) none (.nd (.nd .lf (some anT) .lf) none .lf)) none (.nd .lf none (.nd (.nd .lf (some anL) .lf) none .lf)))))) none (.nd (.nd (.nd .lf none (.nd (.nd (.nd .lf none (.nd .lf (some anE) .lf)) none .lf) none (.nd (.nd (.nd .lf (some anZ) .lf) (some aoy) .lf) none (.nd .lf (some aok) .lf)))) none (.nd (.nd (.nd (.nd .lf (some aoE) .lf) (some arq) (.nd (.nd .lf (some anX) .lf) (some aor) .lf)) none (.nd .lf none (.nd .lf (some aom) .lf))) none (.nd (.nd .lf none (.nd (.nd .lf (some anU) .lf) none .lf)) none (.nd .lf (some aoI) (.nd (.nd .lf (some anM) .lf) (some aoi) .lf))))) none (.nd (.nd (.nd (.nd (.nd (.nd .lf (some aof) .lf) none .lf) (some art) .lf) (some ary) (.nd (.nd (.nd .lf (some an6) .lf) none (.nd .lf (some anz) .lf)) none (.nd (.nd .lf (some anS) .lf) none .lf))) none (.nd (.nd .lf none (.nd .lf (some aoo) .lf)) none .lf)) none (.nd (.nd (.nd (.nd (.nd .lf (some aoc) .lf) none .lf) (some aro) (.nd .lf (some aop) .lf)) none .lf) (some arC) (.nd .lf none (.nd (.nd .lf (some aow) .lf) none .lf)))))) none (.nd (.nd (.nd (.nd (.nd (.nd (.nd .lf none (.nd .lf (some anH) .lf)) none (.nd (.nd .lf (some anY) .lf) none .lf)) (some arB) (.nd (.nd (.nd .lf (some aoa) .lf) none .lf) none .lf)) (some arD) (.nd .lf none (.nd (.nd (.nd .lf (some an0) .lf) none .lf) none .lf))) none (.nd (.nd (.nd (.nd (.nd .lf (some aoe) .lf) (some aoF) .lf) none (.nd .lf (some aos) .lf)) none (.nd (.nd (.nd .lf (some an4) .lf) none .lf) (some aoN) .lf)) none (.nd (.nd .lf none (.nd (.nd .lf (some anV) .lf) none .lf)) none (.nd .lf none (.nd (.nd .lf (some anN) .lf) none .lf))))) none (.nd (.nd (.nd (.nd (.nd (.nd .lf (some aog) .lf) none .lf) none .lf) none (.nd (.nd (.nd .lf (some an8) .lf) none .lf) none .lf)) none (.nd .lf (some arx) (.nd (.nd .lf (some aox) .lf) (some aoJ) .lf))) none (.nd (.nd (.nd (.nd (.nd .lf (some aod) .lf) (some aoB) .lf) none .lf) none .lf) none (.nd (.nd (.nd .lf none (.nd .lf (some anA) .lf)) none .lf) none (.nd .lf none (.nd (.nd .lf (some anK) .lf) none .lf)))))) none (.nd (.nd (.nd (.nd .lf (some arA) (.nd (.nd .lf (some aoz) .lf) none .lf)) none (.nd (.nd (.nd (.nd .lf (some aob) .lf) none (.nd .lf (some anD) .lf)) none .lf) none (.nd .lf none (.nd (.nd .lf (some anQ) .lf) (some aoj) .lf)))) none (.nd (.nd (.nd (.nd .lf (some aoD) .lf) none .lf) none (.nd (.nd (.nd .lf (some an2) .lf) none .lf) (some aoM) (.nd (.nd .lf (some anR) .lf) none .lf))) none (.nd (.nd (.nd .lf none (.nd .lf (some anC) .lf)) none .lf) none (.nd .lf (some aoH) .lf)))) none (.nd (.nd (.nd (.nd .lf none (.nd .lf (some aou) .lf)) none .lf) none (.nd .lf (some arw) (.nd .lf none (.nd (.nd .lf (some anP) .lf) none .lf)))) none (.nd (.nd (.nd (.nd .lf (some aoA) .lf) none (.nd (.nd .lf (some anW) .lf) none .lf)) none (.nd .lf (some aoK) (.nd .lf (some aol) .lf))) none (.nd (.nd .lf none (.nd .lf (some aon) .lf)) (some aru) (.nd .lf none (.nd (.nd .lf (some anJ) .lf) (some aoh) .lf))))))))
noncomputable def gD:FuncId->Nat->An:=anx ark
noncomputable abbrev Ct(f:Nat):Func:=(Tryz.prog.funcs[f]?).getD default
theorem vJ:j0 Tryz.prog=true:=by kernel_rfl
theorem al7:xQ Tryz.prog 368 (.byte):=⟨Ct 368,by kernel_rfl,by kernel_rfl,by kernel_rfl,by kernel_rfl,trivial⟩
theorem ama:xQ Tryz.prog 210 (.same):=⟨Ct 210,by kernel_rfl,by kernel_rfl,by kernel_rfl,by kernel_rfl,trivial⟩
theorem al8:xQ Tryz.prog 309 (.count):=⟨Ct 309,by kernel_rfl,by kernel_rfl,by kernel_rfl,by kernel_rfl,trivial⟩
theorem al9:xQ Tryz.prog 276 (.EE 5):=⟨Ct 276,by kernel_rfl,by kernel_rfl,by kernel_rfl,by kernel_rfl,⟨26,by kernel_rfl,by kernel_rfl⟩⟩
theorem al6:xQ Tryz.prog 396 (.ado):=⟨Ct 396,by kernel_rfl,by kernel_rfl,by kernel_rfl,by kernel_rfl,trivial⟩
theorem al5:xQ Tryz.prog 408 (.acO):=⟨Ct 408,by kernel_rfl,by kernel_rfl,by kernel_rfl,by kernel_rfl,trivial⟩
theorem al3:xQ Tryz.prog 414 (.Nw):=⟨Ct 414,by kernel_rfl,by kernel_rfl,by kernel_rfl,by kernel_rfl,trivial⟩
theorem alZ:xQ Tryz.prog 419 (.aeh):=⟨Ct 419,by kernel_rfl,by kernel_rfl,by kernel_rfl,by kernel_rfl,trivial⟩
theorem al4:xQ Tryz.prog 413 (.EI false):=⟨Ct 413,by kernel_rfl,by kernel_rfl,by kernel_rfl,by kernel_rfl,trivial⟩
theorem al2:xQ Tryz.prog 415 (.EI true):=⟨Ct 415,by kernel_rfl,by kernel_rfl,by kernel_rfl,by kernel_rfl,trivial⟩
theorem al1:xQ Tryz.prog 416 (.EH false):=⟨Ct 416,by kernel_rfl,by kernel_rfl,by kernel_rfl,by kernel_rfl,trivial⟩
theorem al0:xQ Tryz.prog 418 (.EH true):=⟨Ct 418,by kernel_rfl,by kernel_rfl,by kernel_rfl,by kernel_rfl,trivial⟩
noncomputable def ag7:List (FuncId×Nt):=[(368,.byte),(210,.same),(309,.count),(276,.EE 5),(396,.ado),(408,.acO),(414,.Nw),(419,.aeh),(413,.EI false),(415,.EI true),(416,.EH false),(418,.EH true)]
theorem ada:∀x∈ag7,xQ Tryz.prog x.1 x.2:=by
 intro x hx
 unfold ag7 at hx
 simp only[List.mem_cons,List.mem_nil_iff,or_false] at hx
 rcases hx with rfl|rfl|rfl|rfl|rfl|rfl|rfl|rfl|rfl|rfl|rfl|rfl
 ·exact al7
 ·exact ama
 ·exact al8
 ·exact al9
 ·exact al6
 ·exact al5
 ·exact al3
 ·exact alZ
 ·exact al4
 ·exact al2
 ·exact al1
 ·exact al0
def ovN(f:Nat):Bool:=Nat.beq f 368||Nat.beq f 210||Nat.beq f 309||Nat.beq f 276||Nat.beq f 396||Nat.beq f 408||Nat.beq f 414||Nat.beq f 419||Nat.beq f 413||Nat.beq f 415||Nat.beq f 416||Nat.beq f 418
end Go.X
