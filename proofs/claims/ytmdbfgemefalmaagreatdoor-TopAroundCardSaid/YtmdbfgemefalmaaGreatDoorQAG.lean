/- Part AG of the proof that the law TopAround answers true at every input, under no condition. -/
import Derived.Test.YtmdbfgemefalmaaGreatDoorQAF
import Derived.Test.YtmdbfgemefalmaaGreatDoorProg
import Derived.KernelRfl
set_option linter.unusedVariables false
set_option maxHeartbeats 2000000
set_option maxRecDepth 100000
namespace Go.X
open Go.Ex Go.Proofs
noncomputable def YZ:List (Nat×An):=[(1,.ord [0,2,1,3,4])]
noncomputable def Yi:List (Nat×An):=[(8,.fl [0,2,3,4,5] 1 [6,7,8])]
noncomputable def Yh:List (Nat×An):=[(15,.ord (List.range 19)),(17,.ord [0,1,2,5,6,7,3,4,8,9,10,11,12])]
noncomputable def Yg:List (Nat×An):=[(7,.ord [0,2,3,4,1,5])]
noncomputable def Yf:List (Nat×An):=[(5,.ord (List.range 12)),(7,.ord (List.range 9))]
noncomputable def Ye:List (Nat×An):=[(8,.ord (List.range 11))]
noncomputable def Yd:List (Nat×An):=[(11,.ord (List.range 14))]
noncomputable def Yc:List (Nat×An):=[(5,.ord (List.range 10))]
noncomputable def Yb:List (Nat×An):=[(5,.ord (List.range 14))]
noncomputable def Ya:List (Nat×An):=[(3,.ord (List.range 15))]
noncomputable def X9:List (Nat×An):=[(19,.ord (List.range 13))]
noncomputable def X8:List (Nat×An):=[(14,.ord (List.range 11))]
noncomputable def X7:List (Nat×An):=[(1,.ord (List.range 12))]
noncomputable def X6:List (Nat×An):=[(14,.ord (List.range 12)),(15,.ord (List.range 8))]
noncomputable def X5:List (Nat×An):=[(15,.ord (List.range 12))]
noncomputable def X4:List (Nat×An):=[(11,.ord (List.range 6)),(13,.ord (List.range 12))]
noncomputable def X3:List (Nat×An):=[(3,.ord (List.range 12))]
noncomputable def X2:List (Nat×An):=[(10,.ord (List.range 10))]
noncomputable def Wx:List (Nat×An):=[(8,.ord [0,1,2,3,4,6,7,5,8,9,10,11,12]),(10,.ord [0,1,2,3,4,6,7,10,11,13,14,5,8,9,12,15,16,17,18,19,20]),(18,.ord (List.range 19)),(22,.ord (List.range 31)),(26,.ord (List.range 43))]
noncomputable def Ww:List (Nat×An):=[(1,.ord (List.range 18))]
noncomputable def Wv:List (Nat×An):=[(3,.ord (List.range 13))]
noncomputable def Wu:List (Nat×An):=[(1,.ord (List.range 16))]
noncomputable def Wt:List (Nat×An):=[(3,.ord (List.range 13)),(4,.ord (List.range 11))]
noncomputable def Ws:List (Nat×An):=[(4,.fl (List.range 21) 21 [22,23]),(8,.ord (List.range 11))]
noncomputable def Wq:List (Nat×An):=[(6,.ord (List.range 9))]
noncomputable def Wp:List (Nat×An):=[(4,.ord (List.range 14)),(8,.ord (List.range 17))]
noncomputable def Wo:List (Nat×An):=[(3,.ord (List.range 13))]
noncomputable def Wm:List (Nat×An):=[(5,.ord (List.range 14))]
noncomputable def Wl:List (Nat×An):=[(1,.ord (List.range 19)),(3,.ord (List.range 11)),(4,.ord (List.range 15))]
noncomputable def Wj:List (Nat×An):=[(7,.ord [0,1,2,3,4,8,9,5,6,7,10,11,12,13,14])]
noncomputable def Wi:List (Nat×An):=[(15,.ord [0,1,2,3])]
noncomputable def Wh:List (Nat×An):=[(5,.ord (List.range 10))]
noncomputable def Wg:List (Nat×An):=[(6,.ord (List.range 10))]
noncomputable def Wf:List (Nat×An):=[(3,.ord (List.range 8))]
noncomputable def We:List (Nat×An):=[(8,.ord [0,1,3,5,6,7,8,9,11,12,2,4,10,13,14,15])]
noncomputable def Wd:List (Nat×An):=[(1,.ord (List.range 23)),(2,.ord (List.range 47))]
noncomputable def Wc:List (Nat×An):=[(3,.ord (List.range 17))]
noncomputable def Wb:List (Nat×An):=[(14,.ord (List.range 13))]
noncomputable def Wa:List (Nat×An):=[(12,.ord (List.range 13))]
noncomputable def V9:List (Nat×An):=[(1,.ord (List.range 16))]
noncomputable def V8:List (Nat×An):=[(15,.ord (List.range 6))]
noncomputable def V7:List (Nat×An):=[(0,.ord [0,1,2,3,4,5,6,7,9,10,11,12,13,8,14,15])]
noncomputable def V6:List (Nat×An):=[(5,.ord (List.range 13))]
noncomputable def V5:List (Nat×An):=[(3,.ord (List.range 12))]
noncomputable def V4:List (Nat×An):=[(3,.ord (List.range 19))]
noncomputable def V3:List (Nat×An):=[(1,.ord (List.range 17))]
noncomputable def V2:List (Nat×An):=[(5,.ord (List.range 15))]
noncomputable def V1:List (Nat×An):=[(6,.ord (List.range 9))]
noncomputable def V0:List (Nat×An):=[(5,.ord (List.range 16))]
noncomputable def VZ:List (Nat×An):=[(7,.ord (List.range 15)),(8,.ord (List.range 15)),(9,.ord (List.range 15)),(10,.ord (List.range 15)),(17,.ord (List.range 15)),(18,.ord (List.range 15)),(23,.ord (List.range 15))]
noncomputable def VY:List (Nat×An):=[(4,.ord (List.range 15))]
noncomputable def VX:List (Nat×An):=[(1,.ord [0,1,3,2,4,5,6])]
noncomputable def VW:List (Nat×An):=[(1,.ord [0,1,3,2,4,5,6])]
noncomputable def VV:List (Nat×An):=[(1,.ord (List.range 26)),(3,.ord (List.range 15))]
noncomputable def VU:List (Nat×An):=[(7,.ord [0,1,2,3,4,6,7,5,8,9,10,11,12]),(9,.ord [0,1,2,3,4,6,7,10,11,13,14,5,8,9,12,15,16,17,18,19,20]),(17,.ord (List.range 17)),(21,.ord (List.range 27)),(25,.ord (List.range 37))]
noncomputable def VT:List (Nat×An):=[(6,.ord (List.range 7)),(7,.ord (List.range 9)),(14,.ord (List.range 11)),(31,.ord (List.range 11))]
noncomputable def VS:List (Nat×An):=[(6,.ord (List.range 8))]
noncomputable def VR:List (Nat×An):=[(1,.ord (List.range 19)),(2,.ord (List.range 39))]
noncomputable def VQ:List (Nat×An):=[(7,.ord (List.range 15))]
noncomputable def VP:List (Nat×An):=[(0,.ord (List.range 6))]
noncomputable def X1:Tr (List (Nat×An)):=(.nd (.nd (.nd (.nd (.nd (.nd (.nd .lf none (.nd .lf (some Wc) .lf)) none .lf) (some Yi) (.nd (.nd (.nd .lf none (.nd .lf (some VP) .lf)) none .lf) none .lf)) (some YZ) (.nd (.nd (.nd (.nd .lf none (.nd .lf (some VQ) .lf)) (some X6) (.nd .lf (some Wa) .lf)) none (.nd (.nd .lf (some Wg) .lf) none .lf)) none (.nd .lf (some X9) .lf))) none (.nd (.nd (.nd (.nd (.nd .lf (some Wq) .lf) none .lf) (some Yd) (.nd (.nd (.nd .lf (some VY) .lf) none .lf) (some X2) .lf)) none .lf) none (.nd (.nd (.nd (.nd .lf (some Wl) .lf) (some X4) (.nd .lf (some V9) .lf)) none (.nd .lf (some Wv) .lf)) none .lf))) none (.nd (.nd (.nd .lf none (.nd .lf none (.nd (.nd (.nd .lf (some VW) .lf) (some Wf) .lf) none .lf))) none (.nd (.nd (.nd (.nd .lf (some Wo) .lf) (some X5) (.nd (.nd .lf (some VV) .lf) none .lf)) none .lf) none (.nd .lf none (.nd .lf none (.nd .lf (some V4) .lf))))) none (.nd (.nd (.nd (.nd (.nd (.nd .lf (some V2) .lf) none .lf) (some X7) .lf) none (.nd .lf none (.nd (.nd .lf (some VT) .lf) none .lf))) none (.nd (.nd .lf none (.nd .lf (some V7) .lf)) none .lf)) none (.nd (.nd (.nd (.nd (.nd .lf (some V0) .lf) none .lf) (some X3) (.nd .lf (some V8) .lf)) none .lf) (some Yg) (.nd .lf none (.nd (.nd .lf (some Wd) .lf) none .lf)))))) none (.nd (.nd (.nd (.nd (.nd .lf (some Yf) .lf) (some Yh) (.nd .lf none (.nd (.nd (.nd .lf (some VX) .lf) none .lf) none .lf))) none (.nd (.nd (.nd (.nd (.nd .lf (some V1) .lf) (some Wp) .lf) none .lf) none (.nd .lf (some Wx) .lf)) none .lf)) none (.nd (.nd .lf none (.nd .lf (some Yb) (.nd (.nd .lf (some We) .lf) (some Wt) .lf))) none (.nd (.nd (.nd (.nd .lf (some Wj) .lf) none .lf) none .lf) none .lf))) none (.nd (.nd (.nd (.nd .lf (some Ye) (.nd (.nd .lf (some Wh) .lf) none .lf)) none (.nd (.nd (.nd (.nd .lf (some VZ) .lf) none .lf) none .lf) none (.nd .lf none (.nd (.nd .lf (some VR) .lf) (some V5) .lf)))) none (.nd (.nd (.nd (.nd .lf (some Wm) .lf) none .lf) none (.nd .lf (some Ww) (.nd (.nd .lf (some VS) .lf) none .lf))) none (.nd .lf none (.nd .lf (some Ws) .lf)))) none (.nd (.nd (.nd (.nd .lf none (.nd .lf (some Wb) .lf)) none .lf) none (.nd .lf (some Ya) .lf)) none (.nd (.nd (.nd (.nd .lf (some Wi) .lf) none (.nd (.nd .lf (some VU) .lf) none .lf)) (some Yc) (.nd .lf (some Wu) (.nd .lf (some V6) .lf))) none (.nd .lf (some X8) (.nd .lf none (.nd .lf (some V3) .lf))))))))
noncomputable def tF:jt->Nat->An:=VO X1
noncomputable abbrev y8(f:Nat):Func:=(Tryz.prog.funcs[f]?).getD default
theorem qS:fF Tryz.prog=true:=by kernel_rfl
theorem Vm:wc Tryz.prog 368 (.byte):=⟨y8 368,by kernel_rfl,by kernel_rfl,by kernel_rfl,by kernel_rfl,trivial⟩
theorem Vp:wc Tryz.prog 210 (.same):=⟨y8 210,by kernel_rfl,by kernel_rfl,by kernel_rfl,by kernel_rfl,trivial⟩
theorem Vn:wc Tryz.prog 309 (.count):=⟨y8 309,by kernel_rfl,by kernel_rfl,by kernel_rfl,by kernel_rfl,trivial⟩
theorem Vo:wc Tryz.prog 276 (.AK 5):=⟨y8 276,by kernel_rfl,by kernel_rfl,by kernel_rfl,by kernel_rfl,⟨26,by kernel_rfl,by kernel_rfl⟩⟩
theorem Vl:wc Tryz.prog 396 (.P0):=⟨y8 396,by kernel_rfl,by kernel_rfl,by kernel_rfl,by kernel_rfl,trivial⟩
theorem Vk:wc Tryz.prog 408 (.Pg):=⟨y8 408,by kernel_rfl,by kernel_rfl,by kernel_rfl,by kernel_rfl,trivial⟩
theorem Vi:wc Tryz.prog 414 (.WV):=⟨y8 414,by kernel_rfl,by kernel_rfl,by kernel_rfl,by kernel_rfl,trivial⟩
theorem Ve:wc Tryz.prog 419 (.QH):=⟨y8 419,by kernel_rfl,by kernel_rfl,by kernel_rfl,by kernel_rfl,trivial⟩
theorem Vj:wc Tryz.prog 413 (.AQ false):=⟨y8 413,by kernel_rfl,by kernel_rfl,by kernel_rfl,by kernel_rfl,trivial⟩
theorem Vh:wc Tryz.prog 415 (.AQ true):=⟨y8 415,by kernel_rfl,by kernel_rfl,by kernel_rfl,by kernel_rfl,trivial⟩
theorem Vg:wc Tryz.prog 416 (.AP false):=⟨y8 416,by kernel_rfl,by kernel_rfl,by kernel_rfl,by kernel_rfl,trivial⟩
theorem Vf:wc Tryz.prog 418 (.AP true):=⟨y8 418,by kernel_rfl,by kernel_rfl,by kernel_rfl,by kernel_rfl,trivial⟩
noncomputable def SM:List (jt×Nt):=[(368,.byte),(210,.same),(309,.count),(276,.AK 5),(396,.P0),(408,.Pg),(414,.WV),(419,.QH),(413,.AQ false),(415,.AQ true),(416,.AP false),(418,.AP true)]
theorem PQ:∀x∈SM,wc Tryz.prog x.1 x.2:=by
 intro x h
 unfold SM at h
 simp only[List.mem_cons,List.mem_nil_iff,or_false] at h
 rcases h with rfl|rfl|rfl|rfl|rfl|rfl|rfl|rfl|rfl|rfl|rfl|rfl
 .exact Vm
 .exact Vp
 .exact Vn
 .exact Vo
 .exact Vl
 .exact Vk
 .exact Vi
 .exact Ve
 .exact Vj
 .exact Vh
 .exact Vg
 .exact Vf
def YM(f:Nat):Bool:=Nat.beq f 368||Nat.beq f 210||Nat.beq f 309||Nat.beq f 276||Nat.beq f 396||Nat.beq f 408||Nat.beq f 414||Nat.beq f 419||Nat.beq f 413||Nat.beq f 415||Nat.beq f 416||Nat.beq f 418
end Go.X
