/- Part AJ of the proof that the law TopMany answers true at every input, under no condition. -/
import Derived.Test.YtmdbfgemefalmaaGreatDoorQAI
set_option linter.unusedVariables false
set_option maxHeartbeats 2000000
set_option maxRecDepth 100000
namespace Go.X
open Go.Ex Go.Proofs
theorem agX:Y7 128 (λr=>zW 310 [.int .i32 (.ofNat r)] (Te .lf 0 QM) (wH .lf (.bool (mStart.testBit r))))=true:=by kernel_rfl
theorem alR:Y7 128 (λr=>zW 250 [.int .i32 (.ofNat r)] (Te .lf 0 QM) (wH .lf (.bool (Xm.testBit r))))=true:=by kernel_rfl
end Go.X
namespace Go.X
open Go.Ex Go.Proofs
theorem ad1(M:Nat):JQ Tryz.prog M 103 QM Xn:=⟨zW,OK M,λr hr=>zO alS r hr⟩
theorem Wu(M:Nat):JQ Tryz.prog M 310 QM mStart:=⟨zW,OK M,λr hr=>zO agX r hr⟩
theorem ac5(M:Nat):JQ Tryz.prog M 250 QM Xm:=⟨zW,OK M,λr hr=>zO alR r hr⟩
theorem adb(M:Nat):wV Tryz.prog M amg:=
 SX vJ <| LB vJ <| zi (λ_ _ _ _ _ _ _ r hd hh=>Aw (ad1 M) r hd hh) <| zi (λ_ _ _ _ _ _ _ r hd hh=>Aw (Wu M) r hd hh) <|
  zi (λ_ _ _ _ _ _ _ r hd hh=>Aw (ac5 M) r hd hh) (Qw M)
theorem aiw(M:Nat):fY Tryz.prog M Nv:=Ko vJ (adb M) 400
theorem Wi:Nv 8 [] (Te G 0 QM) (wH G (.bool true))=true:=by kernel_rfl
end Go.X
