/- Part AJ of the proof that the law TopAround answers true at every input, under no condition. -/
import Derived.Test.YtmdbfgemefalmaaGreatDoorQAI
set_option linter.unusedVariables false
set_option maxHeartbeats 2000000
set_option maxRecDepth 100000
namespace Go.X
open Go.Ex Go.Proofs
theorem Sr:Oa 128 (λr=>KQ 310 [.int .i32 (.ofNat r)] (Fp .lf 0 Cl) (wV .lf (.bool (mStart.testBit r))))=true:=by kernel_rfl
theorem UT:Oa 128 (λr=>KQ 250 [.int .i32 (.ofNat r)] (Fp .lf 0 Cl) (wV .lf (.bool (yP.testBit r))))=true:=by kernel_rfl
theorem Qr(M:Nat):D6 Tryz.prog M 103 Cl M4:=⟨KQ,sR M,λr h=>xN U7 r h⟩
theorem Ah(M:Nat):D6 Tryz.prog M 310 Cl mStart:=⟨KQ,sR M,λr h=>xN Sr r h⟩
theorem PK(M:Nat):D6 Tryz.prog M 250 Cl yP:=⟨KQ,sR M,λr h=>xN UT r h⟩
theorem PR(M:Nat):vA Tryz.prog M Vr:=
 Km qS <| E2 qS <| xi (λ_ _ _ _ _ _ _ r h u=>xZ (Qr M) r h u) <| xi (λ_ _ _ _ _ _ _ r h u=>xZ (Ah M) r h u) <|
  xi (λ_ _ _ _ _ _ _ r h u=>xZ (PK M) r h u) (IS M)
theorem kH(M:Nat):jb Tryz.prog M za:=Er qS (PR M) 400
theorem L9:za 8 [] (Fp G 0 Cl) (wV G (.bool true))=true:=by kernel_rfl
end Go.X
