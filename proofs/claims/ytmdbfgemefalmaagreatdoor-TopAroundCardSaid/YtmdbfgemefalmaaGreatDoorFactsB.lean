/- Closed facts that the card asks. -/
import Derived.Test.YtmdbfgemefalmaaGreatDoorCards
import Derived.SevenTiedAt
import Derived.JoinedOf
set_option linter.unusedVariables false
set_option maxHeartbeats 2000000
set_option maxRecDepth 100000
namespace Go.Proofs.YtmdbfgemefalmaaGreatDoor
open Go
theorem TL:Rows.topAroundRow.wfByText (OpenSpec.ofChange Rows.topAroundSpec)=true:=by kernel_rfl
theorem mainIs:Tryz.prog.mainIs=some (true,"74fb7dd89415cd04b538cf0cfa897cbe257506c771c62d9592dfd590cb617ed2".toList):=by kernel_rfl
theorem looks:true=Tryz.prog.looks []:=by kernel_rfl
theorem MZ:Tryz.prog.funcNamed "bracken/brackentop.TopAround" =some 4:=by kernel_rfl
end Go.Proofs.YtmdbfgemefalmaaGreatDoor
