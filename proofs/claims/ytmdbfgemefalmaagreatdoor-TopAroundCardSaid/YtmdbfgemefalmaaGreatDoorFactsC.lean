/- A closed fact that the card asks. -/
import Derived.Test.YtmdbfgemefalmaaGreatDoorCards
import Derived.SevenTiedAt
import Derived.JoinedOf
set_option linter.unusedVariables false
set_option maxHeartbeats 2000000
set_option maxRecDepth 100000
namespace Go.Proofs.YtmdbfgemefalmaaGreatDoor
open Go
theorem noGo:(Tryz.prog.funcs.toList.any Func.goes)=false:=by kernel_rfl
theorem goes_of(P:Program)(h:P.funcs.toList.any Func.goes=false)(f:FuncId):P.goes f=false:=by
 have h1:∀g:FuncId,(P.funcs[g]?).any Func.goes=false:=λg=>by
  cases hg:P.funcs[g]? with
  |none=>rfl
  |some fn=>
   have hm:fn∈P.funcs.toList:=Array.mem_toList_iff.2 (Array.mem_of_getElem? hg)
   have:=List.any_eq_false.1 h fn hm
   simpa using this
 have h2:P.funcs.any Func.goes=false:=by rw[<-Array.any_toList];exact h
 unfold Program.goes
 rw[h2,Bool.and_false,Bool.or_false,List.any_eq_false]
 intro g _
 rw[h1 g]
 simp
theorem goesAt_of(P:Program)(h:P.funcs.toList.any Func.goes=false)(s:Start)(n:String):P.goesAt s n=false:=by
 unfold Program.goesAt Program.goesFrom
 rw[Bool.or_eq_false_iff]
 refine⟨?_,?_⟩
 .cases P.funcNamed n with
  |none=>rfl
  |some f=>exact goes_of P h f
 .split
  .rfl
  .rw[List.any_eq_false]
   intro f _
   rw[goes_of P h f]
   simp
theorem goes:false=Rows.topAroundRow.goesBy Tryz.prog:=(goesAt_of Tryz.prog noGo Rows.topAroundRow.start Rows.topAroundRow.func).symm
end Go.Proofs.YtmdbfgemefalmaaGreatDoor
