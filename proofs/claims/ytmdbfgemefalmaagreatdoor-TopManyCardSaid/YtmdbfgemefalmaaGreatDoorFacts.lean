/- Closed facts of the row. -/
import Derived.Test.YtmdbfgemefalmaaGreatDoorCards
import Derived.SevenTiedAt
import Derived.JoinedOf
set_option linter.unusedVariables false
set_option maxHeartbeats 2000000
set_option maxRecDepth 100000
namespace Go.Proofs.YtmdbfgemefalmaaGreatDoor
open Go
theorem aii:(Rows.topManyRow.wf (OpenSpec.ofChange Rows.topManySpec))=true:=by kernel_rfl
theorem aih:(laidOutB Tryz.prog)=true:=by kernel_rfl
theorem aif:(mapsRowed Tryz.prog)=true:=by kernel_rfl
theorem aie:(Tryz.f3.params.all (Tryz.prog.readableRec ·))=true:=by kernel_rfl
theorem aid:(namedTie Tryz.prog Rows.topManyRow.named Rows.topManySpec.vars)=true:=by kernel_rfl
theorem aic:((Rows.topManyRow.stops==[]))=true:=by kernel_rfl
theorem aib:((Tryz.prog.stops==[]))=true:=by kernel_rfl
theorem aia:((Rows.topManyRow.knobs==[]))=true:=by kernel_rfl
theorem ah9:((Tryz.prog.stopKnobs==[]))=true:=by kernel_rfl
theorem ah8:((Rows.topManyRow.inPlace==Tryz.prog.inPlace 3))=true:=by kernel_rfl
theorem ah7:((Rows.topManyRow.unfollowed==Tryz.prog.unfollowed 3))=true:=by kernel_rfl
theorem ah6:((Rows.topManyRow.recurses==Tryz.prog.recurses 3))=true:=by kernel_rfl
theorem ah5:((Rows.topManyRow.named==Tryz.prog.varsNamed 3))=true:=by kernel_rfl
theorem ah4:((Rows.topManyRow.maps==(Tryz.f3.params.toList++Rows.topManySpec.plain.varTypes Tryz.prog).any (Tryz.prog.mapsRec ·)))=true:=by kernel_rfl
theorem ah3:((Rows.topManyRow.ifaces==(Tryz.f3.params.toList++Rows.topManySpec.plain.varTypes Tryz.prog).any (Tryz.prog.ifacesRec ·)))=true:=by kernel_rfl
theorem ah2:((Rows.topManyRow.mapsOut==Tryz.prog.mapsAmong Tryz.f3.resultTypes.toList))=true:=by kernel_rfl
theorem ah1:((Rows.topManyRow.loops==(Tryz.f3.params.toList++Rows.topManySpec.plain.varTypes Tryz.prog).any (Tryz.prog.loopsFrom ·)))=true:=by kernel_rfl
theorem ah0:((Rows.topManyRow.wideKeys==(Tryz.f3.params.toList++Rows.topManySpec.plain.varTypes Tryz.prog++Tryz.f3.resultTypes.toList).any (Tryz.prog.wideKeysFrom ·)))=true:=by kernel_rfl
theorem ahZ:(Rows.topManySpec.vars.all (Tryz.prog.varReadable ·))=true:=by kernel_rfl
theorem ahY:(Tryz.f3.resultTypes.all (λt=>Tryz.prog.readableRec t&&decide (t<Tryz.prog.types.size)))=true:=by kernel_rfl
theorem ahX:((Rows.topManyRow.ifacesOut==Tryz.f3.resultTypes.toList.any (Tryz.prog.ifacesRec ·)))=true:=by kernel_rfl
theorem ahW:((Rows.topManyRow.loopsOut==Tryz.f3.resultTypes.toList.any (Tryz.prog.loopsFrom ·)))=true:=by kernel_rfl
theorem ahV:((Rows.topManyRow.plainKeys==Tryz.prog.plainKeys))=true:=by kernel_rfl
theorem ahU:(Rows.topManyRow.shortTexts.isNone)=true:=by kernel_rfl
theorem ahT:(Tryz.prog.stopsHeard)=true:=by kernel_rfl
theorem ahS:(Tryz.prog.mayEnter)=true:=by kernel_rfl
theorem ahR:((Rows.topManyRow.lifted==Tryz.prog.liftsFinal))=true:=by kernel_rfl
theorem ahQ:((Tryz.prog.make==some Rows.topManyRow.make))=true:=by kernel_rfl
theorem ahP:((Rows.topManyRow.kinds==(if Rows.topManyRow.domain.isEmpty then[] else Tryz.f3.params.toList.map λt=>match Tryz.prog.underlying t with|some (.int k)=>some k|_=>none)))=true:=by kernel_rfl
theorem ahO:((Rows.topManyRow.pinned==Rows.topManyRow.pinnedBy))=true:=by kernel_rfl
theorem ahN:((Rows.topManyRow.veiled==(Tryz.f3.params.toList++Rows.topManySpec.plain.varTypes Tryz.prog++Tryz.f3.resultTypes.toList).any (Tryz.prog.veiledRec ·)))=true:=by kernel_rfl
theorem ahM:(Rows.topManyRow.veiledFits Tryz.prog Tryz.f3.params.toList (Tryz.f3.params.toList++Rows.topManySpec.plain.varTypes Tryz.prog++Tryz.f3.resultTypes.toList))=true:=by kernel_rfl
theorem asO{a b:Bool}(h:a=true)(k:b=true):(a&&b)=true:=by rw[h,k];rfl
set_option maxRecDepth 100000 in
theorem facts:joinedFacts Tryz.prog 3 Tryz.f3 Rows.topManySpec Rows.topManyRow=true:=by
 unfold joinedFacts
 exact(asO (asO (asO (asO (asO (asO (asO (asO (asO (asO (asO (asO (asO (asO (asO (asO (asO (asO (asO (asO (asO (asO (asO (asO (asO (asO (asO (asO (asO (asO (asO aii aih) aif) aie) aid) aic) aib) aia) ah9) ah8) ah7) ah6) ah5) ah4) ah3) ah2) ah1) ah0) ahZ) ahY) ahX) ahW) ahV) ahU) ahT) ahS) ahR) ahQ) ahP) ahO) ahN) ahM)
end Go.Proofs.YtmdbfgemefalmaaGreatDoor
