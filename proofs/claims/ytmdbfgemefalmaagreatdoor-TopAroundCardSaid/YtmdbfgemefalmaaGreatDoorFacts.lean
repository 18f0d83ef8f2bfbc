/- Closed facts of the row. -/
import Derived.Test.YtmdbfgemefalmaaGreatDoorCards
import Derived.SevenTiedAt
import Derived.JoinedOf
set_option linter.unusedVariables false
set_option maxHeartbeats 2000000
set_option maxRecDepth 100000
namespace Go.Proofs.YtmdbfgemefalmaaGreatDoor
open Go
theorem Tw:(Rows.topAroundRow.wf (OpenSpec.ofChange Rows.topAroundSpec))=true:=by kernel_rfl
theorem Nv:(laidOutB Tryz.prog)=true:=by kernel_rfl
theorem Tv:(mapsRowed Tryz.prog)=true:=by kernel_rfl
theorem Tu:(Tryz.f4.params.all (Tryz.prog.readableRec ·))=true:=by kernel_rfl
theorem Tt:(namedTie Tryz.prog Rows.topAroundRow.named Rows.topAroundSpec.vars)=true:=by kernel_rfl
theorem Ts:((Rows.topAroundRow.stops==[]))=true:=by kernel_rfl
theorem Tq:((Tryz.prog.stops==[]))=true:=by kernel_rfl
theorem Tp:((Rows.topAroundRow.knobs==[]))=true:=by kernel_rfl
theorem To:((Tryz.prog.stopKnobs==[]))=true:=by kernel_rfl
theorem Tn:((Rows.topAroundRow.inPlace==Tryz.prog.inPlace 4))=true:=by kernel_rfl
theorem Tm:((Rows.topAroundRow.unfollowed==Tryz.prog.unfollowed 4))=true:=by kernel_rfl
theorem Tl:((Rows.topAroundRow.recurses==Tryz.prog.recurses 4))=true:=by kernel_rfl
theorem Tk:((Rows.topAroundRow.named==Tryz.prog.varsNamed 4))=true:=by kernel_rfl
theorem Tj:((Rows.topAroundRow.maps==(Tryz.f4.params.toList++Rows.topAroundSpec.plain.varTypes Tryz.prog).any (Tryz.prog.mapsRec ·)))=true:=by kernel_rfl
theorem Ti:((Rows.topAroundRow.ifaces==(Tryz.f4.params.toList++Rows.topAroundSpec.plain.varTypes Tryz.prog).any (Tryz.prog.ifacesRec ·)))=true:=by kernel_rfl
theorem Th:((Rows.topAroundRow.mapsOut==Tryz.prog.mapsAmong Tryz.f4.resultTypes.toList))=true:=by kernel_rfl
theorem Tg:((Rows.topAroundRow.loops==(Tryz.f4.params.toList++Rows.topAroundSpec.plain.varTypes Tryz.prog).any (Tryz.prog.loopsFrom ·)))=true:=by kernel_rfl
theorem Tf:((Rows.topAroundRow.wideKeys==(Tryz.f4.params.toList++Rows.topAroundSpec.plain.varTypes Tryz.prog++Tryz.f4.resultTypes.toList).any (Tryz.prog.wideKeysFrom ·)))=true:=by kernel_rfl
theorem Te:(Rows.topAroundSpec.vars.all (Tryz.prog.varReadable ·))=true:=by kernel_rfl
theorem Td:(Tryz.f4.resultTypes.all (λt=>Tryz.prog.readableRec t&&decide (t<Tryz.prog.types.size)))=true:=by kernel_rfl
theorem Tc:((Rows.topAroundRow.ifacesOut==Tryz.f4.resultTypes.toList.any (Tryz.prog.ifacesRec ·)))=true:=by kernel_rfl
theorem Tb:((Rows.topAroundRow.loopsOut==Tryz.f4.resultTypes.toList.any (Tryz.prog.loopsFrom ·)))=true:=by kernel_rfl
theorem Ta:((Rows.topAroundRow.plainKeys==Tryz.prog.plainKeys))=true:=by kernel_rfl
theorem S9:(Rows.topAroundRow.shortTexts.isNone)=true:=by kernel_rfl
theorem S8:(Tryz.prog.stopsHeard)=true:=by kernel_rfl
theorem S7:(Tryz.prog.mayEnter)=true:=by kernel_rfl
theorem S6:((Rows.topAroundRow.lifted==Tryz.prog.liftsFinal))=true:=by kernel_rfl
theorem S5:((Tryz.prog.make==some Rows.topAroundRow.make))=true:=by kernel_rfl
theorem S4:((Rows.topAroundRow.kinds==(if Rows.topAroundRow.domain.isEmpty then[] else Tryz.f4.params.toList.map λt=>match Tryz.prog.underlying t with|some (.int k)=>some k|_=>none)))=true:=by kernel_rfl
theorem S3:((Rows.topAroundRow.pinned==Rows.topAroundRow.pinnedBy))=true:=by kernel_rfl
theorem S2:((Rows.topAroundRow.veiled==(Tryz.f4.params.toList++Rows.topAroundSpec.plain.varTypes Tryz.prog++Tryz.f4.resultTypes.toList).any (Tryz.prog.veiledRec ·)))=true:=by kernel_rfl
theorem S1:(Rows.topAroundRow.veiledFits Tryz.prog Tryz.f4.params.toList (Tryz.f4.params.toList++Rows.topAroundSpec.plain.varTypes Tryz.prog++Tryz.f4.resultTypes.toList))=true:=by kernel_rfl
theorem nC{a b:Bool}(h:a=true)(k:b=true):(a&&b)=true:=by rw[h,k];rfl
set_option maxRecDepth 100000 in
theorem facts:joinedFacts Tryz.prog 4 Tryz.f4 Rows.topAroundSpec Rows.topAroundRow=true:=by
 unfold joinedFacts
 exact(nC (nC (nC (nC (nC (nC (nC (nC (nC (nC (nC (nC (nC (nC (nC (nC (nC (nC (nC (nC (nC (nC (nC (nC (nC (nC (nC (nC (nC (nC (nC Tw Nv) Tv) Tu) Tt) Ts) Tq) Tp) To) Tn) Tm) Tl) Tk) Tj) Ti) Th) Tg) Tf) Te) Td) Tc) Tb) Ta) S9) S8) S7) S6) S5) S4) S3) S2) S1)
end Go.Proofs.YtmdbfgemefalmaaGreatDoor
