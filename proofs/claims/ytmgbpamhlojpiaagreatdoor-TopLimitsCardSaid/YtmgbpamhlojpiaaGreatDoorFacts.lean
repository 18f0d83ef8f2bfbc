/- The closed facts of the row, each by itself. -/
import Derived.Test.YtmgbpamhlojpiaaGreatDoorCards
import Derived.SevenTiedAt
import Derived.JoinedOf
namespace Go.Proofs.YtmgbpamhlojpiaaGreatDoor
open Go
theorem fact00 : (Rows.topLimitsRow.wf (OpenSpec.ofChange Rows.topLimitsSpec)) = true := by kernel_rfl
theorem fact01 : (laidOutB Tryz.prog) = true := by kernel_rfl
theorem fact02 : (mapsRowed Tryz.prog) = true := by kernel_rfl
theorem fact03 : (Tryz.f3.params.all (Tryz.prog.readableRec ·)) = true := by kernel_rfl
theorem fact04 : (namedTie Tryz.prog Rows.topLimitsRow.named Rows.topLimitsSpec.vars) = true := by kernel_rfl
theorem fact05 : ((Rows.topLimitsRow.stops == [])) = true := by kernel_rfl
theorem fact06 : ((Tryz.prog.stops == [])) = true := by kernel_rfl
theorem fact07 : ((Rows.topLimitsRow.knobs == [])) = true := by kernel_rfl
theorem fact08 : ((Tryz.prog.stopKnobs == [])) = true := by kernel_rfl
theorem fact09 : ((Rows.topLimitsRow.inPlace == Tryz.prog.inPlace 3)) = true := by kernel_rfl
theorem fact10 : ((Rows.topLimitsRow.unfollowed == Tryz.prog.unfollowed 3)) = true := by kernel_rfl
theorem fact11 : ((Rows.topLimitsRow.recurses == Tryz.prog.recurses 3)) = true := by kernel_rfl
theorem fact12 : ((Rows.topLimitsRow.named == Tryz.prog.varsNamed 3)) = true := by kernel_rfl
theorem fact13 : ((Rows.topLimitsRow.maps == (Tryz.f3.params.toList ++ Rows.topLimitsSpec.plain.varTypes Tryz.prog).any (Tryz.prog.mapsRec ·))) = true := by kernel_rfl
theorem fact14 : ((Rows.topLimitsRow.ifaces == (Tryz.f3.params.toList ++ Rows.topLimitsSpec.plain.varTypes Tryz.prog).any (Tryz.prog.ifacesRec ·))) = true := by kernel_rfl
theorem fact15 : ((Rows.topLimitsRow.mapsOut == Tryz.prog.mapsAmong Tryz.f3.resultTypes.toList)) = true := by kernel_rfl
theorem fact16 : ((Rows.topLimitsRow.loops == (Tryz.f3.params.toList ++ Rows.topLimitsSpec.plain.varTypes Tryz.prog).any (Tryz.prog.loopsFrom ·))) = true := by kernel_rfl
theorem fact17 : ((Rows.topLimitsRow.wideKeys == (Tryz.f3.params.toList ++ Rows.topLimitsSpec.plain.varTypes Tryz.prog ++ Tryz.f3.resultTypes.toList).any (Tryz.prog.wideKeysFrom ·))) = true := by kernel_rfl
theorem fact18 : (Rows.topLimitsSpec.vars.all (Tryz.prog.varReadable ·)) = true := by kernel_rfl
theorem fact19 : (Tryz.f3.resultTypes.all (fun t => Tryz.prog.readableRec t && decide (t < Tryz.prog.types.size))) = true := by kernel_rfl
theorem fact20 : ((Rows.topLimitsRow.ifacesOut == Tryz.f3.resultTypes.toList.any (Tryz.prog.ifacesRec ·))) = true := by kernel_rfl
theorem fact21 : ((Rows.topLimitsRow.loopsOut == Tryz.f3.resultTypes.toList.any (Tryz.prog.loopsFrom ·))) = true := by kernel_rfl
theorem fact22 : ((Rows.topLimitsRow.plainKeys == Tryz.prog.plainKeys)) = true := by kernel_rfl
theorem fact23 : (Rows.topLimitsRow.shortTexts.isNone) = true := by kernel_rfl
theorem fact24 : (Tryz.prog.stopsHeard) = true := by kernel_rfl
theorem fact25 : (Tryz.prog.mayEnter) = true := by kernel_rfl
theorem fact26 : ((Rows.topLimitsRow.lifted == Tryz.prog.liftsFinal)) = true := by kernel_rfl
theorem fact27 : ((Tryz.prog.make == some Rows.topLimitsRow.make)) = true := by kernel_rfl
theorem fact28 : ((Rows.topLimitsRow.kinds == (if Rows.topLimitsRow.domain.isEmpty then [] else Tryz.f3.params.toList.map fun t => match Tryz.prog.underlying t with | some (.int k) => some k | _ => none))) = true := by kernel_rfl
theorem fact29 : ((Rows.topLimitsRow.pinned == Rows.topLimitsRow.pinnedBy)) = true := by kernel_rfl
theorem fact30 : ((Rows.topLimitsRow.veiled == (Tryz.f3.params.toList ++ Rows.topLimitsSpec.plain.varTypes Tryz.prog ++ Tryz.f3.resultTypes.toList).any (Tryz.prog.veiledRec ·))) = true := by kernel_rfl
theorem fact31 : (Rows.topLimitsRow.veiledFits Tryz.prog Tryz.f3.params.toList (Tryz.f3.params.toList ++ Rows.topLimitsSpec.plain.varTypes Tryz.prog ++ Tryz.f3.resultTypes.toList)) = true := by kernel_rfl
theorem andI {a b : Bool} (h : a = true) (k : b = true) : (a && b) = true := by rw [h, k]; rfl
set_option maxRecDepth 100000 in
theorem facts : joinedFacts Tryz.prog 3 Tryz.f3 Rows.topLimitsSpec Rows.topLimitsRow = true := by
  unfold joinedFacts
  exact (andI (andI (andI (andI (andI (andI (andI (andI (andI (andI (andI (andI (andI (andI (andI (andI (andI (andI (andI (andI (andI (andI (andI (andI (andI (andI (andI (andI (andI (andI (andI fact00 fact01) fact02) fact03) fact04) fact05) fact06) fact07) fact08) fact09) fact10) fact11) fact12) fact13) fact14) fact15) fact16) fact17) fact18) fact19) fact20) fact21) fact22) fact23) fact24) fact25) fact26) fact27) fact28) fact29) fact30) fact31)
theorem byText : Rows.topLimitsRow.wfByText (OpenSpec.ofChange Rows.topLimitsSpec) = true := by kernel_rfl
theorem mainIs : Tryz.prog.mainIs = some (true, "c0480e44363ea9868a1c29da779d7bbc63c388f4289b13aab6a7e54407d69855".toList) := by kernel_rfl
theorem looks : true = Tryz.prog.looks [] := by kernel_rfl
theorem goes : false = Rows.topLimitsRow.goesBy Tryz.prog := by kernel_rfl
theorem named3 : Tryz.prog.funcNamed "bracken/brackentop.TopLimits" = some 3 := by kernel_rfl
end Go.Proofs.YtmgbpamhlojpiaaGreatDoor
