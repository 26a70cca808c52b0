/- The row's closed facts, one by one. -/
import Derived.Test.YthbfflleggnoaaaGreatDoorRows
import Derived.JoinedOf
import Derived.KernelRfl
section
set_option linter.unusedSimpArgs false
set_option linter.unusedVariables false
namespace Go.Proofs.YthbfflleggnoaaaGreatDoor
open Go
set_option maxRecDepth 100000
theorem and_mk {a b : Bool} (ha : a = true) (hb : b = true) : (a && b) = true := by rw [ha, hb]; rfl
theorem archiveGets_facts_0 : (Rows.archiveGetsRow.wf (OpenSpec.ofChange Rows.archiveGetsSpec)) = true := by kernel_rfl
theorem archiveGets_facts_1 : (laidOutB Tryz.checked.prog) = true := by kernel_rfl
theorem archiveGets_facts_2 : (mapsRowed Tryz.checked.prog) = true := by kernel_rfl
theorem archiveGets_facts_3 : (Tryz.f6.params.all (Tryz.checked.prog.readableRec ·)) = true := by kernel_rfl
theorem archiveGets_facts_4 : (namedTie Tryz.checked.prog Rows.archiveGetsRow.named Rows.archiveGetsSpec.vars) = true := by kernel_rfl
theorem archiveGets_facts_5 : ((Rows.archiveGetsRow.stops == [])) = true := by kernel_rfl
theorem archiveGets_facts_6 : ((Tryz.checked.prog.stops == [])) = true := by kernel_rfl
theorem archiveGets_facts_7 : ((Rows.archiveGetsRow.knobs == [])) = true := by kernel_rfl
theorem archiveGets_facts_8 : ((Tryz.checked.prog.stopKnobs == [])) = true := by kernel_rfl
theorem archiveGets_facts_9 : ((Rows.archiveGetsRow.inPlace == Tryz.checked.prog.inPlace 6)) = true := by kernel_rfl
theorem archiveGets_facts_10 : ((Rows.archiveGetsRow.unfollowed == Tryz.checked.prog.unfollowed 6)) = true := by kernel_rfl
theorem archiveGets_facts_11 : ((Rows.archiveGetsRow.recurses == Tryz.checked.prog.recurses 6)) = true := by kernel_rfl
theorem archiveGets_facts_12 : ((Rows.archiveGetsRow.named == Tryz.checked.prog.varsNamed 6)) = true := by kernel_rfl
theorem archiveGets_facts_13 : ((Rows.archiveGetsRow.maps == (Tryz.f6.params.toList ++ Rows.archiveGetsSpec.plain.varTypes Tryz.checked.prog).any (Tryz.checked.prog.mapsRec ·))) = true := by kernel_rfl
theorem archiveGets_facts_14 : ((Rows.archiveGetsRow.ifaces == (Tryz.f6.params.toList ++ Rows.archiveGetsSpec.plain.varTypes Tryz.checked.prog).any (Tryz.checked.prog.ifacesRec ·))) = true := by kernel_rfl
theorem archiveGets_facts_15 : ((Rows.archiveGetsRow.mapsOut == Tryz.checked.prog.mapsAmong Tryz.f6.resultTypes.toList)) = true := by kernel_rfl
theorem archiveGets_facts_16 : ((Rows.archiveGetsRow.loops == (Tryz.f6.params.toList ++ Rows.archiveGetsSpec.plain.varTypes Tryz.checked.prog).any (Tryz.checked.prog.loopsFrom ·))) = true := by kernel_rfl
theorem archiveGets_facts_17 : ((Rows.archiveGetsRow.wideKeys == (Tryz.f6.params.toList ++ Rows.archiveGetsSpec.plain.varTypes Tryz.checked.prog ++ Tryz.f6.resultTypes.toList).any (Tryz.checked.prog.wideKeysFrom ·))) = true := by kernel_rfl
theorem archiveGets_facts_18 : (Rows.archiveGetsSpec.vars.all (Tryz.checked.prog.varReadable ·)) = true := by kernel_rfl
theorem archiveGets_facts_19 : (Tryz.f6.resultTypes.all (fun t => Tryz.checked.prog.readableRec t && decide (t < Tryz.checked.prog.types.size))) = true := by kernel_rfl
theorem archiveGets_facts_20 : ((Rows.archiveGetsRow.ifacesOut == Tryz.f6.resultTypes.toList.any (Tryz.checked.prog.ifacesRec ·))) = true := by kernel_rfl
theorem archiveGets_facts_21 : ((Rows.archiveGetsRow.loopsOut == Tryz.f6.resultTypes.toList.any (Tryz.checked.prog.loopsFrom ·))) = true := by kernel_rfl
theorem archiveGets_facts_22 : ((Rows.archiveGetsRow.plainKeys == Tryz.checked.prog.plainKeys)) = true := by kernel_rfl
theorem archiveGets_facts_23 : (Rows.archiveGetsRow.shortTexts.isNone) = true := by kernel_rfl
theorem archiveGets_facts_24 : (Tryz.checked.prog.stopsHeard) = true := by kernel_rfl
theorem archiveGets_facts_25 : (Tryz.checked.prog.mayEnter) = true := by kernel_rfl
theorem archiveGets_facts_26 : ((Rows.archiveGetsRow.lifted == Tryz.checked.prog.liftsFinal)) = true := by kernel_rfl
theorem archiveGets_facts_27 : ((Tryz.checked.prog.make == some Rows.archiveGetsRow.make)) = true := by kernel_rfl
theorem archiveGets_facts_28 : ((Rows.archiveGetsRow.kinds == (if Rows.archiveGetsRow.domain.isEmpty then [] else Tryz.f6.params.toList.map fun t => match Tryz.checked.prog.underlying t with | some (.int k) => some k | _ => none))) = true := by kernel_rfl
theorem archiveGets_facts_29 : ((Rows.archiveGetsRow.pinned == Rows.archiveGetsRow.pinnedBy)) = true := by kernel_rfl
theorem archiveGets_facts_30 : ((Rows.archiveGetsRow.veiled == (Tryz.f6.params.toList ++ Rows.archiveGetsSpec.plain.varTypes Tryz.checked.prog ++ Tryz.f6.resultTypes.toList).any (Tryz.checked.prog.veiledRec ·))) = true := by kernel_rfl
theorem archiveGets_facts_31 : (Rows.archiveGetsRow.veiledFits Tryz.checked.prog Tryz.f6.params.toList (Tryz.f6.params.toList ++ Rows.archiveGetsSpec.plain.varTypes Tryz.checked.prog ++ Tryz.f6.resultTypes.toList)) = true := by kernel_rfl
theorem archiveGets_facts : joinedFacts Tryz.checked.prog 6 Tryz.f6 Rows.archiveGetsSpec Rows.archiveGetsRow = true := and_mk (and_mk (and_mk (and_mk (and_mk (and_mk (and_mk (and_mk (and_mk (and_mk (and_mk (and_mk (and_mk (and_mk (and_mk (and_mk (and_mk (and_mk (and_mk (and_mk (and_mk (and_mk (and_mk (and_mk (and_mk (and_mk (and_mk (and_mk (and_mk (and_mk (and_mk archiveGets_facts_0 archiveGets_facts_1) archiveGets_facts_2) archiveGets_facts_3) archiveGets_facts_4) archiveGets_facts_5) archiveGets_facts_6) archiveGets_facts_7) archiveGets_facts_8) archiveGets_facts_9) archiveGets_facts_10) archiveGets_facts_11) archiveGets_facts_12) archiveGets_facts_13) archiveGets_facts_14) archiveGets_facts_15) archiveGets_facts_16) archiveGets_facts_17) archiveGets_facts_18) archiveGets_facts_19) archiveGets_facts_20) archiveGets_facts_21) archiveGets_facts_22) archiveGets_facts_23) archiveGets_facts_24) archiveGets_facts_25) archiveGets_facts_26) archiveGets_facts_27) archiveGets_facts_28) archiveGets_facts_29) archiveGets_facts_30) archiveGets_facts_31
end Go.Proofs.YthbfflleggnoaaaGreatDoor
end
