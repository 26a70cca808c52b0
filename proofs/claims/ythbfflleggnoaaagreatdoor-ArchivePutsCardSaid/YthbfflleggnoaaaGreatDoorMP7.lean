/- The row's closed facts, one by one. -/
import Derived.Test.YthbfflleggnoaaaGreatDoorRows
import Derived.JoinedOf
import Derived.KernelRfl
section
set_option linter.unusedSimpArgs false
set_option linter.unusedVariables false
namespace Go.Proofs.YthbfflleggnoaaaGreatDoor
open Go
set_option maxRecDepth 100000
theorem and_mk {a b : Bool} (ha : a = true) (hb : b = true) : (a && b) = true := by rw [ha, hb]; rfl
theorem archivePuts_facts_0 : (Rows.archivePutsRow.wf (OpenSpec.ofChange Rows.archivePutsSpec)) = true := by kernel_rfl
theorem archivePuts_facts_1 : (laidOutB Tryz.checked.prog) = true := by kernel_rfl
theorem archivePuts_facts_2 : (mapsRowed Tryz.checked.prog) = true := by kernel_rfl
theorem archivePuts_facts_3 : (Tryz.f4.params.all (Tryz.checked.prog.readableRec ·)) = true := by kernel_rfl
theorem archivePuts_facts_4 : (namedTie Tryz.checked.prog Rows.archivePutsRow.named Rows.archivePutsSpec.vars) = true := by kernel_rfl
theorem archivePuts_facts_5 : ((Rows.archivePutsRow.stops == [])) = true := by kernel_rfl
theorem archivePuts_facts_6 : ((Tryz.checked.prog.stops == [])) = true := by kernel_rfl
theorem archivePuts_facts_7 : ((Rows.archivePutsRow.knobs == [])) = true := by kernel_rfl
theorem archivePuts_facts_8 : ((Tryz.checked.prog.stopKnobs == [])) = true := by kernel_rfl
theorem archivePuts_facts_9 : ((Rows.archivePutsRow.inPlace == Tryz.checked.prog.inPlace 4)) = true := by kernel_rfl
theorem archivePuts_facts_10 : ((Rows.archivePutsRow.unfollowed == Tryz.checked.prog.unfollowed 4)) = true := by kernel_rfl
theorem archivePuts_facts_11 : ((Rows.archivePutsRow.recurses == Tryz.checked.prog.recurses 4)) = true := by kernel_rfl
theorem archivePuts_facts_12 : ((Rows.archivePutsRow.named == Tryz.checked.prog.varsNamed 4)) = true := by kernel_rfl
theorem archivePuts_facts_13 : ((Rows.archivePutsRow.maps == (Tryz.f4.params.toList ++ Rows.archivePutsSpec.plain.varTypes Tryz.checked.prog).any (Tryz.checked.prog.mapsRec ·))) = true := by kernel_rfl
theorem archivePuts_facts_14 : ((Rows.archivePutsRow.ifaces == (Tryz.f4.params.toList ++ Rows.archivePutsSpec.plain.varTypes Tryz.checked.prog).any (Tryz.checked.prog.ifacesRec ·))) = true := by kernel_rfl
theorem archivePuts_facts_15 : ((Rows.archivePutsRow.mapsOut == Tryz.checked.prog.mapsAmong Tryz.f4.resultTypes.toList)) = true := by kernel_rfl
theorem archivePuts_facts_16 : ((Rows.archivePutsRow.loops == (Tryz.f4.params.toList ++ Rows.archivePutsSpec.plain.varTypes Tryz.checked.prog).any (Tryz.checked.prog.loopsFrom ·))) = true := by kernel_rfl
theorem archivePuts_facts_17 : ((Rows.archivePutsRow.wideKeys == (Tryz.f4.params.toList ++ Rows.archivePutsSpec.plain.varTypes Tryz.checked.prog ++ Tryz.f4.resultTypes.toList).any (Tryz.checked.prog.wideKeysFrom ·))) = true := by kernel_rfl
theorem archivePuts_facts_18 : (Rows.archivePutsSpec.vars.all (Tryz.checked.prog.varReadable ·)) = true := by kernel_rfl
theorem archivePuts_facts_19 : (Tryz.f4.resultTypes.all (fun t => Tryz.checked.prog.readableRec t && decide (t < Tryz.checked.prog.types.size))) = true := by kernel_rfl
theorem archivePuts_facts_20 : ((Rows.archivePutsRow.ifacesOut == Tryz.f4.resultTypes.toList.any (Tryz.checked.prog.ifacesRec ·))) = true := by kernel_rfl
theorem archivePuts_facts_21 : ((Rows.archivePutsRow.loopsOut == Tryz.f4.resultTypes.toList.any (Tryz.checked.prog.loopsFrom ·))) = true := by kernel_rfl
theorem archivePuts_facts_22 : ((Rows.archivePutsRow.plainKeys == Tryz.checked.prog.plainKeys)) = true := by kernel_rfl
theorem archivePuts_facts_23 : (Rows.archivePutsRow.shortTexts.isNone) = true := by kernel_rfl
theorem archivePuts_facts_24 : (Tryz.checked.prog.stopsHeard) = true := by kernel_rfl
theorem archivePuts_facts_25 : (Tryz.checked.prog.mayEnter) = true := by kernel_rfl
theorem archivePuts_facts_26 : ((Rows.archivePutsRow.lifted == Tryz.checked.prog.liftsFinal)) = true := by kernel_rfl
theorem archivePuts_facts_27 : ((Tryz.checked.prog.make == some Rows.archivePutsRow.make)) = true := by kernel_rfl
theorem archivePuts_facts_28 : ((Rows.archivePutsRow.kinds == (if Rows.archivePutsRow.domain.isEmpty then [] else Tryz.f4.params.toList.map fun t => match Tryz.checked.prog.underlying t with | some (.int k) => some k | _ => none))) = true := by kernel_rfl
theorem archivePuts_facts_29 : ((Rows.archivePutsRow.pinned == Rows.archivePutsRow.pinnedBy)) = true := by kernel_rfl
theorem archivePuts_facts_30 : ((Rows.archivePutsRow.veiled == (Tryz.f4.params.toList ++ Rows.archivePutsSpec.plain.varTypes Tryz.checked.prog ++ Tryz.f4.resultTypes.toList).any (Tryz.checked.prog.veiledRec ·))) = true := by kernel_rfl
theorem archivePuts_facts_31 : (Rows.archivePutsRow.veiledFits Tryz.checked.prog Tryz.f4.params.toList (Tryz.f4.params.toList ++ Rows.archivePutsSpec.plain.varTypes Tryz.checked.prog ++ Tryz.f4.resultTypes.toList)) = true := by kernel_rfl
theorem archivePuts_facts : joinedFacts Tryz.checked.prog 4 Tryz.f4 Rows.archivePutsSpec Rows.archivePutsRow = true := and_mk (and_mk (and_mk (and_mk (and_mk (and_mk (and_mk (and_mk (and_mk (and_mk (and_mk (and_mk (and_mk (and_mk (and_mk (and_mk (and_mk (and_mk (and_mk (and_mk (and_mk (and_mk (and_mk (and_mk (and_mk (and_mk (and_mk (and_mk (and_mk (and_mk (and_mk archivePuts_facts_0 archivePuts_facts_1) archivePuts_facts_2) archivePuts_facts_3) archivePuts_facts_4) archivePuts_facts_5) archivePuts_facts_6) archivePuts_facts_7) archivePuts_facts_8) archivePuts_facts_9) archivePuts_facts_10) archivePuts_facts_11) archivePuts_facts_12) archivePuts_facts_13) archivePuts_facts_14) archivePuts_facts_15) archivePuts_facts_16) archivePuts_facts_17) archivePuts_facts_18) archivePuts_facts_19) archivePuts_facts_20) archivePuts_facts_21) archivePuts_facts_22) archivePuts_facts_23) archivePuts_facts_24) archivePuts_facts_25) archivePuts_facts_26) archivePuts_facts_27) archivePuts_facts_28) archivePuts_facts_29) archivePuts_facts_30) archivePuts_facts_31
end Go.Proofs.YthbfflleggnoaaaGreatDoor
end
