/- The row's closed facts, one by one. -/
import Derived.Test.YthbfflleggnoaaaGreatDoorRows
import Derived.JoinedOf
import Derived.KernelRfl
set_option linter.unusedSimpArgs false
set_option linter.unusedVariables false
namespace Go.Proofs.YthbfflleggnoaaaGreatDoor
open Go
set_option maxRecDepth 100000
theorem and_mk {a b : Bool} (ha : a = true) (hb : b = true) : (a && b) = true := by rw [ha, hb]; rfl
theorem callsBytes_facts_0 : (Rows.callsBytesRow.wf (OpenSpec.ofChange Rows.callsBytesSpec)) = true := by kernel_rfl
theorem callsBytes_facts_1 : (laidOutB Tryz.checked.prog) = true := by kernel_rfl
theorem callsBytes_facts_2 : (mapsRowed Tryz.checked.prog) = true := by kernel_rfl
theorem callsBytes_facts_3 : (Tryz.f3.params.all (Tryz.checked.prog.readableRec ·)) = true := by kernel_rfl
theorem callsBytes_facts_4 : (namedTie Tryz.checked.prog Rows.callsBytesRow.named Rows.callsBytesSpec.vars) = true := by kernel_rfl
theorem callsBytes_facts_5 : ((Rows.callsBytesRow.stops == [])) = true := by kernel_rfl
theorem callsBytes_facts_6 : ((Tryz.checked.prog.stops == [])) = true := by kernel_rfl
theorem callsBytes_facts_7 : ((Rows.callsBytesRow.knobs == [])) = true := by kernel_rfl
theorem callsBytes_facts_8 : ((Tryz.checked.prog.stopKnobs == [])) = true := by kernel_rfl
theorem callsBytes_facts_9 : ((Rows.callsBytesRow.inPlace == Tryz.checked.prog.inPlace 3)) = true := by kernel_rfl
theorem callsBytes_facts_10 : ((Rows.callsBytesRow.unfollowed == Tryz.checked.prog.unfollowed 3)) = true := by kernel_rfl
theorem callsBytes_facts_11 : ((Rows.callsBytesRow.recurses == Tryz.checked.prog.recurses 3)) = true := by kernel_rfl
theorem callsBytes_facts_12 : ((Rows.callsBytesRow.named == Tryz.checked.prog.varsNamed 3)) = true := by kernel_rfl
theorem callsBytes_facts_13 : ((Rows.callsBytesRow.maps == (Tryz.f3.params.toList ++ Rows.callsBytesSpec.plain.varTypes Tryz.checked.prog).any (Tryz.checked.prog.mapsRec ·))) = true := by kernel_rfl
theorem callsBytes_facts_14 : ((Rows.callsBytesRow.ifaces == (Tryz.f3.params.toList ++ Rows.callsBytesSpec.plain.varTypes Tryz.checked.prog).any (Tryz.checked.prog.ifacesRec ·))) = true := by kernel_rfl
theorem callsBytes_facts_15 : ((Rows.callsBytesRow.mapsOut == Tryz.checked.prog.mapsAmong Tryz.f3.resultTypes.toList)) = true := by kernel_rfl
theorem callsBytes_facts_16 : ((Rows.callsBytesRow.loops == (Tryz.f3.params.toList ++ Rows.callsBytesSpec.plain.varTypes Tryz.checked.prog).any (Tryz.checked.prog.loopsFrom ·))) = true := by kernel_rfl
theorem callsBytes_facts_17 : ((Rows.callsBytesRow.wideKeys == (Tryz.f3.params.toList ++ Rows.callsBytesSpec.plain.varTypes Tryz.checked.prog ++ Tryz.f3.resultTypes.toList).any (Tryz.checked.prog.wideKeysFrom ·))) = true := by kernel_rfl
theorem callsBytes_facts_18 : (Rows.callsBytesSpec.vars.all (Tryz.checked.prog.varReadable ·)) = true := by kernel_rfl
theorem callsBytes_facts_19 : (Tryz.f3.resultTypes.all (fun t => Tryz.checked.prog.readableRec t && decide (t < Tryz.checked.prog.types.size))) = true := by kernel_rfl
theorem callsBytes_facts_20 : ((Rows.callsBytesRow.ifacesOut == Tryz.f3.resultTypes.toList.any (Tryz.checked.prog.ifacesRec ·))) = true := by kernel_rfl
theorem callsBytes_facts_21 : ((Rows.callsBytesRow.loopsOut == Tryz.f3.resultTypes.toList.any (Tryz.checked.prog.loopsFrom ·))) = true := by kernel_rfl
theorem callsBytes_facts_22 : ((Rows.callsBytesRow.plainKeys == Tryz.checked.prog.plainKeys)) = true := by kernel_rfl
theorem callsBytes_facts_23 : (Rows.callsBytesRow.shortTexts.isNone) = true := by kernel_rfl
theorem callsBytes_facts_24 : (Tryz.checked.prog.stopsHeard) = true := by kernel_rfl
theorem callsBytes_facts_25 : (Tryz.checked.prog.mayEnter) = true := by kernel_rfl
theorem callsBytes_facts_26 : ((Rows.callsBytesRow.lifted == Tryz.checked.prog.liftsFinal)) = true := by kernel_rfl
theorem callsBytes_facts_27 : ((Tryz.checked.prog.make == some Rows.callsBytesRow.make)) = true := by kernel_rfl
theorem callsBytes_facts_28 : ((Rows.callsBytesRow.kinds == (if Rows.callsBytesRow.domain.isEmpty then [] else Tryz.f3.params.toList.map fun t => match Tryz.checked.prog.underlying t with | some (.int k) => some k | _ => none))) = true := by kernel_rfl
theorem callsBytes_facts_29 : ((Rows.callsBytesRow.pinned == Rows.callsBytesRow.pinnedBy)) = true := by kernel_rfl
theorem callsBytes_facts_30 : ((Rows.callsBytesRow.veiled == (Tryz.f3.params.toList ++ Rows.callsBytesSpec.plain.varTypes Tryz.checked.prog ++ Tryz.f3.resultTypes.toList).any (Tryz.checked.prog.veiledRec ·))) = true := by kernel_rfl
theorem callsBytes_facts_31 : (Rows.callsBytesRow.veiledFits Tryz.checked.prog Tryz.f3.params.toList (Tryz.f3.params.toList ++ Rows.callsBytesSpec.plain.varTypes Tryz.checked.prog ++ Tryz.f3.resultTypes.toList)) = true := by kernel_rfl
theorem callsBytes_facts : joinedFacts Tryz.checked.prog 3 Tryz.f3 Rows.callsBytesSpec Rows.callsBytesRow = true := and_mk (and_mk (and_mk (and_mk (and_mk (and_mk (and_mk (and_mk (and_mk (and_mk (and_mk (and_mk (and_mk (and_mk (and_mk (and_mk (and_mk (and_mk (and_mk (and_mk (and_mk (and_mk (and_mk (and_mk (and_mk (and_mk (and_mk (and_mk (and_mk (and_mk (and_mk callsBytes_facts_0 callsBytes_facts_1) callsBytes_facts_2) callsBytes_facts_3) callsBytes_facts_4) callsBytes_facts_5) callsBytes_facts_6) callsBytes_facts_7) callsBytes_facts_8) callsBytes_facts_9) callsBytes_facts_10) callsBytes_facts_11) callsBytes_facts_12) callsBytes_facts_13) callsBytes_facts_14) callsBytes_facts_15) callsBytes_facts_16) callsBytes_facts_17) callsBytes_facts_18) callsBytes_facts_19) callsBytes_facts_20) callsBytes_facts_21) callsBytes_facts_22) callsBytes_facts_23) callsBytes_facts_24) callsBytes_facts_25) callsBytes_facts_26) callsBytes_facts_27) callsBytes_facts_28) callsBytes_facts_29) callsBytes_facts_30) callsBytes_facts_31
end Go.Proofs.YthbfflleggnoaaaGreatDoor
