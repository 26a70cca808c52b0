/- The law's own runs, by the kernel. -/
import Derived.Test.YthbfflleggnoaaaGreatDoorEnvA
set_option linter.unusedSimpArgs false
set_option linter.unusedVariables false
set_option maxRecDepth 100000
namespace Go.Vm.Tryz
open Go Go.Vm
def saysTrue (r : Option (CR × List HO)) : Bool :=
  match r with
  | some (.ret (.bool true), []) => true
  | _ => false
theorem saysTrue_eq {r : Option (CR × List HO)} (h : saysTrue r = true) : r = some (.ret (.bool true), []) := by
  unfold saysTrue at h
  split at h
  · rfl
  · cases h
theorem awake_run : saysTrue (callC X 1000 8 [] []) = true := by kernel_rfl
theorem awake_ok : VC X 8 [] [] = some (.ret (.bool true), []) := callC_VC draws_ok (saysTrue_eq awake_run)
end Go.Vm.Tryz
