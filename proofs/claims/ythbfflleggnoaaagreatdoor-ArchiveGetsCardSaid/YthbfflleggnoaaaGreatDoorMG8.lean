/- 'crannoglaw26.ArchiveGets': the row, and the tied card. -/
import Derived.Test.YthbfflleggnoaaaGreatDoorMG5
import Derived.Test.YthbfflleggnoaaaGreatDoorMG6
import Derived.Test.YthbfflleggnoaaaGreatDoorMG7
import Derived.Test.YthbfflleggnoaaaGreatDoorTie
import Derived.Test.YthbfflleggnoaaaGreatDoorCards
import Derived.ProofKit
import Derived.OpenShut
import Derived.LaidMore
import Derived.Lay
import Derived.SevenTiedAt
import Derived.Stop.Joined
section
set_option linter.unusedSimpArgs false
set_option linter.unusedVariables false
namespace Go.Proofs.YthbfflleggnoaaaGreatDoor
open Go.ChangeShapes Go.WideShapes Go.ChangeAt Go.RowKit
open Go Go.Vm Go.Vm.Tryz

theorem own : ownKnob Tryz.prog.godebug = none := by kernel_rfl
theorem laidOut : laidOutB Tryz.prog = true := by kernel_rfl

theorem fitArgs : FitAll Tryz.prog [.str] [9] :=
  .cons _ _ _ _ (by kernel_rfl) (by kernel_rfl) (Nat.le_of_ble_eq_true (by kernel_rfl)) (.nil)

theorem spec6 : ∀ us, HasAll [.str] us → VC X 6 us [] = some (.ret (.bool true), []) := by
  intro us h
  cases h with
  | cons s v ss vs h1 h =>
    cases h
    obtain ⟨d, rfl, hd⟩ := ofStrV h1
    exact law6 d hd

set_option maxRecDepth 100000 in
theorem archiveGets_lifted (os : Os) (started : os.Started) (H : Type) (enc : TypeId × Value → H) :
    ReturnsInHanded {} Tryz.checked os 6 .any (fun w args => (Rows.archiveGetsSpec.pre enc Tryz.prog Tryz.f6 Rows.archiveGetsRow.domain false w args ∧ laidMetH Tryz.prog Rows.archiveGetsRow.laid w) ∧ sizedMet enc Tryz.prog Tryz.f6 (OpenSpec.ofChange Rows.archiveGetsSpec) false w args)
      (Rows.archiveGetsSpec.post enc Tryz.prog Tryz.f6 false true false false) := by
  refine returnsInHanded_of_change_and (C := Tryz.checked) (X := fun w _ => laidMetH Tryz.prog Rows.archiveGetsRow.laid w) (fun _ _ _ hh h => h.of_heap hh) own started (by kernel_rfl) Tryz.func6
    (ChangeSpec.witness_shaped (enc := enc) (C := Tryz.checked) (os := os) (X := fun w _ => laidMetH Tryz.prog Rows.archiveGetsRow.laid w) false (World.laidAll Tryz.prog os Rows.archiveGetsRow.laid)
      #[.string .empty] 12 (World.laidAll_os _ _ _)
      (World.shaped_of_ZipB (by kernel_rfl) (by kernel_rfl)) (by kernel_rfl) (by kernel_rfl) (by kernel_rfl)
      (by rw [MakeChecks.laidMetH_plain _ _ _ (by kernel_rfl)]; exact laidMet_laidAll _ (by kernel_rfl) (by kernel_rfl))) ?_
  intro W base args ds gs before hval0 hW hc _ hL _
  have hval : ∀ (j : Nat) t v, Tryz.f6.params[j]? = some t → args[j]? = some v → Value.okWide Tryz.prog W .any base t v := hval0
  have hs : Rows.archiveGetsSpec.fn H (ds ++ []) = { results := [.lit (.bool true)], args := ds } := by
    obtain ⟨p, q, hA0, hV, rfl, _, _⟩ := hW
    have hA : DataW.TrodAll enc Tryz.prog W 0 (fun _ => true) true Tryz.f6.params.toList args.toList ds p := hA0
    rw [Tryz.params6] at hA
    obtain ⟨v0, d0, _, rfl, _⟩ := trodAll_one hA
    rfl
  exact law_end X_ok laidOut (f := 6) (fn := Tryz.f6) (tb := 4) rfl Tryz.underlying4 (s := Rows.archiveGetsSpec) rfl (ss := [.str]) (by rw [Tryz.params6]; exact fitArgs) ⟨_, rfl⟩ Tryz.func6 rfl spec6 hval hW hs

theorem archiveGets_holds : Rows.ArchiveGetsSaid :=
  OpenClaim.holds_of_wide 6 Tryz.f6 rfl rfl rfl rfl rfl rfl rfl ⟨rfl, rfl, rfl, rfl, rfl⟩ rfl rfl rfl rfl rfl (by kernel_rfl) Tryz.func6 archiveGets_facts
    (of_decide_eq_true (by kernel_rfl)) (by unfold Func.isWrapper; first | (rw [if_pos (by decide +kernel)]; kernel_rfl) | (rw [if_neg (by decide +kernel)]; exact ⟨rfl, rfl⟩))
    (fun os started H enc _ => archiveGets_lifted os started H enc)

theorem archiveGets_card_holds : Rows.ArchiveGetsCardSaid :=
  Claim7.holds_tied_plain_at .later [] [.data, .pinned] true (true, "d28e36fd413b91fc388d8a62223ea6bbc3d08dd2b25670916632f75ac3082693") true archiveGets_holds (fun _ h => by cases h) (by kernel_rfl) (fun _ h => by cases h) archiveGets_row_tie rfl ⟨rfl, rfl⟩ (by kernel_rfl) rfl
    (fun f fn hf hfn => by
      obtain rfl : f = 6 := Option.some.inj ((show Tryz.prog.funcNamed "crannog/crannoglaw26.ArchiveGets" = some 6 by kernel_rfl).symm.trans hf) |>.symm
      obtain rfl : fn = Tryz.f6 := (Option.some.inj (Tryz.func6.symm.trans hfn)).symm
      exact ⟨by kernel_rfl, fun j t ht => by
        rw [Tryz.params6] at ht
        have hm : t ∈ [9] := by simpa using Array.mem_of_getElem? ht
        have hall : ([9].all fun u => !Tryz.prog.wantsStandIn u) = true := by kernel_rfl
        exact (show Tryz.prog.wantsStandIn t = false by simpa using List.all_eq_true.1 hall t hm)⟩)
    (by kernel_rfl)

end Go.Proofs.YthbfflleggnoaaaGreatDoor
end
