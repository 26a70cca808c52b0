/- 'crannoglaw26.ArchivePuts': the row, and the tied card. -/
import Derived.Test.YthbfflleggnoaaaGreatDoorMP6
import Derived.Test.YthbfflleggnoaaaGreatDoorMP7
import Derived.Test.YthbfflleggnoaaaGreatDoorTie
import Derived.Test.YthbfflleggnoaaaGreatDoorCards
import Derived.ProofKit
import Derived.OpenShut
import Derived.LaidMore
import Derived.Lay
import Derived.SevenTiedAt
import Derived.Stop.Joined
section
set_option linter.unusedSimpArgs false
set_option linter.unusedVariables false
namespace Go.Proofs.YthbfflleggnoaaaGreatDoor
open Go.ChangeShapes Go.WideShapes Go.ChangeAt Go.RowKit
open Go Go.Vm Go.Vm.Tryz

theorem own : ownKnob Tryz.prog.godebug = none := by kernel_rfl
theorem laidOut : laidOutB Tryz.prog = true := by kernel_rfl

theorem fitArgs : FitAll Tryz.prog [.slice shItem, .str] [50, 9] :=
  .cons _ _ _ _ (by kernel_rfl) (by kernel_rfl) (Nat.le_of_ble_eq_true (by kernel_rfl)) (.cons _ _ _ _ (by kernel_rfl) (by kernel_rfl) (Nat.le_of_ble_eq_true (by kernel_rfl)) (.nil))

theorem spec4 : ∀ us, HasAll [.slice shItem, .str] us → VC X 4 us [] = some (.ret (.bool true), []) := by
  intro us h
  cases h with
  | cons s v ss vs h1 h =>
    cases h with
    | cons s v' ss vs h2 h =>
      cases h
      obtain ⟨l, rfl, hl, hi⟩ := ofItems _ h1
      obtain ⟨d, rfl, hd⟩ := ofStrV h2
      exact law4 l d hl hi (fun i h => (hi i h).some_) hd

set_option maxRecDepth 100000 in
theorem archivePuts_lifted (os : Os) (started : os.Started) (H : Type) (enc : TypeId × Value → H) :
    ReturnsInHanded {} Tryz.checked os 4 .any (fun w args => (Rows.archivePutsSpec.pre enc Tryz.prog Tryz.f4 Rows.archivePutsRow.domain false w args ∧ laidMetH Tryz.prog Rows.archivePutsRow.laid w) ∧ sizedMet enc Tryz.prog Tryz.f4 (OpenSpec.ofChange Rows.archivePutsSpec) false w args)
      (Rows.archivePutsSpec.post enc Tryz.prog Tryz.f4 false true false false) := by
  refine returnsInHanded_of_change_and (C := Tryz.checked) (X := fun w _ => laidMetH Tryz.prog Rows.archivePutsRow.laid w) (fun _ _ _ hh h => h.of_heap hh) own started (by kernel_rfl) Tryz.func4
    (ChangeSpec.witness_shaped (enc := enc) (C := Tryz.checked) (os := os) (X := fun w _ => laidMetH Tryz.prog Rows.archivePutsRow.laid w) false (World.laidAll Tryz.prog os Rows.archivePutsRow.laid)
      #[.slice none 0 0, .string .empty] 12 (World.laidAll_os _ _ _)
      (World.shaped_of_ZipB (by kernel_rfl) (by kernel_rfl)) (by kernel_rfl) (by kernel_rfl) (by kernel_rfl)
      (by rw [MakeChecks.laidMetH_plain _ _ _ (by kernel_rfl)]; exact laidMet_laidAll _ (by kernel_rfl) (by kernel_rfl))) ?_
  intro W base args ds gs before hval0 hW hc _ hL _
  have hval : ∀ (j : Nat) t v, Tryz.f4.params[j]? = some t → args[j]? = some v → Value.okWide Tryz.prog W .any base t v := hval0
  have hs : Rows.archivePutsSpec.fn H (ds ++ []) = { results := [.lit (.bool true)], args := ds } := by
    obtain ⟨p, q, hA0, hV, rfl, _, _⟩ := hW
    have hA : DataW.TrodAll enc Tryz.prog W 0 (fun _ => true) true Tryz.f4.params.toList args.toList ds p := hA0
    rw [Tryz.params4] at hA
    obtain ⟨v0, v1, d0, d1, p0, p1, _, rfl, _⟩ := trodAll_two hA
    rfl
  exact law_end X_ok laidOut (f := 4) (fn := Tryz.f4) (tb := 4) rfl Tryz.underlying4 (s := Rows.archivePutsSpec) rfl (ss := [.slice shItem, .str]) (by rw [Tryz.params4]; exact fitArgs) ⟨_, rfl⟩ Tryz.func4 rfl spec4 hval hW hs

theorem archivePuts_holds : Rows.ArchivePutsSaid :=
  OpenClaim.holds_of_wide 4 Tryz.f4 rfl rfl rfl rfl rfl rfl rfl ⟨rfl, rfl, rfl, rfl, rfl⟩ rfl rfl rfl rfl rfl (by kernel_rfl) Tryz.func4 archivePuts_facts
    (of_decide_eq_true (by kernel_rfl)) (by unfold Func.isWrapper; first | (rw [if_pos (by decide +kernel)]; kernel_rfl) | (rw [if_neg (by decide +kernel)]; exact ⟨rfl, rfl⟩))
    (fun os started H enc _ => archivePuts_lifted os started H enc)

theorem archivePuts_card_holds : Rows.ArchivePutsCardSaid :=
  Claim7.holds_tied_plain_at .later [] [.data, .pinned] true (true, "d28e36fd413b91fc388d8a62223ea6bbc3d08dd2b25670916632f75ac3082693") true archivePuts_holds (fun _ h => by cases h) (by kernel_rfl) (fun _ h => by cases h) archivePuts_row_tie rfl ⟨rfl, rfl⟩ (by kernel_rfl) rfl
    (fun f fn hf hfn => by
      obtain rfl : f = 4 := Option.some.inj ((show Tryz.prog.funcNamed "crannog/crannoglaw26.ArchivePuts" = some 4 by kernel_rfl).symm.trans hf) |>.symm
      obtain rfl : fn = Tryz.f4 := (Option.some.inj (Tryz.func4.symm.trans hfn)).symm
      exact ⟨by kernel_rfl, fun j t ht => by
        rw [Tryz.params4] at ht
        have hm : t ∈ [50, 9] := by simpa using Array.mem_of_getElem? ht
        have hall : ([50, 9].all fun u => !Tryz.prog.wantsStandIn u) = true := by kernel_rfl
        exact (show Tryz.prog.wantsStandIn t = false by simpa using List.all_eq_true.1 hall t hm)⟩)
    (by kernel_rfl)

end Go.Proofs.YthbfflleggnoaaaGreatDoor
end
