/- 'crannoglaw13.CallsBytes': the row, and the tied card. -/
import Derived.Test.YthbfflleggnoaaaGreatDoorTie
import Derived.Test.YthbfflleggnoaaaGreatDoorCards
import Derived.Test.YthbfflleggnoaaaGreatDoorFitA
import Derived.Test.YthbfflleggnoaaaGreatDoorLawA
import Derived.Test.YthbfflleggnoaaaGreatDoorFactsA
import Derived.ProofKit
import Derived.OpenShut
import Derived.LaidMore
import Derived.Lay
import Derived.SevenTiedAt
import Derived.Stop.Joined
set_option linter.unusedSimpArgs false
set_option linter.unusedVariables false
namespace Go.Proofs.YthbfflleggnoaaaGreatDoor
open Go.ChangeShapes Go.WideShapes Go.ChangeAt Go.RowKit
open Go Go.Vm Go.Vm.Tryz

theorem own : ownKnob Tryz.prog.godebug = none := by kernel_rfl
theorem laidOut : laidOutB Tryz.prog = true := by kernel_rfl

theorem fitArgs : FitAll Tryz.prog [shInode, shAnswer, shAnswer] [32, 38, 38] :=
  .cons _ _ _ _ (by kernel_rfl) (by kernel_rfl) (Nat.le_of_ble_eq_true (by kernel_rfl)) (.cons _ _ _ _ (by kernel_rfl) (by kernel_rfl) (Nat.le_of_ble_eq_true (by kernel_rfl)) (.cons _ _ _ _ (by kernel_rfl) (by kernel_rfl) (Nat.le_of_ble_eq_true (by kernel_rfl)) .nil))

theorem spec3 : ∀ us, HasAll [shInode, shAnswer, shAnswer] us → VC X 3 us [] = some (.ret (.bool true), []) := by
  intro us h
  cases h with
  | cons s v ss vs h1 h =>
    cases h with
    | cons s v' ss vs h2 h =>
      cases h with
      | cons s v'' ss vs h3 h =>
        cases h
        obtain ⟨nd, rfl, hnd⟩ := ofInode _ h1
        obtain ⟨a, rfl, ha⟩ := ofAnswer _ h2
        obtain ⟨b, rfl, hb⟩ := ofAnswer _ h3
        exact law3 nd a b hnd ha hb

set_option maxRecDepth 100000 in
theorem callsBytes_lifted (os : Os) (started : os.Started) (H : Type) (enc : TypeId × Value → H) :
    ReturnsInHanded {} Tryz.checked os 3 .any (fun w args => (Rows.callsBytesSpec.pre enc Tryz.prog Tryz.f3 Rows.callsBytesRow.domain false w args ∧ laidMetH Tryz.prog Rows.callsBytesRow.laid w) ∧ sizedMet enc Tryz.prog Tryz.f3 (OpenSpec.ofChange Rows.callsBytesSpec) false w args)
      (Rows.callsBytesSpec.post enc Tryz.prog Tryz.f3 false true false false) := by
  refine returnsInHanded_of_change_and (C := Tryz.checked) (X := fun w _ => laidMetH Tryz.prog Rows.callsBytesRow.laid w) (fun _ _ _ hh h => h.of_heap hh) own started (by kernel_rfl) Tryz.func3
    (ChangeSpec.witness_shaped (enc := enc) (C := Tryz.checked) (os := os) (X := fun w _ => laidMetH Tryz.prog Rows.callsBytesRow.laid w) false (World.laidAll Tryz.prog os Rows.callsBytesRow.laid)
      #[.agg #[.int .i64 0, .int .i64 0, .int .i64 0, .string .empty, .int .i64 0, .int .i64 0, .int .i64 0, .int .u64 0, .int .i64 0, .int .i64 0, .int .i64 0, .slice none 0 0, .slice none 0 0],
        .agg #[.int .i64 0, .string .empty, .slice none 0 0, .int .i64 0, .int .i64 0, .int .i64 0, .int .i64 0, .int .u64 0, .int .i64 0, .int .i64 0],
        .agg #[.int .i64 0, .string .empty, .slice none 0 0, .int .i64 0, .int .i64 0, .int .i64 0, .int .i64 0, .int .u64 0, .int .i64 0, .int .i64 0]] 12 (World.laidAll_os _ _ _)
      (World.shaped_of_ZipB (by kernel_rfl) (by kernel_rfl)) (by kernel_rfl) (by kernel_rfl) (by kernel_rfl)
      (by rw [MakeChecks.laidMetH_plain _ _ _ (by kernel_rfl)]; exact laidMet_laidAll _ (by kernel_rfl) (by kernel_rfl))) ?_
  intro W base args ds gs before hval0 hW hc _ hL _
  have hval : ∀ (j : Nat) t v, Tryz.f3.params[j]? = some t → args[j]? = some v → Value.okWide Tryz.prog W .any base t v := hval0
  have hs : Rows.callsBytesSpec.fn H (ds ++ []) = { results := [.lit (.bool true)], args := ds } := by
    obtain ⟨p, q, hA0, hV, rfl, _, _⟩ := hW
    have hA : DataW.TrodAll enc Tryz.prog W 0 (fun _ => true) true Tryz.f3.params.toList args.toList ds p := hA0
    rw [Tryz.params3] at hA
    obtain ⟨v0, v1, v2, d0, d1, d2, p0, p1, p2, _, rfl, _⟩ := trodAll_three hA
    rfl
  exact law_end X_ok laidOut (f := 3) (fn := Tryz.f3) (tb := 4) rfl Tryz.underlying4 (s := Rows.callsBytesSpec) rfl (ss := [shInode, shAnswer, shAnswer]) (by rw [Tryz.params3]; exact fitArgs) ⟨_, rfl⟩ Tryz.func3 rfl spec3 hval hW hs

theorem callsBytes_holds : Rows.CallsBytesSaid :=
  OpenClaim.holds_of_wide 3 Tryz.f3 rfl rfl rfl rfl rfl rfl rfl ⟨rfl, rfl, rfl, rfl, rfl⟩ rfl rfl rfl rfl rfl (by kernel_rfl) Tryz.func3 callsBytes_facts
    (of_decide_eq_true (by kernel_rfl)) (by unfold Func.isWrapper; first | (rw [if_pos (by decide +kernel)]; kernel_rfl) | (rw [if_neg (by decide +kernel)]; exact ⟨rfl, rfl⟩))
    (fun os started H enc _ => callsBytes_lifted os started H enc)

theorem callsBytes_card_holds : Rows.CallsBytesCardSaid :=
  Claim7.holds_tied_plain_at .later [] [.data, .pinned] true (true, "d28e36fd413b91fc388d8a62223ea6bbc3d08dd2b25670916632f75ac3082693") true callsBytes_holds (fun _ h => by cases h) (by kernel_rfl) (fun _ h => by cases h) callsBytes_row_tie rfl ⟨rfl, rfl⟩ (by kernel_rfl) rfl
    (fun f fn hf hfn => by
      obtain rfl : f = 3 := Option.some.inj ((show Tryz.prog.funcNamed "crannog/crannoglaw13.CallsBytes" = some 3 by kernel_rfl).symm.trans hf) |>.symm
      obtain rfl : fn = Tryz.f3 := (Option.some.inj (Tryz.func3.symm.trans hfn)).symm
      exact ⟨by kernel_rfl, fun j t ht => by
        rw [Tryz.params3] at ht
        have hm : t ∈ [32, 38, 38] := by simpa using Array.mem_of_getElem? ht
        have hall : ([32, 38, 38].all fun u => !Tryz.prog.wantsStandIn u) = true := by kernel_rfl
        exact (show Tryz.prog.wantsStandIn t = false by simpa using List.all_eq_true.1 hall t hm)⟩)
    (by kernel_rfl)

end Go.Proofs.YthbfflleggnoaaaGreatDoor
