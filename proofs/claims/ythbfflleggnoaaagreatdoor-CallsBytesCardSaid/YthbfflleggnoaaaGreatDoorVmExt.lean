/- Functions without a body, by the model's own entries. -/
import Derived.Test.YthbfflleggnoaaaGreatDoorVmSound7
import Derived.Laws.Externs
import Derived.Lib.Bytealg
set_option linter.unusedSimpArgs false
set_option linter.unusedVariables false
namespace Go.Vm
open Go

/-- What a function without a body owes. -/
def ExtOK (P : Program) (f : FuncId) (e : List V → List HO → Option (CR × List HO)) : Prop :=
  ∀ vs h r h', e vs h = some (r, h') → ∀ w G xs, WR w G h → VRs G w vs xs →
    ((callFunc f xs.toArray).run P w = .ok (.enter f xs.toArray) w ∧ Calls P f xs.toArray w (CPost w G h r h')) ∨
    (∃ x w', (callFunc f xs.toArray).run P w = .ok (.value x) w' ∧ CPost w G h r h' (.returned x) w')

def xCount (a : List V) (h : List HO) : Option (CR × List HO) :=
  match a with
  | [.str s, .int .u8 c] => some (.ret (.int .i64 (Lib.countByte s c.toNat.toUInt8)), h)
  | _ => none
def xIndex (a : List V) (h : List HO) : Option (CR × List HO) :=
  match a with
  | [.str s, .int .u8 c] => some (.ret (.int .i64 (Lib.indexByte s c.toNat.toUInt8)), h)
  | _ => none
def xFromBits (a : List V) (h : List HO) : Option (CR × List HO) :=
  match a with
  | [.int .u64 b] => some (.ret (.float .f64 b.toNat), h)
  | _ => none
def xBits (a : List V) (h : List HO) : Option (CR × List HO) :=
  match a with
  | [.float .f64 b] => some (.ret (.int .u64 b), h)
  | _ => none

section
variable {P : Program} {f : FuncId} {fn : Func}

theorem VRs.inv_cons {G : Gh} {w : World} {v : V} {vs : List V} {xs : List Value} (h : VRs G w (v :: vs) xs) : ∃ x xs', xs = x :: xs' ∧ VR G w v x ∧ VRs G w vs xs' := by
  cases h with
  | cons _ x _ xs' h1 h2 => exact ⟨x, xs', rfl, h1, h2⟩

theorem cpost_same {w : World} {G : Gh} {h : List HO} {v : V} {x : Value} (hw : WR w G h) (hv : VR G w v x) : CPost w G h (.ret v) h (.returned x) w :=
  ⟨G, Ext.refl w G L0 _, hw, hv⟩

theorem xCount_ok (hf : P.funcs[f]? = some fn) (hname : (fn.name == "runtime.NumGoroutine") = false) (hb : fn.body.isNone = true) (hn : Extern.findNext fn = none) (he : Extern.find fn = some Extern.BytealgCount.count) : ExtOK P f xCount := by
  intro vs h r h' e w G xs hw hv
  refine .inr ?_
  unfold xCount at e
  split at e
  · rename_i s c
    cases e
    obtain ⟨x, l1, rfl, h1, h2⟩ := hv.inv_cons
    obtain ⟨y, l2, rfl, h3, h4⟩ := h2.inv_cons
    cases h4
    obtain ⟨b, rfl, hb'⟩ := h1.inv_str
    have := h3.inv_int
    subst this
    refine ⟨_, w, ?_, cpost_same hw (.int _ _)⟩
    rw [run_callFunc_extern hf hname hb hn he]
    rw [Lib.run_countString, hb']
    rfl
  · cases e
theorem xIndex_ok (hf : P.funcs[f]? = some fn) (hname : (fn.name == "runtime.NumGoroutine") = false) (hb : fn.body.isNone = true) (hn : Extern.findNext fn = none) (he : Extern.find fn = some Extern.BytealgIndexByte.indexByte) : ExtOK P f xIndex := by
  intro vs h r h' e w G xs hw hv
  refine .inr ?_
  unfold xIndex at e
  split at e
  · rename_i s c
    cases e
    obtain ⟨x, l1, rfl, h1, h2⟩ := hv.inv_cons
    obtain ⟨y, l2, rfl, h3, h4⟩ := h2.inv_cons
    cases h4
    obtain ⟨b, rfl, hb'⟩ := h1.inv_str
    have := h3.inv_int
    subst this
    refine ⟨_, w, ?_, cpost_same hw (.int _ _)⟩
    rw [run_callFunc_extern hf hname hb hn he]
    rw [Lib.run_indexByteString, hb']
    rfl
  · cases e
theorem xFromBits_ok (hf : P.funcs[f]? = some fn) (hname : (fn.name == "runtime.NumGoroutine") = false) (hb : fn.body.isNone = true) (hn : Extern.findNext fn = none) (he : Extern.find fn = some Extern.MathFloatBits.float64frombits) : ExtOK P f xFromBits := by
  intro vs h r h' e w G xs hw hv
  refine .inr ?_
  unfold xFromBits at e
  split at e
  · rename_i b
    cases e
    obtain ⟨x, l1, rfl, h1, h2⟩ := hv.inv_cons
    cases h2
    have := h1.inv_int
    subst this
    refine ⟨_, w, ?_, cpost_same hw (.float _ _)⟩
    rw [run_callFunc_extern hf hname hb hn he]
    rfl
  · cases e
theorem xBits_ok (hf : P.funcs[f]? = some fn) (hname : (fn.name == "runtime.NumGoroutine") = false) (hb : fn.body.isNone = true) (hn : Extern.findNext fn = none) (he : Extern.find fn = some Extern.MathFloatBits.float64bits) : ExtOK P f xBits := by
  intro vs h r h' e w G xs hw hv
  refine .inr ?_
  unfold xBits at e
  split at e
  · rename_i b
    cases e
    obtain ⟨x, l1, rfl, h1, h2⟩ := hv.inv_cons
    cases h2
    cases h1
    refine ⟨_, w, ?_, cpost_same hw (.int _ _)⟩
    rw [run_callFunc_extern hf hname hb hn he]
    rfl
  · cases e
end
end Go.Vm
