/- The VM is right: its answers are the model's. -/
import Derived.Test.YthbfflleggnoaaaGreatDoorVmSound6
set_option linter.unusedSimpArgs false
set_option linter.unusedVariables false
namespace Go.Vm
open Go Go.RowKit

section
variable {P : Program}

theorem body_plain {X : Env} (hX : X.OK P) {call : Calls1} (hc : CallOK P call) {n f : Nat} {sf : SF} {fn : Func} {c : Code} (hfn : P.funcs[f]? = some fn) (hbody : fn.body = some c) (hcode : fitCode P fn.ntmps c sf.body = true)
    (hres : fitRes P fn.results.toList sf.res = true) {vs : List V} {xs : List Value} {h h' : List HO} {r : CR} (hcl : endOf sf h (codeN call n sf.body (St.init vs h)) = some (r, h')) {w : World} {G : Gh} (hw : WR w G h) (hv : VRs G w vs xs) :
    Calls P f xs.toArray w (CPost w G h r h') := by
  have hs0 := init_ok hw hv fn.ntmps
  cases hq : codeN call n sf.body (St.init vs h) with
  | none => rw [hq] at hcl; cases hcl
  | some q =>
    rw [hq] at hcl
    obtain ⟨ex, σ'⟩ := q
    refine calls_of_wp hfn hbody (wp_mono (codeN_sound hX.mixed hc sf.body c (nt := fn.ntmps) hcode hs0 (by simp; omega) rfl hq) fun e a' w' hp => ?_)
    obtain ⟨p1, p2, G', L', p3, p4, p5⟩ := hp
    have hext := p5.top
    have ret : ∀ v, results σ' sf.res = some v → (r, h') = finish sf.keep h (.ret v) σ'.h → ∃ x, (Go.results fn a'.tmps).run P w' = .ok x w' ∧ CPost w G h r h' (.returned x) w' := by
      intro v hv hfin
      obtain ⟨x, h1, h2⟩ := results_ok (P := P) p4 hres hv
      refine ⟨x, h1, ?_⟩
      have := finish_ok (keep := sf.keep) (r1 := .ret v) (e := .returned x) hw ⟨G', hext, p4.hp, h2⟩
      rw [← hfin] at this; exact this
    have rr : (∃ v, results σ' sf.res = some v ∧ (r, h') = finish sf.keep h (.ret v) σ'.h) → ∃ x, (Go.results fn a'.tmps).run P w' = .ok x w' ∧ CPost w G h r h' (.returned x) w' := fun ⟨v, h1, h2⟩ => ret v h1 h2
    cases ex with
    | normal =>
      cases e with
      | normal =>
        obtain ⟨v, h1, h2⟩ := Option.map_eq_some_iff.1 hcl
        exact ⟨p1, rr ⟨v, h1, h2.symm⟩⟩
      | _ => exact p3.elim
    | ret =>
      cases e with
      | ret =>
        obtain ⟨v, h1, h2⟩ := Option.map_eq_some_iff.1 hcl
        exact ⟨p1, rr ⟨v, h1, h2.symm⟩⟩
      | _ => exact p3.elim
    | exit i => cases hcl
    | pan v =>
      cases e with
      | panic ch =>
        have hfin : finish sf.keep h (.pan v) σ'.h = (r, h') := Option.some.inj hcl
        have := finish_ok (keep := sf.keep) (r1 := .pan v) (e := .panicked ch) hw ⟨G', hext, p4.hp, p3⟩
        rw [hfin] at this
        exact ⟨p1, this⟩
      | _ => exact p3.elim

theorem body_dfr {X : Env} (hX : X.OK P) {call : Calls1} (hc : CallOK P call) {n f : Nat} {sf : SF} {D : DF} {fn : Func} {c : Code} (hfn : P.funcs[f]? = some fn) (hbody : fn.body = some c) (hcode : fitD P fn.ntmps c D.pre D.t D.rest = true)
    (hres : fitRes P fn.results.toList sf.res = true) {vs : List V} {xs : List Value} {h h' h3 : List HO} {r : CR} {σ1 σ2 : St} {g : Nat} {caps : List V} {ex : Ex} {pv v : V}
    (h1 : codeN call n D.pre (St.init vs h) = some (.normal, σ1)) (ht : σ1.e D.t = .v (.func g caps)) (h2 : codeN call n D.rest σ1 = some (ex, σ2)) (hpv : pvOf ex = some pv) (hcl : closeN X call n g caps pv σ2.h = some h3)
    (hv8 : results { σ2 with h := h3 } sf.res = some v) (hfin : finish sf.keep h (.ret v) h3 = (r, h')) {w : World} {G : Gh} (hw : WR w G h) (hv : VRs G w vs xs) :
    Calls P f xs.toArray w (CPost w G h r h') := by
  have hs0 := init_ok hw hv fn.ntmps
  refine calls_of_wp_defers hfn hbody (wp_mono (fitD_sound hX.mixed hc ht h2 c D.pre (nt := fn.ntmps) hcode hs0 (by simp; omega) rfl h1) fun e a' w' hp => ?_)
  obtain ⟨cs, p1, p2, G', L', p3, p4, p5, p6⟩ := hp
  have main : ∀ {u : FrameMode}, u ≠ .run → PvR G' w' u pv → Leaves P fn a'.tmps (CPost w G h r h') a'.defers u w' := by
    intro u hu hp
    rw [p1]
    obtain ⟨k1, k2⟩ := closeN_sound hX hc hcl p4.hp p6 hp
    refine leaves_cons hu ?_ (CallsD.mono k2 fun e u' w3 hq => ?_)
    · simpa [invoke] using k1
    · obtain ⟨y, G3, rfl, q1, q2, q3⟩ := hq
      dsimp only
      rw [q1]
      obtain ⟨s1, s2⟩ := p4.called q2 q3
      obtain ⟨x, r1, r2⟩ := results_ok (P := P) s1 hres hv8
      refine ⟨x, r1, ?_⟩
      have := finish_ok (keep := sf.keep) (r1 := .ret v) (e := .returned x) hw ⟨G3, (p5.trans s2).top, s1.hp, r2⟩
      rw [hfin] at this; exact this
  cases ex with
  | normal =>
    cases hpv
    cases e with
    | normal => exact main (by simp) (.inl ⟨rfl, rfl⟩)
    | _ => exact p3.elim
  | ret =>
    cases hpv
    cases e with
    | ret => exact main (by simp) (.inl ⟨rfl, rfl⟩)
    | _ => exact p3.elim
  | exit i => cases hpv
  | pan v' =>
    cases hpv
    cases e with
    | panic ch =>
      obtain ⟨x, rfl, hx⟩ := p3
      exact main (by simp) (.inr ⟨x, rfl, hx⟩)
    | _ => exact p3.elim

theorem callN_sound {X : Env} (hX : X.OK P) : ∀ n, CallOK P (callN X n)
  | 0 => fun f vs h r h' hc => by cases hc
  | n + 1 => by
    intro f vs h r h' hcl w G xs hw hv
    unfold callN at hcl
    split at hcl
    · rename_i e he
      exact hX.ext f e he vs h r h' hcl w G xs hw hv
    · split at hcl
      · rename_i sf hsf
        obtain ⟨fn, hfn, hfit⟩ := hX.fn f sf hsf
        unfold fitFn at hfit
        split at hfit
        · rename_i c hbody
          simp only [Bool.and_eq_true] at hfit
          obtain ⟨⟨hname, hcode⟩, hres⟩ := hfit
          have hname' : (fn.name == "runtime.NumGoroutine") = false := by simpa [bne] using hname
          have hn2 : ¬ fn.name = "runtime.NumGoroutine" := by simpa using hname'
          refine .inl ⟨by simp [callFunc, hfn, hn2, hbody], ?_⟩
          unfold bodyN at hcl
          split at hcl
          · rename_i hd hr
            rw [hd, hr] at hcode
            exact body_plain hX (callN_sound hX n) hfn hbody hcode hres hcl hw hv
          · rename_i D hd hr
            rw [hd, hr] at hcode
            cases h1 : codeN (callN X n) n D.pre (St.init vs h) with
            | none => rw [h1] at hcl; cases hcl
            | some q =>
              rw [h1] at hcl
              obtain ⟨ex1, σ1⟩ := q
              cases ex1 <;> first | (cases hcl; done) | skip
              dsimp only at hcl
              split at hcl
              · rename_i g caps ht
                simp only [Option.bind_eq_some_iff, Option.map_eq_some_iff] at hcl
                obtain ⟨⟨ex, σ2⟩, h2, pv, hpv, h3, hclose, v, h8, hfin⟩ := hcl
                exact body_dfr hX (callN_sound hX n) hfn hbody hcode hres h1 ht h2 hpv hclose h8 hfin hw hv
              · cases hcl
          · cases hcl
        · cases hfit
      · cases hcl

/-- The VM is right. -/
theorem VC_sound {X : Env} (hX : X.OK P) : CallOK P (VC X) := by
  intro f vs h r h' hc
  obtain ⟨n, hn⟩ := lim_inv hc
  exact callN_sound hX n f vs h r h' hn

end
end Go.Vm
